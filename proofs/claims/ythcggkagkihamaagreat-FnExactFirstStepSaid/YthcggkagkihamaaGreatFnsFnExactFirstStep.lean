/- What the functions that FnExactFirstStep reaches answer. -/
import Derived.Test.YthcggkagkihamaaGreatFnsFnExactFirstStepp2
import Derived.Test.YthcggkagkihamaaGreatEngZN
import Derived.Test.YthcggkagkihamaaGreatChecked
set_option linter.unusedVariables false
set_option linter.unusedSimpArgs false
namespace Go.Eng
open Go Go.RowKit Go.Proofs
set_option maxHeartbeats 1000000
set_option maxRecDepth 10000
theorem c_laws_eqDependencyS (a b : List ((List (Int × (List (Int)))) × (List (Int × (List (Int)))) × Bool × Int × Int)) (hs : szS (fun (x : (List (Int × (List (Int)))) × (List (Int × (List (Int)))) × Bool × Int × Int) => (szS (fun (x : Int × (List (Int))) => (x.2).length) (x.1)) + (szS (fun (x : Int × (List (Int))) => (x.2).length) (x.2.1))) a ≤ 1048576) : Pu Tryz.prog 25 [.c (.t none (.sl 5 (enS5 (enSl 2 (enS2 encI (enSl 1 encI))) (enSl 2 (enS2 encI (enSl 1 encI))) encB encI encI) (a))), .c (.t none (.sl 5 (enS5 (enSl 2 (enS2 encI (enSl 1 encI))) (enSl 2 (enS2 encI (enSl 1 encI))) encB encI encI) (b)))] [] 0 (.c (.t none (.v (.bool (decide (a = b)))))) := by
 refine pu_enter Tryz.func25 rfl (Nat.le_of_ble_eq_true rfl) fun w S => ?_
 have gl := sz_len (f := (fun (x : (List (Int × (List (Int)))) × (List (Int × (List (Int)))) × Bool × Int × Int) => (szS (fun (x : Int × (List (Int))) => (x.2).length) (x.1)) + (szS (fun (x : Int × (List (Int))) => (x.2).length) (x.2.1)))) (l := a)
 refine tsr<|rA<|r_end<|t_seq<|tsr ?_
 refine rM ?_
 refine r_op (o_len rfl rfl rfl) ?_
 refine rM ?_
 refine r_op (o_len rfl rfl rfl) ?_
 refine rB<|r_end ?_
 refine t_cond rfl (fun h1 => ?_) (fun h1 => ?_)
 ·
  have h1' := of_decide_eq_true h1
  refine tsr<|rA<|r_end ?_
  refine tk Tryz.func25 (.tmp rfl .nil) ?_ <;> (try clear ih0)
  all_goals ((have : a ≠ b := by rintro rfl; simp at *); simp [this])
 ·
  have h1' := of_decide_eq_false h1
  refine t_skip<|t_seq<|tsr<|rA<|r_end<|t_block ?_
  refine t_loopL (fun m => ⟨[(0, some (.c (.t none (.sl 5 (enS5 (enSl 2 (enS2 encI (enSl 1 encI))) (enSl 2 (enS2 encI (enSl 1 encI))) encB encI encI) (a))))), (1, some (.c (.t none (.sl 5 (enS5 (enSl 2 (enS2 encI (enSl 1 encI))) (enSl 2 (enS2 encI (enSl 1 encI))) encB encI encI) (b))))), (5, some (.c (.t none (.v (.int .i64 ((m : Int)))))))], [], 0⟩ : Nat → St) (fun m => m ≤ a.length ∧ a.length = b.length ∧ a.take m = b.take m) (fun m => a.length - m) 0 ⟨⟨rfl, ⟨rfl, ⟨rfl, trivial⟩⟩⟩, trivial, rfl⟩ (by exact ⟨Nat.zero_le _, by omega, rfl⟩) ?_
  rintro m hI ih0
  try dsimp only at hI ih0
  obtain ⟨i1, i2, i3⟩ := hI
  refine t_seq<|tsr<|rM ?_
  refine rM ?_
  refine r_op (o_len rfl rfl rfl) ?_
  refine rB<|r_end ?_
  refine t_cond rfl (fun h2 => ?_) (fun h2 => ?_)
  ·
   have h2' := of_decide_eq_true h2
   refine t_skip<|t_seq<|t_block<|t_seq ?_
   refine t_draw (fun _ => true) (by kernel_rfl) ?_
   refine dT 0 rfl pM ?_
   refine dT 1 rfl pM ?_
   obtain ⟨z3, hz4, b5⟩ := at_get (xs := a) (n := (m : Int)) (by omega) (by omega)
   refine dT 2 rfl (p_index (by kernel_rfl) rfl rfl b5 hz4) ?_
   refine dT 3 rfl (p_loadA (n := 5) (by kernel_rfl) (by kernel_rfl) rfl rfl) ?_
   refine dT 4 rfl pM ?_
   refine dT 5 rfl pM ?_
   obtain ⟨z6, hz7, b8⟩ := at_get (xs := b) (n := (m : Int)) (by omega) (by omega)
   refine dT 6 rfl (p_index (by kernel_rfl) rfl rfl b8 hz7) ?_
   refine dT 7 rfl (p_loadA (n := 5) (by kernel_rfl) (by kernel_rfl) rfl rfl) ?_
   refine dO 8 rfl (o_call 0 0 false (en Tryz.func14) (c_laws_eqDependency (z3.1) (z3.2.1) (z3.2.2.1) (z3.2.2.2.1) (z3.2.2.2.2) (z6.1) (z6.2.1) (z6.2.2.1) (z6.2.2.2.1) (z6.2.2.2.2) (by (have e1 := sz_at (f := (fun (x : (List (Int × (List (Int)))) × (List (Int × (List (Int)))) × Bool × Int × Int) => (szS (fun (x : Int × (List (Int))) => (x.2).length) (x.1)) + (szS (fun (x : Int × (List (Int))) => (x.2).length) (x.2.1)))) (l := a) (m := m) (by assumption); (try dsimp only at e1); omega))) rfl (.cons rfl (.agg (.cons .t0 (.cons .t0 (.cons .t0 (.cons .t0 (.cons .t0 .nil)))))) (.cons rfl (.agg (.cons .t0 (.cons .t0 (.cons .t0 (.cons .t0 (.cons .t0 .nil)))))) .nil)) rfl rfl rfl) ?_
   refine dT 9 rfl (p_not rfl) ?_
   refine d_end (by kernel_rfl) ?_
   refine t_cond rfl (fun h9 => ?_) (fun h9 => ?_)
   ·
    have h9' := of_decide_eq_false (bnt h9)
    refine tsr<|rA<|r_end ?_
    refine tk Tryz.func25 (.tmp rfl .nil) ?_ <;> (try clear ih0)
    all_goals (have := ne_at (a := a) (b := b) (by assumption) (by assumption) (by assumption); simp_all)
   ·
    have h9' := of_decide_eq_true (bnf h9)
    refine t_skip<|t_endblock<|t_region<|rM ?_
    refine rB ?_
    refine rA<|r_end ?_
    refine t_le ?_ (ih0 (m + 1) (by (try dsimp only); omega) (by (try dsimp only); exact ⟨by omega, i2, take_same i3 (same_at (by assumption) (by assumption) (by assumption))⟩))
    exact ⟨⟨rfl, ⟨rfl, ⟨(eqI (wrS (by omega))), trivial⟩⟩⟩, trivial, rfl⟩
  ·
   have h2' := of_decide_eq_false h2
   refine t_exit rfl<|tsr<|rA<|r_end ?_
   refine tk Tryz.func25 (.tmp rfl .nil) ?_ <;> (try clear ih0)
   all_goals ((obtain rfl : m = a.length := by omega); rw [List.take_length, i2, List.take_length] at i3; simp [i3])
theorem c_laws_markText (k : Int) (hk : 0 < k) (hk2 : k < 4611686018427387904) : Pu Tryz.prog 120 [.c (.t none (.v (.int .i64 (k))))] [] 0 (.c (.t none (.v (.string (mkS (mtx k)))))) := by
 refine pu_enter Tryz.func120 rfl (Nat.le_of_ble_eq_true rfl) fun w S => ?_
 refine tsr<|rA<|r_end<|t_seq<|tsr ?_
 refine rM ?_
 refine rB<|r_end ?_
 refine t_cond rfl (fun h1 => ?_) (fun h1 => ?_)
 ·
  have h1' := of_decide_eq_true h1
  exfalso; omega
 ·
  have h1' := of_decide_eq_false h1
  refine t_skip<|tsr<|rA<|r_end<|t_seq<|t_block ?_
  refine t_loopL (fun (q, out) => ⟨[(0, some (.c (.t none (.v (.int .i64 ((q : Int))))))), (2, some (.c (.t none (.v (.string (mkS (([] : List UInt8)))))))), (3, some (.c (.t none (.v (.string (mkS (out)))))))], [], 0⟩ : Nat × List UInt8 → St) (fun (q, out) => digs q ++ out = digs k.toNat ∧ (q : Int) ≤ k ∧ out.length + q ≤ k.toNat) (fun (q, out) => q) (k.toNat, []) ⟨⟨(eqI (by omega)), ⟨rfl, ⟨rfl, trivial⟩⟩⟩, trivial, rfl⟩ (by exact ⟨List.append_nil _, by omega, by simp⟩) ?_
  rintro ⟨q, out⟩ hI ih0
  try dsimp only at hI ih0
  obtain ⟨i1, i2, i3⟩ := hI
  refine t_seq<|tsr<|rM ?_
  refine rB<|r_end ?_
  refine t_cond rfl (fun h2 => ?_) (fun h2 => ?_)
  ·
   have h2' := of_decide_eq_true h2
   refine t_skip<|t_block<|tsr<|rM ?_
   refine r_op (o_binD rfl rfl rfl (rem_lit 10 rfl (by decide))) ?_
   refine rB ?_
   refine r_op (o_conv rfl Tryz.underlying3 Tryz.underlying5 rfl) ?_
   refine r_op (o_lit1 0 (e := 5) (sz := 1) (zs := [.int .u8 0]) (enc := encU) (IntKind.u8.wrap (IntKind.i64.wrap (48 + ((q % 10 : Nat) : Int)))) rfl rfl (by kernel_rfl) rfl rfl rfl rfl rfl rfl (.cons .sc .nil)) ?_
   refine r_op (o_convBSo rfl Tryz.underlying64 Tryz.underlying5 Tryz.underlying9 rfl rfl) ?_
   refine rM ?_
   refine r_op (o_cat rfl rfl rfl (by (simp [bytesOf]; omega))) ?_
   refine rA<|rtr ?_
   refine rM ?_
   refine r_op (o_binD rfl rfl rfl (quo_lit 10 rfl (by decide) (by omega))) ?_
   refine rA<|r_end<|t_endblock ?_
   refine t_le ?_ (ih0 (q / 10, (bytesOf ([IntKind.u8.wrap (IntKind.i64.wrap (48 + ((q % 10 : Nat) : Int)))])) ++ out) (by (try dsimp only); omega) (by (try dsimp only); exact ⟨by rw [digit_byte, ← i1, digs_step (q := q) (by omega), List.append_assoc], by omega, by rw [digit_byte]; simp only [List.length_append, List.length_cons, List.length_nil]; omega⟩))
   exact ⟨⟨rfl, ⟨rfl, ⟨rfl, trivial⟩⟩⟩, trivial, rfl⟩
  ·
   have h2' := of_decide_eq_false h2
   refine t_exit rfl<|tsr<|rM ?_
   refine r_op (o_cat rfl rfl rfl (by (simp [bytesOf]; omega))) ?_
   refine rA<|r_end ?_
   refine tk Tryz.func120 (.tmp rfl .nil) ?_ <;> (try clear ih0)
   all_goals ((obtain rfl : q = 0 := by omega); (have e := i1; simp only [digs, List.nil_append] at e; rw [e]; rfl))
theorem c_laws_markRelationS (U : Nat → Value) (e0 : Nat) (l : Rels) (k : Int) (hk : 0 < k) (hkl : k + 3 * ((l.length : Nat) : Int) < 4611686018427387904) : Mu Tryz.prog 63 [.c (.own 0), .c (.t none (.v (.int .i64 (k))))] [(0, some (.row (some (U 0)) e0 true 3 (enS3 encS encI encB) (l)))] 1 [(0, some (.row (some (U 0)) e0 true 3 (enS3 encS encI encB) (markRS k l)))] 1 (.c (.t none (.v (.int .i64 (k + 3 * ((l.length : Nat) : Int)))))) := by
 refine mu_enter Tryz.func63 rfl (Nat.le_of_ble_eq_true rfl) fun w S M => ?_
 refine tsr<|rA<|r_end<|t_seq<|tsr ?_
 refine rA<|r_end<|t_block ?_
 refine t_loopL (fun m => ⟨[(0, some (.c (.own 0))), (1, some (.c (.t none (.v (.int .i64 (k + 3 * (m : Int))))))), (4, some (.c (.t none (.v (.int .i64 (0)))))), (5, some (.c (.t none (.v (.int .i64 ((m : Int)))))))], [(0, some (.row (some (U 0)) e0 true 3 (enS3 encS encI encB) (mkL markR ct3 k (l.take m) ++ l.drop m)))], 1⟩ : Nat → St) (fun m => m ≤ l.length) (fun m => l.length - m) 0 ⟨⟨rfl, ⟨(eqI (by omega)), ⟨rfl, ⟨rfl, trivial⟩⟩⟩⟩, ⟨(eqR (by simp [mkL])), trivial⟩, rfl⟩ (by simp) ?_
 rintro m hI ih0
 try dsimp only at hI ih0
 have i1 := hI; have hlen : (mkL markR ct3 k (l.take m) ++ l.drop m).length = l.length := (by simp [mkL_length]; omega); have q3 := szT_ct3 (α := List UInt8 × Int × Bool) l i1; have ek : k + ((szT ct3 l m : Nat) : Int) = k + 3 * (m : Int) := (by omega); have w1 : IntKind.i64.wrap ((k + 3 * (m : Int)) + 1) = (k + 3 * (m : Int)) + 1 := wr64 (by omega) (by omega); have w2 : IntKind.i64.wrap ((k + 3 * (m : Int)) + 1 + 1) = (k + 3 * (m : Int)) + 2 := (by rw [wr64 (by omega) (by omega)]; omega)
 refine t_seq<|tsr<|rM ?_
 refine rM ?_
 refine r_op (o_leno rfl rfl rfl rfl) ?_
 refine rB<|r_end ?_
 refine t_cond rfl (fun h1 => ?_) (fun h1 => ?_)
 ·
  have h1' := of_decide_eq_true h1
  refine t_skip<|t_seq<|t_block<|tsr<|rM ?_
  refine rM ?_
  refine rM ?_
  refine r_op (o_call 1 1 false (en Tryz.func120) (c_laws_markText (k + 3 * (m : Int)) (by omega) (by omega)) rfl (.cons rfl (.c .t0) .nil) rfl rfl rfl) ?_
  obtain ⟨z2, hz3, b4⟩ := at_get (xs := mkL markR ct3 k (l.take m) ++ l.drop m) (n := (m : Int)) (by omega) (by omega)
  refine r_op (o_indexo rfl (by kernel_rfl) rfl rfl rfl b4 (at_lt b4 hz3)) ?_
  refine r_op (o_fieldo rfl (off := 0) (by kernel_rfl) rfl) ?_
  refine r_op (o_storeo ((mtx (k + 3 * (m : Int)), z2.2.1, z2.2.2)) (n := 1) (by kernel_rfl) rfl rfl hz3 rfl rfl rfl rfl (.cons .sc .nil) rfl (fun j h1 h2 => by (have : j = 0 ∨ j = 1 ∨ j = 2 ∨ j = 3 ∨ j = 4 := by omega); rcases this with rfl | rfl | rfl | rfl | rfl <;> first | rfl | (simp at h2; done))) ?_
  refine etr<|rM ?_
  refine rB ?_
  refine rA<|etr ?_
  refine rM ?_
  refine rM ?_
  refine rM ?_
  obtain ⟨z5, hz6, b7⟩ := at_get (xs := (mkL markR ct3 k (l.take m) ++ l.drop m).set ((m : Int)).toNat ((mtx (k + 3 * (m : Int)), z2.2.1, z2.2.2))) (n := (m : Int)) (by omega) (by (simp only [List.length_set]; omega))
  refine r_op (o_indexo rfl (by kernel_rfl) rfl rfl rfl b7 (at_lt b7 hz6)) ?_
  refine r_op (o_fieldo rfl (off := 1) (by kernel_rfl) rfl) ?_
  refine r_op (o_storeo ((z5.1, IntKind.i64.wrap ((k + 3 * (m : Int)) + 1), z5.2.2)) (n := 1) (by kernel_rfl) rfl rfl hz6 rfl rfl rfl rfl (.cons .sc .nil) rfl (fun j h1 h2 => by (have : j = 0 ∨ j = 1 ∨ j = 2 ∨ j = 3 ∨ j = 4 := by omega); rcases this with rfl | rfl | rfl | rfl | rfl <;> first | rfl | (simp at h2; done))) ?_
  refine etr<|rM ?_
  refine rB ?_
  refine rA<|etr ?_
  refine rM ?_
  refine rM ?_
  refine rM ?_
  refine r_op (o_binD rfl rfl rfl (rfl)) ?_
  refine rB ?_
  obtain ⟨z8, hz9, b10⟩ := at_get (xs := ((mkL markR ct3 k (l.take m) ++ l.drop m).set ((m : Int)).toNat ((mtx (k + 3 * (m : Int)), z2.2.1, z2.2.2))).set ((m : Int)).toNat ((z5.1, IntKind.i64.wrap ((k + 3 * (m : Int)) + 1), z5.2.2))) (n := (m : Int)) (by omega) (by (simp only [List.length_set]; omega))
  refine r_op (o_indexo rfl (by kernel_rfl) rfl rfl rfl b10 (at_lt b10 hz9)) ?_
  refine r_op (o_fieldo rfl (off := 2) (by kernel_rfl) rfl) ?_
  refine r_op (o_storeo ((z8.1, z8.2.1, decide ((Int.tmod ((IntKind.i64.wrap ((IntKind.i64.wrap ((k + 3 * (m : Int)) + 1)) + 1))) 3) = 0))) (n := 1) (by kernel_rfl) rfl rfl hz9 rfl rfl rfl rfl (.cons .sc .nil) rfl (fun j h1 h2 => by (have : j = 0 ∨ j = 1 ∨ j = 2 ∨ j = 3 ∨ j = 4 := by omega); rcases this with rfl | rfl | rfl | rfl | rfl <;> first | rfl | omega | (simp at h2; done))) ?_
  refine rtr<|rM ?_
  refine rB ?_
  refine rA<|r_end<|t_endblock<|t_region ?_
  refine rM ?_
  refine rB ?_
  refine rA<|r_end ?_
  have q5 := set_at hz6; have q6 := set_at hz9; subst q5; subst q6
  refine t_le ?_ (ih0 (m + 1) (by (try dsimp only); omega) (by (try dsimp only); omega))
  exact ⟨⟨rfl, ⟨(eqI (by simp only [IntKind.wrap_i64]; omega)), ⟨rfl, ⟨(eqI (wrS (by omega))), trivial⟩⟩⟩⟩, ⟨(eqR (mkL_set3 (mkL_at hz3 i1) (by rw [ek, w1, w2]; rfl))), trivial⟩, rfl⟩
 ·
  have h1' := of_decide_eq_false h1
  refine t_exit rfl<|tsr<|rM ?_
  refine rA<|r_end ?_
  refine tkM Tryz.func63 (.tmp rfl .nil) ?_ (hL := ⟨eqR ?_, trivial⟩) <;> (try clear ih0)
  all_goals (first | (refine scI ?_; omega) | exact mk_end (by omega))
theorem c_laws_markIntS (U : Nat → Value) (e0 : Nat) (l : List Int) (k : Int) (hk : 0 ≤ k) (hkl : k + l.length < 4611686018427387904) : Mu Tryz.prog 18 [.c (.own 0), .c (.t none (.v (.int .i64 (k))))] [(0, some (.row (some (U 0)) e0 true 1 encI (l)))] 1 [(0, some (.row (some (U 0)) e0 true 1 encI (seqI k l.length)))] 1 (.c (.t none (.v (.int .i64 (k + l.length))))) := by
 refine mu_enter Tryz.func18 rfl (Nat.le_of_ble_eq_true rfl) fun w S M => ?_
 refine tsr<|rA<|r_end<|t_seq<|tsr ?_
 refine rA<|r_end<|t_block ?_
 refine t_loopL (fun m => ⟨[(0, some (.c (.own 0))), (1, some (.c (.t none (.v (.int .i64 (k + m)))))), (4, some (.c (.t none (.v (.int .i64 (0)))))), (5, some (.c (.t none (.v (.int .i64 ((m : Int)))))))], [(0, some (.row (some (U 0)) e0 true 1 encI (seqI k m ++ l.drop m)))], 1⟩ : Nat → St) (fun m => m ≤ l.length) (fun m => l.length - m) 0 ⟨⟨rfl, ⟨(eqI (by simp)), ⟨rfl, ⟨rfl, trivial⟩⟩⟩⟩, ⟨(eqR (by simp [seqI])), trivial⟩, rfl⟩ (by simp) ?_
 rintro m hI ih0
 try dsimp only at hI ih0
 have hlen : (seqI k m ++ l.drop m).length = l.length := by simp [seqI_length]; omega
 refine t_seq<|tsr<|rM ?_
 refine rM ?_
 refine r_op (o_leno rfl rfl rfl rfl) ?_
 refine rB<|r_end ?_
 refine t_cond rfl (fun h1 => ?_) (fun h1 => ?_)
 ·
  have h1' := of_decide_eq_true h1
  refine t_skip<|t_seq<|t_block<|tsr<|rM ?_
  refine rM ?_
  refine rM ?_
  obtain ⟨z2, hz3, b4⟩ := at_get (xs := seqI k m ++ l.drop m) (n := (m : Int)) (by omega) (by omega)
  refine r_op (o_indexo rfl (by kernel_rfl) rfl rfl rfl b4 (at_lt b4 hz3)) ?_
  refine r_op (o_storeo (k + m) (n := 1) (by kernel_rfl) rfl rfl hz3 rfl rfl rfl rfl (.cons .sc .nil) rfl (fun j h1 h2 => by (simp at h1 h2; omega))) ?_
  refine rtr<|rM ?_
  refine rB ?_
  refine rA<|r_end<|t_endblock<|t_region ?_
  refine rM ?_
  refine rB ?_
  refine rA<|r_end ?_
  refine t_le ?_ (ih0 (m + 1) (by (try dsimp only); omega) (by (try dsimp only); omega))
  exact ⟨⟨rfl, ⟨(eqI (by rw [wr64 (by omega) (by omega)]; omega)), ⟨rfl, ⟨(eqI (wrS (by omega))), trivial⟩⟩⟩⟩, ⟨(eqR (seq_set (z := 0) (by omega))), trivial⟩, rfl⟩
 ·
  have h1' := of_decide_eq_false h1
  refine t_exit rfl<|tsr<|rM ?_
  refine rA<|r_end ?_
  refine tkM Tryz.func18 (.tmp rfl .nil) ?_ (hL := ⟨eqR ?_, trivial⟩) <;> (try clear ih0)
  all_goals ((obtain rfl : m = l.length := by omega); simp)
theorem c_laws_markFactS (U : Nat → Value) (e0 : Nat) (l : List (Int × List Int)) (k : Int) (hk : 0 ≤ k) (hkl : k + ((szS (fun (x : Int × (List (Int))) => (x.2).length) l : Nat) : Int) < 4611686018427387904) : Mu Tryz.prog 64 [.c (.own 0), .c (.t none (.v (.int .i64 (k))))] [(0, some (.row (some (U 0)) e0 true 2 (enS2 encI (enSl 1 encI)) (l)))] 1 [(0, some (.row (some (U 0)) e0 true 2 (enS2 encI (enSl 1 encI)) (markATS k l)))] 1 (.c (.t none (.v (.int .i64 (k + ((szS (fun (x : Int × (List (Int))) => (x.2).length) l : Nat) : Int)))))) := by
 refine mu_enter Tryz.func64 rfl (Nat.le_of_ble_eq_true rfl) fun w S M => ?_
 have gl := sz_len (f := (fun (x : Int × (List (Int))) => (x.2).length)) (l := l); have ga := ctA_sum l
 refine tsr<|rA<|r_end<|t_seq<|tsr ?_
 refine rA<|r_end<|t_block ?_
 refine t_loopL (fun m => ⟨[(0, some (.c (.own 0))), (1, some (.c (.t none (.v (.int .i64 (k + ((szT ctA l m : Nat) : Int))))))), (4, some (.c (.t none (.v (.int .i64 (0)))))), (5, some (.c (.t none (.v (.int .i64 ((m : Int)))))))], [(0, some (.row (some (U 0)) e0 true 2 (enS2 encI (enSl 1 encI)) (mkL markAT ctA k (l.take m) ++ l.drop m)))], 1⟩ : Nat → St) (fun m => m ≤ l.length) (fun m => l.length - m) 0 ⟨⟨rfl, ⟨(eqI (by simp [szT_zero])), ⟨rfl, ⟨rfl, trivial⟩⟩⟩⟩, ⟨(eqR (by simp [mkL])), trivial⟩, rfl⟩ (by simp) ?_
 rintro m hI ih0
 try dsimp only at hI ih0
 have i1 := hI; have e2 := ctA_part l m; have hlen : (mkL markAT ctA k (l.take m) ++ l.drop m).length = l.length := by (simp [mkL_length]; omega)
 refine t_seq<|tsr<|rM ?_
 refine rM ?_
 refine r_op (o_leno rfl rfl rfl rfl) ?_
 refine rB<|r_end ?_
 refine t_cond rfl (fun h1 => ?_) (fun h1 => ?_)
 ·
  have h1' := of_decide_eq_true h1
  refine t_skip<|t_seq<|t_block<|tsr<|rM ?_
  refine rM ?_
  refine rM ?_
  obtain ⟨z2, hz3, b4⟩ := at_get (xs := mkL markAT ctA k (l.take m) ++ l.drop m) (n := (m : Int)) (by omega) (by omega)
  refine r_op (o_indexo rfl (by kernel_rfl) rfl rfl rfl b4 (at_lt b4 hz3)) ?_
  refine r_op (o_fieldo rfl (off := 0) (by kernel_rfl) rfl) ?_
  refine r_op (o_storeo ((k + ((szT ctA l m : Nat) : Int), z2.2)) (n := 1) (by kernel_rfl) rfl rfl hz3 rfl rfl rfl rfl (.cons .sc .nil) rfl (fun j h1 h2 => by (have : j = 0 ∨ j = 1 ∨ j = 2 ∨ j = 3 ∨ j = 4 := by omega); rcases this with rfl | rfl | rfl | rfl | rfl <;> first | rfl | (simp at h2; done))) ?_
  refine etr<|rM ?_
  refine rB ?_
  refine rA<|rtr ?_
  refine rM ?_
  refine rM ?_
  obtain ⟨z5, hz6, b7⟩ := at_get (xs := (mkL markAT ctA k (l.take m) ++ l.drop m).set ((m : Int)).toNat ((k + ((szT ctA l m : Nat) : Int), z2.2))) (n := (m : Int)) (by omega) (by (simp [mkL_length, markATS]; omega))
  refine r_op (o_indexo rfl (by kernel_rfl) rfl rfl rfl b7 (at_lt b7 hz6)) ?_
  refine r_op (o_fieldo rfl (off := 1) (by kernel_rfl) rfl) ?_
  refine r_op (o_loadc rfl (by kernel_rfl) rfl rfl rfl hz6) ?_
  refine rM ?_
  refine r_op (o_callK 0 (((m : Int)).toNat) 2 1 ((z5.1, seqI (IntKind.i64.wrap ((k + ((szT ctA l m : Nat) : Int)) + 1)) (z5.2).length)) (en Tryz.func18) (fun e' U => c_laws_markIntS U e' (z5.2) (IntKind.i64.wrap ((k + ((szT ctA l m : Nat) : Int)) + 1)) (by (have e5 := congrArg (fun q => q.2.length) (set_at hz6); have e6 := szT_step (f := ctA) (mkL_at hz3 i1); have e7 := ctA_part l (m + 1); simp only [ctA] at e6; (try dsimp only at e5); simp only [IntKind.wrap_i64]; omega)) (by (have e5 := congrArg (fun q => q.2.length) (set_at hz6); have e6 := szT_step (f := ctA) (mkL_at hz3 i1); have e7 := ctA_part l (m + 1); simp only [ctA] at e6; (try dsimp only at e5); simp only [IntKind.wrap_i64]; omega))) rfl rfl hz6 rfl rfl rfl (fun j h1 h2 => by (have : j = 0 ∨ j = 1 ∨ j = 2 ∨ j = 3 ∨ j = 4 := by omega); rcases this with rfl | rfl | rfl | rfl | rfl <;> first | rfl | omega) (.cons rfl .cel (.cons rfl .t0 .nil)) rfl) ?_
  refine rA<|r_end<|t_endblock<|t_region ?_
  refine rM ?_
  refine rB ?_
  refine rA<|r_end ?_
  have q5 := set_at hz6; have q6 := szT_step (f := ctA) (mkL_at hz3 i1); have q7 := ctA_part l (m + 1); simp only [ctA] at q6; subst q5; have q8 : IntKind.i64.wrap ((k + ((szT ctA l m : Nat) : Int)) + 1) = (k + ((szT ctA l m : Nat) : Int)) + 1 := wr64 (by omega) (by omega)
  refine t_le ?_ (ih0 (m + 1) (by (try dsimp only); omega) (by (try dsimp only); omega))
  exact ⟨⟨rfl, ⟨(eqI (by rw [q8]; (try dsimp only); omega)), ⟨rfl, ⟨(eqI (wrS (by omega))), trivial⟩⟩⟩⟩, ⟨(eqR (markAT_set (mkL_at hz3 i1) (by rw [q8]; rfl))), trivial⟩, rfl⟩
 ·
  have h1' := of_decide_eq_false h1
  refine t_exit rfl<|tsr<|rM ?_
  refine rA<|r_end ?_
  refine tkM Tryz.func64 (.tmp rfl .nil) ?_ (hL := ⟨eqR ?_, trivial⟩) <;> (try clear ih0)
  all_goals ((obtain rfl : m = l.length := by omega); first | (simp [markATS]; done) | (rw [← ga]; simp [szT]))
theorem c_laws_markInstance (U : Nat → Value) (e0 e1 : Nat) (a0 : Rels) (a1 : Atoms) (k : Int) (hk : 0 < k) (hkl : k + 3 * ((a0.length : Nat) : Int) + ((szS (fun (x : Int × (List (Int))) => (x.2).length) a1 : Nat) : Int) < 4611686018427387904) : Mu Tryz.prog 16 [.agg [.own 0, .own 1], .c (.t none (.v (.int .i64 (k))))] [(0, some (.row (some (U 0)) e0 true 3 (enS3 encS encI encB) (a0))), (1, some (.row (some (U 1)) e1 true 2 (enS2 encI (enSl 1 encI)) (a1)))] 2 [(0, some (.row (some (U 0)) e0 true 3 (enS3 encS encI encB) (markRS k a0))), (1, some (.row (some (U 1)) e1 true 2 (enS2 encI (enSl 1 encI)) (markATS (k + 3 * ((a0.length : Nat) : Int)) a1)))] 2 (.c (.t none (.v (.int .i64 (k + 3 * ((a0.length : Nat) : Int) + ((szS (fun (x : Int × (List (Int))) => (x.2).length) a1 : Nat) : Int)))))) := by
 refine mu_enter Tryz.func16 rfl (Nat.le_of_ble_eq_true rfl) fun w S M => ?_
 refine tsr ?_
 refine r_op (o_box 2 rfl rfl rfl rfl) ?_
 refine rA<|etr ?_
 refine rF 0 ?_
 refine rL ?_
 refine rM ?_
 refine r_op (o_callH [⟨0, (some (U 0)), e0, 3, _, (enS3 encS encI encB), a0, markRS (k) (a0)⟩] (en Tryz.func63) (fun U => c_laws_markRelationS U e0 (a0) (k) (by omega) (by omega)) rfl ⟨rfl, trivial⟩ rfl rfl (.cons rfl (.own rfl) (.cons rfl .t0 .nil)) rfl) ?_
 refine rA<|etr ?_
 refine rF 1 ?_
 refine rL ?_
 refine rM ?_
 refine r_op (o_callH [⟨1, (some (U 1)), e1, 2, _, (enS2 encI (enSl 1 encI)), a1, markATS ((k) + 3 * (((a0).length : Nat) : Int)) (a1)⟩] (en Tryz.func64) (fun U => c_laws_markFactS U e1 (a1) ((k) + 3 * (((a0).length : Nat) : Int)) (by omega) (by omega)) rfl ⟨rfl, trivial⟩ rfl rfl (.cons rfl (.own rfl) (.cons rfl .t0 .nil)) rfl) ?_
 refine rA<|etr ?_
 refine rM ?_
 refine rA<|r_end ?_
 refine tkM Tryz.func16 (.tmp rfl .nil) ?_ (hL := ⟨eqR ?_, ⟨eqR ?_, trivial⟩⟩)
 all_goals (rfl)
theorem c_laws_markAtomS (U : Nat → Value) (e0 : Nat) (l : List (Int × List Int)) (k : Int) (hk : 0 ≤ k) (hkl : k + ((szS (fun (x : Int × (List (Int))) => (x.2).length) l : Nat) : Int) < 4611686018427387904) : Mu Tryz.prog 65 [.c (.own 0), .c (.t none (.v (.int .i64 (k))))] [(0, some (.row (some (U 0)) e0 true 2 (enS2 encI (enSl 1 encI)) (l)))] 1 [(0, some (.row (some (U 0)) e0 true 2 (enS2 encI (enSl 1 encI)) (markATS k l)))] 1 (.c (.t none (.v (.int .i64 (k + ((szS (fun (x : Int × (List (Int))) => (x.2).length) l : Nat) : Int)))))) := by
 refine mu_enter Tryz.func65 rfl (Nat.le_of_ble_eq_true rfl) fun w S M => ?_
 have gl := sz_len (f := (fun (x : Int × (List (Int))) => (x.2).length)) (l := l); have ga := ctA_sum l
 refine tsr<|rA<|r_end<|t_seq<|tsr ?_
 refine rA<|r_end<|t_block ?_
 refine t_loopL (fun m => ⟨[(0, some (.c (.own 0))), (1, some (.c (.t none (.v (.int .i64 (k + ((szT ctA l m : Nat) : Int))))))), (4, some (.c (.t none (.v (.int .i64 (0)))))), (5, some (.c (.t none (.v (.int .i64 ((m : Int)))))))], [(0, some (.row (some (U 0)) e0 true 2 (enS2 encI (enSl 1 encI)) (mkL markAT ctA k (l.take m) ++ l.drop m)))], 1⟩ : Nat → St) (fun m => m ≤ l.length) (fun m => l.length - m) 0 ⟨⟨rfl, ⟨(eqI (by simp [szT_zero])), ⟨rfl, ⟨rfl, trivial⟩⟩⟩⟩, ⟨(eqR (by simp [mkL])), trivial⟩, rfl⟩ (by simp) ?_
 rintro m hI ih0
 try dsimp only at hI ih0
 have i1 := hI; have e2 := ctA_part l m; have hlen : (mkL markAT ctA k (l.take m) ++ l.drop m).length = l.length := by (simp [mkL_length]; omega)
 refine t_seq<|tsr<|rM ?_
 refine rM ?_
 refine r_op (o_leno rfl rfl rfl rfl) ?_
 refine rB<|r_end ?_
 refine t_cond rfl (fun h1 => ?_) (fun h1 => ?_)
 ·
  have h1' := of_decide_eq_true h1
  refine t_skip<|t_seq<|t_block<|tsr<|rM ?_
  refine rM ?_
  refine rM ?_
  obtain ⟨z2, hz3, b4⟩ := at_get (xs := mkL markAT ctA k (l.take m) ++ l.drop m) (n := (m : Int)) (by omega) (by omega)
  refine r_op (o_indexo rfl (by kernel_rfl) rfl rfl rfl b4 (at_lt b4 hz3)) ?_
  refine r_op (o_fieldo rfl (off := 0) (by kernel_rfl) rfl) ?_
  refine r_op (o_storeo ((k + ((szT ctA l m : Nat) : Int), z2.2)) (n := 1) (by kernel_rfl) rfl rfl hz3 rfl rfl rfl rfl (.cons .sc .nil) rfl (fun j h1 h2 => by (have : j = 0 ∨ j = 1 ∨ j = 2 ∨ j = 3 ∨ j = 4 := by omega); rcases this with rfl | rfl | rfl | rfl | rfl <;> first | rfl | (simp at h2; done))) ?_
  refine etr<|rM ?_
  refine rB ?_
  refine rA<|rtr ?_
  refine rM ?_
  refine rM ?_
  obtain ⟨z5, hz6, b7⟩ := at_get (xs := (mkL markAT ctA k (l.take m) ++ l.drop m).set ((m : Int)).toNat ((k + ((szT ctA l m : Nat) : Int), z2.2))) (n := (m : Int)) (by omega) (by (simp [mkL_length, markATS]; omega))
  refine r_op (o_indexo rfl (by kernel_rfl) rfl rfl rfl b7 (at_lt b7 hz6)) ?_
  refine r_op (o_fieldo rfl (off := 1) (by kernel_rfl) rfl) ?_
  refine r_op (o_loadc rfl (by kernel_rfl) rfl rfl rfl hz6) ?_
  refine rM ?_
  refine r_op (o_callK 0 (((m : Int)).toNat) 2 1 ((z5.1, seqI (IntKind.i64.wrap ((k + ((szT ctA l m : Nat) : Int)) + 1)) (z5.2).length)) (en Tryz.func18) (fun e' U => c_laws_markIntS U e' (z5.2) (IntKind.i64.wrap ((k + ((szT ctA l m : Nat) : Int)) + 1)) (by (have e5 := congrArg (fun q => q.2.length) (set_at hz6); have e6 := szT_step (f := ctA) (mkL_at hz3 i1); have e7 := ctA_part l (m + 1); simp only [ctA] at e6; (try dsimp only at e5); simp only [IntKind.wrap_i64]; omega)) (by (have e5 := congrArg (fun q => q.2.length) (set_at hz6); have e6 := szT_step (f := ctA) (mkL_at hz3 i1); have e7 := ctA_part l (m + 1); simp only [ctA] at e6; (try dsimp only at e5); simp only [IntKind.wrap_i64]; omega))) rfl rfl hz6 rfl rfl rfl (fun j h1 h2 => by (have : j = 0 ∨ j = 1 ∨ j = 2 ∨ j = 3 ∨ j = 4 := by omega); rcases this with rfl | rfl | rfl | rfl | rfl <;> first | rfl | omega) (.cons rfl .cel (.cons rfl .t0 .nil)) rfl) ?_
  refine rA<|r_end<|t_endblock<|t_region ?_
  refine rM ?_
  refine rB ?_
  refine rA<|r_end ?_
  have q5 := set_at hz6; have q6 := szT_step (f := ctA) (mkL_at hz3 i1); have q7 := ctA_part l (m + 1); simp only [ctA] at q6; subst q5; have q8 : IntKind.i64.wrap ((k + ((szT ctA l m : Nat) : Int)) + 1) = (k + ((szT ctA l m : Nat) : Int)) + 1 := wr64 (by omega) (by omega)
  refine t_le ?_ (ih0 (m + 1) (by (try dsimp only); omega) (by (try dsimp only); omega))
  exact ⟨⟨rfl, ⟨(eqI (by rw [q8]; (try dsimp only); omega)), ⟨rfl, ⟨(eqI (wrS (by omega))), trivial⟩⟩⟩⟩, ⟨(eqR (markAT_set (mkL_at hz3 i1) (by rw [q8]; rfl))), trivial⟩, rfl⟩
 ·
  have h1' := of_decide_eq_false h1
  refine t_exit rfl<|tsr<|rM ?_
  refine rA<|r_end ?_
  refine tkM Tryz.func65 (.tmp rfl .nil) ?_ (hL := ⟨eqR ?_, trivial⟩) <;> (try clear ih0)
  all_goals ((obtain rfl : m = l.length := by omega); first | (simp [markATS]; done) | (rw [← ga]; simp [szT]))
theorem c_laws_markDependencyS (U : Nat → Value) (e0 : Nat) (l : List Dep) (k : Int) (hk : 0 < k) (hkl : k + (((l.map ctD).sum : Nat) : Int) < 4611686018427387904) : Mu Tryz.prog 26 [.c (.own 0), .c (.t none (.v (.int .i64 (k))))] [(0, some (.row (some (U 0)) e0 true 5 (enS5 (enSl 2 (enS2 encI (enSl 1 encI))) (enSl 2 (enS2 encI (enSl 1 encI))) encB encI encI) (l)))] 1 [(0, some (.row (some (U 0)) e0 true 5 (enS5 (enSl 2 (enS2 encI (enSl 1 encI))) (enSl 2 (enS2 encI (enSl 1 encI))) encB encI encI) (markDS k l)))] 1 (.c (.t none (.v (.int .i64 (k + (((l.map ctD).sum : Nat) : Int)))))) := by
 refine mu_enter Tryz.func26 rfl (Nat.le_of_ble_eq_true rfl) fun w S M => ?_
 refine tsr<|rA<|r_end<|t_seq<|tsr ?_
 refine rA<|r_end<|t_block ?_
 refine t_loopL (fun m => ⟨[(0, some (.c (.own 0))), (1, some (.c (.t none (.v (.int .i64 (k + ((szT ctD l m : Nat) : Int))))))), (4, some (.c (.t none (.v (.int .i64 (0)))))), (5, some (.c (.t none (.v (.int .i64 ((m : Int)))))))], [(0, some (.row (some (U 0)) e0 true 5 (enS5 (enSl 2 (enS2 encI (enSl 1 encI))) (enSl 2 (enS2 encI (enSl 1 encI))) encB encI encI) (mkL markD ctD k (l.take m) ++ l.drop m)))], 1⟩ : Nat → St) (fun m => m ≤ l.length) (fun m => l.length - m) 0 ⟨⟨rfl, ⟨(eqI (by simp [szT_zero])), ⟨rfl, ⟨rfl, trivial⟩⟩⟩⟩, ⟨(eqR (by simp [mkL])), trivial⟩, rfl⟩ (by simp) ?_
 rintro m hI ih0
 try dsimp only at hI ih0
 have i1 := hI; have hls := sz_len (f := ctD) (l := l); have hlu : szS ctD l = l.length + (l.map ctD).sum := rfl; have hlm : l.length ≤ (l.map ctD).sum := (by have := ct3_sum l; have := ctD_ge l; omega); have hlen : (mkL markD ctD k (l.take m) ++ l.drop m).length = l.length := (by simp [mkL_length]; omega)
 refine t_seq<|tsr<|rM ?_
 refine rM ?_
 refine r_op (o_leno rfl rfl rfl rfl) ?_
 refine rB<|r_end ?_
 refine t_cond rfl (fun h1 => ?_) (fun h1 => ?_)
 ·
  have h1' := of_decide_eq_true h1
  refine t_skip<|t_seq<|t_block<|tsr<|rM ?_
  refine rM ?_
  obtain ⟨z2, hz3, b4⟩ := at_get (xs := mkL markD ctD k (l.take m) ++ l.drop m) (n := (m : Int)) (by omega) (by omega)
  refine r_op (o_indexo rfl (by kernel_rfl) rfl rfl rfl b4 (at_lt b4 hz3)) ?_
  refine r_op (o_fieldo rfl (off := 0) (by kernel_rfl) rfl) ?_
  refine r_op (o_loadc rfl (by kernel_rfl) rfl rfl rfl hz3) ?_
  refine rM ?_
  refine r_op (o_callK 0 (((m : Int)).toNat) 5 0 ((markATS (k + ((szT ctD l m : Nat) : Int)) (z2.1), z2.2.1, z2.2.2.1, z2.2.2.2.1, z2.2.2.2.2)) (en Tryz.func65) (fun e' U => c_laws_markAtomS U e' (z2.1) (k + ((szT ctD l m : Nat) : Int)) (by omega) (by (have c1 := szT_step (f := ctD) (mkL_at (by assumption) i1); have c2 := szT_sum (f := ctD) (l := l) (m + 1); simp only [ctD] at c1; omega))) rfl rfl hz3 rfl rfl rfl (fun j h1 h2 => by (have : j = 0 ∨ j = 1 ∨ j = 2 ∨ j = 3 ∨ j = 4 := by omega); rcases this with rfl | rfl | rfl | rfl | rfl <;> first | rfl | omega) (.cons rfl .cel (.cons rfl .t0 .nil)) rfl) ?_
  refine rA<|etr ?_
  refine rM ?_
  refine rM ?_
  obtain ⟨z5, hz6, b7⟩ := at_get (xs := (mkL markD ctD k (l.take m) ++ l.drop m).set (((m : Int)).toNat) ((markATS (k + ((szT ctD l m : Nat) : Int)) (z2.1), z2.2.1, z2.2.2.1, z2.2.2.2.1, z2.2.2.2.2))) (n := (m : Int)) (by omega) (by (simp only [List.length_set]; omega))
  refine r_op (o_indexo rfl (by kernel_rfl) rfl rfl rfl b7 (at_lt b7 hz6)) ?_
  refine r_op (o_fieldo rfl (off := 1) (by kernel_rfl) rfl) ?_
  refine r_op (o_loadc rfl (by kernel_rfl) rfl rfl rfl hz6) ?_
  refine rM ?_
  refine r_op (o_callK 0 (((m : Int)).toNat) 5 1 ((z5.1, markATS ((k + ((szT ctD l m : Nat) : Int)) + ((szS (fun (x : Int × (List (Int))) => (x.2).length) (z2.1) : Nat) : Int)) (z5.2.1), z5.2.2.1, z5.2.2.2.1, z5.2.2.2.2)) (en Tryz.func65) (fun e' U => c_laws_markAtomS U e' (z5.2.1) ((k + ((szT ctD l m : Nat) : Int)) + ((szS (fun (x : Int × (List (Int))) => (x.2).length) (z2.1) : Nat) : Int)) (by omega) (by (have c1 := szT_step (f := ctD) (mkL_at hz3 i1); have c2 := szT_sum (f := ctD) (l := l) (m + 1); simp only [ctD] at c1; have c3 := set_at hz6; subst c3; (try dsimp only); omega))) rfl rfl hz6 rfl rfl rfl (fun j h1 h2 => by (have : j = 0 ∨ j = 1 ∨ j = 2 ∨ j = 3 ∨ j = 4 := by omega); rcases this with rfl | rfl | rfl | rfl | rfl <;> first | rfl | omega) (.cons rfl .cel (.cons rfl .t0 .nil)) rfl) ?_
  refine rA<|etr ?_
  refine rM ?_
  refine rM ?_
  refine rM ?_
  refine r_op (o_binD rfl rfl rfl (rfl)) ?_
  refine rB ?_
  obtain ⟨z8, hz9, b10⟩ := at_get (xs := ((mkL markD ctD k (l.take m) ++ l.drop m).set (((m : Int)).toNat) ((markATS (k + ((szT ctD l m : Nat) : Int)) (z2.1), z2.2.1, z2.2.2.1, z2.2.2.2.1, z2.2.2.2.2))).set (((m : Int)).toNat) ((z5.1, markATS ((k + ((szT ctD l m : Nat) : Int)) + ((szS (fun (x : Int × (List (Int))) => (x.2).length) (z2.1) : Nat) : Int)) (z5.2.1), z5.2.2.1, z5.2.2.2.1, z5.2.2.2.2))) (n := (m : Int)) (by omega) (by (simp only [List.length_set]; omega))
  refine r_op (o_indexo rfl (by kernel_rfl) rfl rfl rfl b10 (at_lt b10 hz9)) ?_
  refine r_op (o_fieldo rfl (off := 2) (by kernel_rfl) rfl) ?_
  refine r_op (o_storeo ((z8.1, z8.2.1, decide ((Int.tmod (((k + ((szT ctD l m : Nat) : Int)) + ((szS (fun (x : Int × (List (Int))) => (x.2).length) (z2.1) : Nat) : Int)) + ((szS (fun (x : Int × (List (Int))) => (x.2).length) (z5.2.1) : Nat) : Int)) 3) = 0), z8.2.2.2.1, z8.2.2.2.2)) (n := 1) (by kernel_rfl) rfl rfl hz9 rfl rfl rfl rfl (.cons .sc .nil) rfl (fun j h1 h2 => by (have : j = 0 ∨ j = 1 ∨ j = 2 ∨ j = 3 ∨ j = 4 := by omega); rcases this with rfl | rfl | rfl | rfl | rfl <;> first | rfl | (simp at h2; done))) ?_
  refine etr<|rM ?_
  refine rB ?_
  refine rA<|etr ?_
  refine rM ?_
  refine rM ?_
  refine rM ?_
  obtain ⟨z11, hz12, b13⟩ := at_get (xs := (((mkL markD ctD k (l.take m) ++ l.drop m).set (((m : Int)).toNat) ((markATS (k + ((szT ctD l m : Nat) : Int)) (z2.1), z2.2.1, z2.2.2.1, z2.2.2.2.1, z2.2.2.2.2))).set (((m : Int)).toNat) ((z5.1, markATS ((k + ((szT ctD l m : Nat) : Int)) + ((szS (fun (x : Int × (List (Int))) => (x.2).length) (z2.1) : Nat) : Int)) (z5.2.1), z5.2.2.1, z5.2.2.2.1, z5.2.2.2.2))).set ((m : Int)).toNat ((z8.1, z8.2.1, decide ((Int.tmod (((k + ((szT ctD l m : Nat) : Int)) + ((szS (fun (x : Int × (List (Int))) => (x.2).length) (z2.1) : Nat) : Int)) + ((szS (fun (x : Int × (List (Int))) => (x.2).length) (z5.2.1) : Nat) : Int)) 3) = 0), z8.2.2.2.1, z8.2.2.2.2))) (n := (m : Int)) (by omega) (by (simp only [List.length_set]; omega))
  refine r_op (o_indexo rfl (by kernel_rfl) rfl rfl rfl b13 (at_lt b13 hz12)) ?_
  refine r_op (o_fieldo rfl (off := 3) (by kernel_rfl) rfl) ?_
  refine r_op (o_storeo ((z11.1, z11.2.1, z11.2.2.1, IntKind.i64.wrap (((k + ((szT ctD l m : Nat) : Int)) + ((szS (fun (x : Int × (List (Int))) => (x.2).length) (z2.1) : Nat) : Int)) + ((szS (fun (x : Int × (List (Int))) => (x.2).length) (z5.2.1) : Nat) : Int) + 1), z11.2.2.2.2)) (n := 1) (by kernel_rfl) rfl rfl hz12 rfl rfl rfl rfl (.cons .sc .nil) rfl (fun j h1 h2 => by (have : j = 0 ∨ j = 1 ∨ j = 2 ∨ j = 3 ∨ j = 4 := by omega); rcases this with rfl | rfl | rfl | rfl | rfl <;> first | rfl | (simp at h2; done))) ?_
  refine etr<|rM ?_
  refine rB ?_
  refine rA<|etr ?_
  refine rM ?_
  refine rM ?_
  refine rM ?_
  obtain ⟨z14, hz15, b16⟩ := at_get (xs := ((((mkL markD ctD k (l.take m) ++ l.drop m).set (((m : Int)).toNat) ((markATS (k + ((szT ctD l m : Nat) : Int)) (z2.1), z2.2.1, z2.2.2.1, z2.2.2.2.1, z2.2.2.2.2))).set (((m : Int)).toNat) ((z5.1, markATS ((k + ((szT ctD l m : Nat) : Int)) + ((szS (fun (x : Int × (List (Int))) => (x.2).length) (z2.1) : Nat) : Int)) (z5.2.1), z5.2.2.1, z5.2.2.2.1, z5.2.2.2.2))).set ((m : Int)).toNat ((z8.1, z8.2.1, decide ((Int.tmod (((k + ((szT ctD l m : Nat) : Int)) + ((szS (fun (x : Int × (List (Int))) => (x.2).length) (z2.1) : Nat) : Int)) + ((szS (fun (x : Int × (List (Int))) => (x.2).length) (z5.2.1) : Nat) : Int)) 3) = 0), z8.2.2.2.1, z8.2.2.2.2))).set ((m : Int)).toNat ((z11.1, z11.2.1, z11.2.2.1, IntKind.i64.wrap (((k + ((szT ctD l m : Nat) : Int)) + ((szS (fun (x : Int × (List (Int))) => (x.2).length) (z2.1) : Nat) : Int)) + ((szS (fun (x : Int × (List (Int))) => (x.2).length) (z5.2.1) : Nat) : Int) + 1), z11.2.2.2.2))) (n := (m : Int)) (by omega) (by (simp only [List.length_set]; omega))
  refine r_op (o_indexo rfl (by kernel_rfl) rfl rfl rfl b16 (at_lt b16 hz15)) ?_
  refine r_op (o_fieldo rfl (off := 4) (by kernel_rfl) rfl) ?_
  refine r_op (o_storeo ((z14.1, z14.2.1, z14.2.2.1, z14.2.2.2.1, IntKind.i64.wrap ((IntKind.i64.wrap (((k + ((szT ctD l m : Nat) : Int)) + ((szS (fun (x : Int × (List (Int))) => (x.2).length) (z2.1) : Nat) : Int)) + ((szS (fun (x : Int × (List (Int))) => (x.2).length) (z5.2.1) : Nat) : Int) + 1)) + 1))) (n := 1) (by kernel_rfl) rfl rfl hz15 rfl rfl rfl rfl (.cons .sc .nil) rfl (fun j h1 h2 => by (have : j = 0 ∨ j = 1 ∨ j = 2 ∨ j = 3 ∨ j = 4 := by omega); rcases this with rfl | rfl | rfl | rfl | rfl <;> first | rfl | (simp at h2; done))) ?_
  refine rtr<|rM ?_
  refine rB ?_
  refine rA<|r_end<|t_endblock<|t_region ?_
  refine rM ?_
  refine rB ?_
  refine rA<|r_end ?_
  have c1 := szT_step (f := ctD) (mkL_at hz3 i1); have c2 := szT_sum (f := ctD) (l := l) (m + 1); simp only [ctD] at c1; have q1 := set_at hz6; have q2 := set_at hz9; have q3 := set_at hz12; have q4 := set_at hz15; subst q1; subst q2; subst q3; subst q4; dsimp only at *
  refine t_le ?_ (ih0 (m + 1) (by (try dsimp only); omega) (by (try dsimp only); omega))
  exact ⟨⟨rfl, ⟨(eqI (by simp only [IntKind.wrap_i64]; omega)), ⟨rfl, ⟨(eqI (wrS (by omega))), trivial⟩⟩⟩⟩, ⟨(eqR (mkL_set5 (mkL_at hz3 i1) (markD_eq (by simp only [IntKind.wrap_i64]; omega) (by simp only [IntKind.wrap_i64]; omega)))), trivial⟩, rfl⟩
 ·
  have h1' := of_decide_eq_false h1
  refine t_exit rfl<|tsr<|rM ?_
  refine rA<|r_end ?_
  refine tkM Tryz.func26 (.tmp rfl .nil) ?_ (hL := ⟨eqR ?_, trivial⟩) <;> (try clear ih0)
  all_goals (first | (refine scI ?_; rw [szT_total (by omega)]; done) | exact mk_end (by omega))
theorem c_laws_markChaseStep (U : Nat → Value) (e0 : Nat) (r : Int) (l : List Int) (k : Int) (hk : 0 ≤ k) (hkl : k + l.length < 4611686018427387904) : Mu Tryz.prog 27 [.agg [.t none (.v (.int .i64 (r))), .own 0], .c (.t none (.v (.int .i64 (k))))] [(0, some (.row (some (U 0)) e0 true 1 encI (l)))] 1 [(0, some (.row (some (U 0)) e0 true 1 encI (seqI k l.length)))] 1 (.c (.t none (.v (.int .i64 (k + l.length))))) := by
 refine mu_enter Tryz.func27 rfl (Nat.le_of_ble_eq_true rfl) fun w S M => ?_
 refine tsr ?_
 refine r_op (o_box 1 rfl rfl rfl rfl) ?_
 refine rA<|etr ?_
 refine rF 1 ?_
 refine rL ?_
 refine rM ?_
 refine r_op (o_callH [⟨0, (some (U 0)), e0, 1, _, encI, l, seqI (k) (l).length⟩] (en Tryz.func18) (fun U => c_laws_markIntS U e0 (l) (k) (by omega) (by omega)) rfl ⟨rfl, trivial⟩ rfl rfl (.cons rfl (.own rfl) (.cons rfl .t0 .nil)) rfl) ?_
 refine rA<|etr ?_
 refine rM ?_
 refine rA<|r_end ?_
 refine tkM Tryz.func27 (.tmp rfl .nil) ?_ (hL := ⟨eqR ?_, trivial⟩)
 all_goals (rfl)
theorem c_laws_heldRelationS (l : Rels) (k : Int) (hk : 0 < k) (hkl : k + 3 * ((l.length : Nat) : Int) < 4611686018427387904) : Pu Tryz.prog 66 [.c (.t none (.sl 3 (enS3 encS encI encB) (l))), .c (.t none (.v (.int .i64 (k))))] [] 0 (.c (.t none (.v (.int .i64 (if l = markRS k l then k + 3 * ((l.length : Nat) : Int) else -1))))) := by
 refine pu_enter Tryz.func66 rfl (Nat.le_of_ble_eq_true rfl) fun w S => ?_
 refine tsr<|rA<|r_end<|t_seq<|tsr ?_
 refine rA<|r_end<|t_block ?_
 refine t_loopL (fun m => ⟨[(0, some (.c (.t none (.sl 3 (enS3 encS encI encB) (l))))), (1, some (.c (.t none (.v (.int .i64 (k + 3 * (m : Int))))))), (5, some (.c (.t none (.v (.int .i64 ((m : Int)))))))], [], 0⟩ : Nat → St) (fun m => m ≤ l.length ∧ l.take m = mkL markR ct3 k (l.take m)) (fun m => l.length - m) 0 ⟨⟨rfl, ⟨(eqI (by omega)), ⟨rfl, trivial⟩⟩⟩, trivial, rfl⟩ (by exact ⟨Nat.zero_le _, rfl⟩) ?_
 rintro m hI ih0
 try dsimp only at hI ih0
 obtain ⟨i1, i2⟩ := hI; have q3 := szT_ct3 (α := List UInt8 × Int × Bool) l i1; have ek : k + ((szT ct3 l m : Nat) : Int) = k + 3 * (m : Int) := (by omega)
 refine t_seq<|tsr<|rM ?_
 refine rM ?_
 refine r_op (o_len rfl rfl rfl) ?_
 refine rB<|r_end ?_
 refine t_cond rfl (fun h1 => ?_) (fun h1 => ?_)
 ·
  have h1' := of_decide_eq_true h1
  refine t_skip<|t_seq<|t_block<|t_seq<|t_seq ?_
  refine t_draw (fun _ => true) (by kernel_rfl) ?_
  refine dT 0 rfl pM ?_
  refine dT 1 rfl pM ?_
  obtain ⟨z2, hz3, b4⟩ := at_get (xs := l) (n := (m : Int)) (by omega) (by omega)
  refine dT 2 rfl (p_index (by kernel_rfl) rfl rfl b4 hz3) ?_
  refine dT 3 rfl (p_field (off := 0) (by kernel_rfl) rfl) ?_
  refine dT 4 rfl (p_load1 (by kernel_rfl) rfl rfl) ?_
  refine dT 5 rfl pM ?_
  refine dO 6 rfl (o_call 0 0 false (en Tryz.func120) (c_laws_markText (k + 3 * (m : Int)) (by omega) (by omega)) rfl (.cons rfl (.c .t0) .nil) rfl rfl rfl) ?_
  refine dT 7 rfl (p_str rfl rfl rfl) ?_
  refine d_end (by kernel_rfl) ?_
  refine t_cond rfl (fun h5 => ?_) (fun h5 => ?_)
  ·
   have h5' := of_decide_eq_true h5
   refine tsr<|rA<|r_end ?_
   refine tk Tryz.func66 (.tmp rfl .nil) ?_ <;> (try clear ih0)
   all_goals (refine scI ?_; unfold markRS; (rw [if_neg (heldL_ne (f := markR) (ct := ct3) (m := m) hz3 rfl (by rw [ek]; exact markR_ne1 (by assumption)))]; done))
  ·
   have h5' := of_decide_eq_false h5
   refine t_skip<|tsr<|rM ?_
   refine rB ?_
   refine rA<|r_end<|t_seq<|tsr ?_
   refine rM ?_
   refine rM ?_
   refine r_op (o_index rfl (by kernel_rfl) rfl rfl b4 hz3) ?_
   refine r_op (o_field rfl (off := 1) (by kernel_rfl) rfl) ?_
   refine r_op (o_load1 rfl (by kernel_rfl) rfl rfl) ?_
   refine rM ?_
   refine rB<|r_end ?_
   refine t_cond rfl (fun h6 => ?_) (fun h6 => ?_)
   ·
    have h6' := of_decide_eq_true h6
    refine tsr<|rA<|r_end ?_
    refine tk Tryz.func66 (.tmp rfl .nil) ?_ <;> (try clear ih0)
    all_goals (refine scI ?_; unfold markRS; (rw [if_neg (heldL_ne (f := markR) (ct := ct3) (m := m) hz3 rfl (by rw [ek]; exact markR_ne2 (by assumption) (by simp only [IntKind.wrap_i64]; omega)))]; done))
   ·
    have h6' := of_decide_eq_false h6
    refine t_skip<|tsr<|rM ?_
    refine rB ?_
    refine rA<|r_end<|t_seq<|tsr ?_
    refine rM ?_
    refine rM ?_
    refine r_op (o_index rfl (by kernel_rfl) rfl rfl b4 hz3) ?_
    refine r_op (o_field rfl (off := 2) (by kernel_rfl) rfl) ?_
    refine r_op (o_load1 rfl (by kernel_rfl) rfl rfl) ?_
    refine rM ?_
    refine r_op (o_binD rfl rfl rfl (rfl)) ?_
    refine rB ?_
    refine r_op (o_neB rfl Tryz.underlying4 rfl rfl) ?_
    refine r_end ?_
    refine t_cond rfl (fun h7 => ?_) (fun h7 => ?_)
    ·
     have h7' := h7
     try simp only [decide_eq_true_eq, decide_eq_false_iff_not, Bool.not_eq_true', Bool.not_eq_false', Bool.not_false, Bool.not_true] at h7'
     refine tsr<|rA<|r_end ?_
     refine tk Tryz.func66 (.tmp rfl .nil) ?_ <;> (try clear ih0)
     all_goals (refine scI ?_; unfold markRS; (rw [if_neg (heldL_ne (f := markR) (ct := ct3) (m := m) hz3 rfl (by rw [ek]; exact markR_ne3 (by assumption) (by simp only [IntKind.wrap_i64]; omega)))]; done))
    ·
     have h7' := h7
     try simp only [decide_eq_true_eq, decide_eq_false_iff_not, Bool.not_eq_true', Bool.not_eq_false', Bool.not_false, Bool.not_true] at h7'
     refine t_skip<|t_region<|rM ?_
     refine rB ?_
     refine rA<|r_end<|t_endblock<|t_region ?_
     refine rM ?_
     refine rB ?_
     refine rA<|r_end ?_
     refine t_le ?_ (ih0 (m + 1) (by (try dsimp only); omega) (by (try dsimp only); exact ⟨by omega, heldL_step i2 hz3 rfl (by rw [ek]; exact markR_of (by assumption) (by assumption) (by assumption) (by simp only [IntKind.wrap_i64]; omega) (by simp only [IntKind.wrap_i64]; omega))⟩))
     exact ⟨⟨rfl, ⟨(eqI (by simp only [IntKind.wrap_i64]; omega)), ⟨(eqI (wr64 (by omega) (by omega))), trivial⟩⟩⟩, trivial, rfl⟩
 ·
  have h1' := of_decide_eq_false h1
  refine t_exit rfl<|tsr<|rM ?_
  refine rA<|r_end ?_
  refine tk Tryz.func66 (.tmp rfl .nil) ?_ <;> (try clear ih0)
  all_goals (refine scI ?_; unfold markRS; ((obtain rfl : m = l.length := by omega); rw [List.take_length] at i2; rw [if_pos i2]))
theorem c_laws_heldIntS (l : List Int) (k : Int) (hk : 0 ≤ k) (hkl : k + l.length < 4611686018427387904) : Pu Tryz.prog 70 [.c (.t none (.sl 1 encI (l))), .c (.t none (.v (.int .i64 (k))))] [] 0 (.c (.t none (.v (.int .i64 (if l = seqI k l.length then k + l.length else -1))))) := by
 refine pu_enter Tryz.func70 rfl (Nat.le_of_ble_eq_true rfl) fun w S => ?_
 refine tsr<|rA<|r_end<|t_seq<|tsr ?_
 refine rA<|r_end<|t_block ?_
 refine t_loopL (fun m => ⟨[(0, some (.c (.t none (.sl 1 encI (l))))), (1, some (.c (.t none (.v (.int .i64 (k + m)))))), (5, some (.c (.t none (.v (.int .i64 ((m : Int)))))))], [], 0⟩ : Nat → St) (fun m => m ≤ l.length ∧ l.take m = seqI k m) (fun m => l.length - m) 0 ⟨⟨rfl, ⟨(eqI (by simp)), ⟨rfl, trivial⟩⟩⟩, trivial, rfl⟩ (by exact ⟨Nat.zero_le _, rfl⟩) ?_
 rintro m hI ih0
 try dsimp only at hI ih0
 obtain ⟨i1, i2⟩ := hI
 refine t_seq<|tsr<|rM ?_
 refine rM ?_
 refine r_op (o_len rfl rfl rfl) ?_
 refine rB<|r_end ?_
 refine t_cond rfl (fun h1 => ?_) (fun h1 => ?_)
 ·
  have h1' := of_decide_eq_true h1
  refine t_skip<|t_seq<|t_block<|t_seq<|tsr<|rM ?_
  refine rM ?_
  obtain ⟨z2, hz3, b4⟩ := at_get (xs := l) (n := (m : Int)) (by omega) (by omega)
  refine r_op (o_index rfl (by kernel_rfl) rfl rfl b4 hz3) ?_
  refine r_op (o_load1 rfl (by kernel_rfl) rfl rfl) ?_
  refine rM ?_
  refine rB<|r_end ?_
  refine t_cond rfl (fun h5 => ?_) (fun h5 => ?_)
  ·
   have h5' := of_decide_eq_true h5
   refine tsr<|rA<|r_end ?_
   refine tk Tryz.func70 (.tmp rfl .nil) ?_ <;> (try clear ih0)
   all_goals (rw [if_neg (held_ne i2 (by assumption) (by assumption))])
  ·
   have h5' := of_decide_eq_false h5
   refine t_skip<|t_region<|rM ?_
   refine rB ?_
   refine rA<|r_end<|t_endblock<|t_region ?_
   refine rM ?_
   refine rB ?_
   refine rA<|r_end ?_
   refine t_le ?_ (ih0 (m + 1) (by (try dsimp only); omega) (by (try dsimp only); exact ⟨by omega, held_step i2 (by assumption) rfl (by omega)⟩))
   exact ⟨⟨rfl, ⟨(eqI (by rw [wr64 (by omega) (by omega)]; omega)), ⟨(eqI (wrS (by omega))), trivial⟩⟩⟩, trivial, rfl⟩
 ·
  have h1' := of_decide_eq_false h1
  refine t_exit rfl<|tsr<|rM ?_
  refine rA<|r_end ?_
  refine tk Tryz.func70 (.tmp rfl .nil) ?_ <;> (try clear ih0)
  all_goals ((obtain rfl : m = l.length := by omega); rw [List.take_length] at i2; rw [if_pos i2])
theorem c_laws_heldFactS (l : Atoms) (k : Int) (hk : 0 ≤ k) (hkl : k + ((szS (fun (x : Int × (List (Int))) => (x.2).length) l : Nat) : Int) < 4611686018427387904) : Pu Tryz.prog 67 [.c (.t none (.sl 2 (enS2 encI (enSl 1 encI)) (l))), .c (.t none (.v (.int .i64 (k))))] [] 0 (.c (.t none (.v (.int .i64 (if l = markATS k l then k + ((szS (fun (x : Int × (List (Int))) => (x.2).length) l : Nat) : Int) else -1))))) := by
 refine pu_enter Tryz.func67 rfl (Nat.le_of_ble_eq_true rfl) fun w S => ?_
 have gl := sz_len (f := (fun (x : Int × (List (Int))) => (x.2).length)) (l := l); have ga := ctA_sum l
 refine tsr<|rA<|r_end<|t_seq<|tsr ?_
 refine rA<|r_end<|t_block ?_
 refine t_loopL (fun m => ⟨[(0, some (.c (.t none (.sl 2 (enS2 encI (enSl 1 encI)) (l))))), (1, some (.c (.t none (.v (.int .i64 (k + ((szT ctA l m : Nat) : Int))))))), (5, some (.c (.t none (.v (.int .i64 ((m : Int)))))))], [], 0⟩ : Nat → St) (fun m => m ≤ l.length ∧ l.take m = mkL markAT ctA k (l.take m)) (fun m => l.length - m) 0 ⟨⟨rfl, ⟨(eqI (by simp [szT_zero])), ⟨rfl, trivial⟩⟩⟩, trivial, rfl⟩ (by exact ⟨Nat.zero_le _, rfl⟩) ?_
 rintro m hI ih0
 try dsimp only at hI ih0
 obtain ⟨i1, i2⟩ := hI; have e2 := ctA_part l m; have e3 := ctA_part l (m + 1); have q8 : IntKind.i64.wrap ((k + ((szT ctA l m : Nat) : Int)) + 1) = (k + ((szT ctA l m : Nat) : Int)) + 1 := wr64 (by omega) (by omega)
 refine t_seq<|tsr<|rM ?_
 refine rM ?_
 refine r_op (o_len rfl rfl rfl) ?_
 refine rB<|r_end ?_
 refine t_cond rfl (fun h1 => ?_) (fun h1 => ?_)
 ·
  have h1' := of_decide_eq_true h1
  refine t_skip<|t_seq<|t_block<|t_seq<|tsr<|rM ?_
  refine rM ?_
  obtain ⟨z2, hz3, b4⟩ := at_get (xs := l) (n := (m : Int)) (by omega) (by omega)
  refine r_op (o_index rfl (by kernel_rfl) rfl rfl b4 hz3) ?_
  refine r_op (o_field rfl (off := 0) (by kernel_rfl) rfl) ?_
  refine r_op (o_load1 rfl (by kernel_rfl) rfl rfl) ?_
  refine rM ?_
  refine rB<|r_end ?_
  refine t_cond rfl (fun h5 => ?_) (fun h5 => ?_)
  ·
   have h5' := of_decide_eq_true h5
   refine tsr<|rA<|r_end ?_
   refine tk Tryz.func67 (.tmp rfl .nil) ?_ <;> (try clear ih0)
   all_goals (refine scI ?_; unfold markATS; rw [if_neg (heldL_ne (f := markAT) (ct := ctA) (m := m) hz3 rfl (hB_ne1 (by omega)))])
  ·
   have h5' := of_decide_eq_false h5
   refine t_skip<|tsr<|rM ?_
   refine rB ?_
   refine rA<|etr ?_
   refine rM ?_
   refine rM ?_
   refine r_op (o_index rfl (by kernel_rfl) rfl rfl b4 hz3) ?_
   refine r_op (o_field rfl (off := 1) (by kernel_rfl) rfl) ?_
   refine r_op (o_load1 rfl (by kernel_rfl) rfl rfl) ?_
   refine rM ?_
   refine r_op (o_call 0 0 false (en Tryz.func70) (c_laws_heldIntS (z2.2) (IntKind.i64.wrap ((k + ((szT ctA l m : Nat) : Int)) + 1)) (by omega) (by (have e1 := szT_step (f := ctA) (l := l) (m := m) (by assumption); simp only [ctA] at e1; simp only [IntKind.wrap_i64]; omega))) rfl (.cons rfl (.c .t0) (.cons rfl (.c .t0) .nil)) rfl rfl rfl) ?_
   refine rA<|etr ?_
   refine rM ?_
   refine rB<|r_end ?_
   refine t_cond rfl (fun h6 => ?_) (fun h6 => ?_)
   ·
    have h6' := of_decide_eq_true h6
    refine tsr<|rA<|r_end ?_
    refine tk Tryz.func67 (.tmp rfl .nil) ?_ <;> (try clear ih0)
    all_goals (refine scI ?_; unfold markATS; rw [if_neg (heldL_ne (f := markAT) (ct := ctA) (m := m) hz3 rfl (hB_ne2 q8 (fun e => by (simp only [if_pos e] at *; omega))))])
   ·
    have h6' := of_decide_eq_false h6
    refine t_skip<|t_endblock<|t_region<|rM ?_
    refine rB ?_
    refine rA<|r_end ?_
    have e1 := szT_step (f := ctA) (l := l) (m := m) hz3; simp only [ctA] at e1; have ez : z2.2 = seqI (IntKind.i64.wrap ((k + ((szT ctA l m : Nat) : Int)) + 1)) (List.length z2.2) := Decidable.byContradiction fun e => by (simp only [if_neg e] at *; omega)
    refine t_le ?_ (ih0 (m + 1) (by (try dsimp only); omega) (by (try dsimp only); exact ⟨by omega, heldL_step i2 hz3 rfl (hB_ok (by omega) (by rw [q8] at ez; exact ez))⟩))
    exact ⟨⟨rfl, ⟨(eqI (by rw [if_pos ez, q8]; omega)), ⟨(eqI (wrS (by omega))), trivial⟩⟩⟩, trivial, rfl⟩
 ·
  have h1' := of_decide_eq_false h1
  refine t_exit rfl<|tsr<|rM ?_
  refine rA<|r_end ?_
  refine tk Tryz.func67 (.tmp rfl .nil) ?_ <;> (try clear ih0)
  all_goals (refine scI ?_; unfold markATS; (obtain rfl : m = l.length := by omega); rw [List.take_length] at i2; rw [if_pos i2, ← ga]; simp [szT])
theorem c_laws_heldInstance (a0 : Rels) (a1 : Atoms) (k : Int) (hk : 0 < k) (hkl : k + 3 * ((a0.length : Nat) : Int) + ((szS (fun (x : Int × (List (Int))) => (x.2).length) a1 : Nat) : Int) < 4611686018427387904) : Pu Tryz.prog 19 [.agg [.t none (.sl 3 (enS3 encS encI encB) (a0)), .t none (.sl 2 (enS2 encI (enSl 1 encI)) (a1))], .c (.t none (.v (.int .i64 (k))))] [] 0 (.c (.t none (.v (.int .i64 (if a0 = markRS k a0 ∧ a1 = markATS (k + 3 * ((a0.length : Nat) : Int)) a1 then k + 3 * ((a0.length : Nat) : Int) + ((szS (fun (x : Int × (List (Int))) => (x.2).length) a1 : Nat) : Int) else -1))))) := by
 refine pu_enter Tryz.func19 rfl (Nat.le_of_ble_eq_true rfl) fun w S => ?_
 refine tsr ?_
 refine r_op (o_box 0 rfl rfl rfl rfl) ?_
 refine rA<|etr ?_
 refine rF 0 ?_
 refine rL ?_
 refine rM ?_
 refine r_op (o_call 1 1 false (en Tryz.func66) (c_laws_heldRelationS (a0) (k) (by omega) (by omega)) rfl (.cons rfl (.c .t0) (.cons rfl (.c .t0) .nil)) rfl rfl rfl) ?_
 refine rA<|r_end<|t_seq<|tsr ?_
 refine rM ?_
 refine rB<|r_end ?_
 refine t_cond rfl (fun h1 => ?_) (fun h1 => ?_)
 ·
  have h1' := of_decide_eq_true h1
  refine tsr<|rA<|r_end ?_
  refine tk Tryz.func19 (.tmp rfl .nil) ?_
  all_goals (refine scI ?_; grind)
 ·
  have h1' := of_decide_eq_false h1
  refine t_skip<|tsr<|rF 1 ?_
  refine rL ?_
  refine rM ?_
  refine r_op (o_call 1 1 false (en Tryz.func67) (c_laws_heldFactS (a1) (if (a0) = markRS (k) (a0) then (k) + 3 * (((a0).length : Nat) : Int) else -1) (by omega) (by omega)) rfl (.cons rfl (.c .t0) (.cons rfl (.c .t0) .nil)) rfl rfl rfl) ?_
  refine rA<|r_end<|t_seq<|tsr ?_
  refine rM ?_
  refine rB<|r_end ?_
  refine t_cond rfl (fun h2 => ?_) (fun h2 => ?_)
  ·
   have h2' := of_decide_eq_true h2
   refine tsr<|rA<|r_end ?_
   refine tk Tryz.func19 (.tmp rfl .nil) ?_
   all_goals (refine scI ?_; grind)
  ·
   have h2' := of_decide_eq_false h2
   refine t_skip<|tsr<|rM ?_
   refine rA<|r_end ?_
   refine tk Tryz.func19 (.tmp rfl .nil) ?_
   all_goals (refine scI ?_; grind)
theorem c_laws_heldChaseStep (r : Int) (l : List Int) (k : Int) (hk : 0 ≤ k) (hkl : k + l.length < 4611686018427387904) : Pu Tryz.prog 28 [.agg [.t none (.v (.int .i64 (r))), .t none (.sl 1 encI (l))], .c (.t none (.v (.int .i64 (k))))] [] 0 (.c (.t none (.v (.int .i64 (if l = seqI k l.length then k + l.length else -1))))) := by
 refine pu_enter Tryz.func28 rfl (Nat.le_of_ble_eq_true rfl) fun w S => ?_
 refine tsr ?_
 refine r_op (o_box 0 rfl rfl rfl rfl) ?_
 refine rA<|etr ?_
 refine rF 1 ?_
 refine rL ?_
 refine rM ?_
 refine r_op (o_call 1 1 false (en Tryz.func70) (c_laws_heldIntS (l) (k) (by omega) (by omega)) rfl (.cons rfl (.c .t0) (.cons rfl (.c .t0) .nil)) rfl rfl rfl) ?_
 refine rA<|r_end<|t_seq<|tsr ?_
 refine rM ?_
 refine rB<|r_end ?_
 refine t_cond rfl (fun h1 => ?_) (fun h1 => ?_)
 ·
  have h1' := of_decide_eq_true h1
  refine tsr<|rA<|r_end ?_
  refine tk Tryz.func28 (.tmp rfl .nil) ?_
  all_goals (split at h1' <;> first | omega | simp_all)
 ·
  have h1' := of_decide_eq_false h1
  refine t_skip<|tsr<|rM ?_
  refine rA<|r_end ?_
  refine tk Tryz.func28 (.tmp rfl .nil) ?_
  all_goals (rfl)
set_option maxHeartbeats 4000000 in
theorem c_laws_FnExactFirstStep (rs : Rels) (fs : Atoms) (ds : List Dep) (h0 : (okL (fun (x : List UInt8 × Int × Bool) => okS (x.1) ∧ okI (x.2.1) ∧ okB (x.2.2))) rs) (h1 : (okL (fun (x : Int × (List (Int))) => okI (x.1) ∧ (okL okI) (x.2))) fs) (h2 : (okL (fun (x : (List (Int × (List (Int)))) × (List (Int × (List (Int)))) × Bool × Int × Int) => (okL (fun (x : Int × (List (Int))) => okI (x.1) ∧ (okL okI) (x.2))) (x.1) ∧ (okL (fun (x : Int × (List (Int))) => okI (x.1) ∧ (okL okI) (x.2))) (x.2.1) ∧ okB (x.2.2.1) ∧ okI (x.2.2.2.1) ∧ okI (x.2.2.2.2))) ds) : Pu Tryz.prog 4 [.agg [.t none (.sl 3 (enS3 encS encI encB) (rs)), .t none (.sl 2 (enS2 encI (enSl 1 encI)) (fs))], .c (.t none (.sl 5 (enS5 (enSl 2 (enS2 encI (enSl 1 encI))) (enSl 2 (enS2 encI (enSl 1 encI))) encB encI encI) (ds)))] [] 0 (.c (.t none (.v (.bool (true))))) := by
 refine pu_enter Tryz.func4 rfl (Nat.le_of_ble_eq_true rfl) fun w S => ?_
 have g0 := h0.1; have g1 := h1.1; have g2 := h2.1; have gr := sz_len (f := (fun (x : List UInt8 × Int × Bool) => (x.1).length)) (l := rs); have gd : (ds.map ctD).sum ≤ 3 * szS (fun (x : (List (Int × (List (Int)))) × (List (Int × (List (Int)))) × Bool × Int × Int) => (szS (fun (x : Int × (List (Int))) => (x.2).length) (x.1)) + (szS (fun (x : Int × (List (Int))) => (x.2).length) (x.2.1))) ds := ctD_sum ds; have gv := vioB_len (rs := rs) (fs := fs) (ds := ds); have ho : ∀ z ∈ fs, ∀ x ∈ z.2, okI x := fun z hz x hx => ((h1.2 z hz).2).2 x hx; have hod : ∀ d ∈ ds, ∀ z ∈ d.1, ∀ x ∈ z.2, okI x := fun d hd z hz x hx => (((h2.2 d hd).1.2 z hz).2).2 x hx; have hoe : ∀ d ∈ ds, ∀ z ∈ d.2.1, ∀ x ∈ z.2, okI x := fun d hd z hz x hx => (((h2.2 d hd).2.1.2 z hz).2).2 x hx; have tl := fstR_len rs fs ds; have tz := fstR_sz (f := (fun (x : List UInt8 × Int × Bool) => (x.1).length)) rs fs ds; have ts : szS (fun (x : Int × (List (Int))) => (x.2).length) (fstS rs fs ds) ≤ szS (fun (x : Int × (List (Int))) => (x.2).length) fs + szS (fun (x : (List (Int × (List (Int)))) × (List (Int × (List (Int)))) × Bool × Int × Int) => (szS (fun (x : Int × (List (Int))) => (x.2).length) (x.1)) + (szS (fun (x : Int × (List (Int))) => (x.2).length) (x.2.1))) ds := fstS_sz rs fs ds; have mi0 := markRS_idem 1 (fstR rs fs ds); have ml0 := markRS_len 1 (fstR rs fs ds); have mi1 := markATS_idem (1 + 3 * (((fstR rs fs ds).length : Nat) : Int)) (fstS rs fs ds); have ms1 := markATS_sz' (1 + 3 * (((fstR rs fs ds).length : Nat) : Int)) (fstS rs fs ds)
 refine tsr ?_
 refine r_op (o_box 0 rfl rfl rfl rfl) ?_
 refine rA<|etr ?_
 refine rA<|etr ?_
 refine rC 2 ?_
 refine rM ?_
 refine r_op (o_call 1 1 false (en Tryz.func6) (c_laws_szInstance (rs) (fs) (1048576) (by omega) (by omega) (by omega) (by omega)) rfl (.cons rfl (.agg (.cons .t0 (.cons .t0 .nil))) (.cons rfl (.c .t0) .nil)) rfl rfl rfl) ?_
 refine rA<|r_end<|t_seq<|tsr ?_
 refine rM ?_
 refine rB<|r_end ?_
 refine t_cond rfl (fun h1 => ?_) (fun h1 => ?_)
 ·
  have h1' := of_decide_eq_true h1
  refine tsr<|rA<|r_end ?_
  refine tk Tryz.func4 (.tmp rfl .nil) ?_
  all_goals (rfl)
 ·
  have h1' := of_decide_eq_false h1
  refine t_skip<|tsr<|rM ?_
  refine rM ?_
  refine r_op (o_call 1 1 false (en Tryz.func20) (c_laws_szDependencyS (ds) (if (1048576) - (((szS (fun (x : List UInt8 × Int × Bool) => (x.1).length) ((rs))) + (szS (fun (x : Int × (List (Int))) => (x.2).length) ((fs))) : Nat) : Int) < 0 then -1 else (1048576) - (((szS (fun (x : List UInt8 × Int × Bool) => (x.1).length) ((rs))) + (szS (fun (x : Int × (List (Int))) => (x.2).length) ((fs))) : Nat) : Int)) (by omega) (by omega) (by omega)) rfl (.cons rfl (.c .t0) (.cons rfl (.c .t0) .nil)) rfl rfl rfl) ?_
  refine rA<|r_end<|t_seq<|tsr ?_
  refine rM ?_
  refine rB<|r_end ?_
  refine t_cond rfl (fun h2 => ?_) (fun h2 => ?_)
  ·
   have h2' := of_decide_eq_true h2
   refine tsr<|rA<|r_end ?_
   refine tk Tryz.func4 (.tmp rfl .nil) ?_
   all_goals (rfl)
  ·
   have h2' := of_decide_eq_false h2
   refine t_skip<|tsr<|rC 2 ?_
   refine r_op (o_call 1 6 false (en Tryz.func9) (c_laws_toInstance (rs) (fs) (by omega)) rfl (.cons rfl (.agg (.cons .t0 (.cons .t0 .nil))) .nil) rfl rfl rfl) ?_
   refine rM ?_
   refine r_op (o_call 6 7 false (en Tryz.func22) (c_laws_toDependencyS (ds) (by omega)) rfl (.cons rfl (.c .t0) .nil) rfl rfl rfl) ?_
   refine r_freeze 4 rfl (frz_pu rfl) ?_
   refine r_freeze 5 rfl (frz_pu rfl) ?_
   refine r_freeze 6 rfl (frz_pu rfl) ?_
   refine r_op (o_call 7 7 true (en Tryz.func21) (c_spec_FirstStep ((rs)) ((fs)) ((ds)) (by omega) (by omega) (by omega) (by omega) (by omega)) rfl (.cons rfl (.agg (.cons .t0 (.cons .t0 .nil))) (.cons rfl (.c .t0) .nil)) rfl rfl rfl) ?_
   refine rM ?_
   refine r_op (o_extract rfl rfl rfl rfl) ?_
   refine r_op (o_extract rfl rfl rfl rfl) ?_
   refine r_op (o_extract rfl rfl rfl rfl) ?_
   refine r_op (o_alloc 7 (zs := [.slice none 0 0, .slice none 0 0]) rfl rfl (by kernel_rfl) rfl) ?_
   refine r_op (o_alloc 8 (zs := [.int .i64 (0), .slice none 0 0]) rfl rfl (by kernel_rfl) rfl) ?_
   refine rS 2 ?_
   refine rS 2 ?_
   refine rA<|etr ?_
   refine rC 2 ?_
   refine r_op (o_call 9 14 false (en Tryz.func9) (c_laws_toInstance (rs) (fs) (by omega)) rfl (.cons rfl (.agg (.cons .t0 (.cons .t0 .nil))) .nil) rfl rfl rfl) ?_
   refine r_op (o_alloc 14 (zs := [.slice none 0 0, .slice none 0 0]) rfl rfl (by kernel_rfl) rfl) ?_
   refine rS 2<|etr ?_
   refine rM ?_
   refine r_op (o_call 15 16 false (en Tryz.func22) (c_laws_toDependencyS (ds) (by omega)) rfl (.cons rfl (.c .t0) .nil) rfl rfl rfl) ?_
   refine rA<|etr ?_
   refine rC 2 ?_
   refine rM ?_
   refine r_opE (o_callE 16 22 (en Tryz.func23) (c_impl_FirstStep ((rs)) ((fs)) ((ds)) (by omega) (by omega) (by omega) (by omega) (by omega)) rfl (.cons rfl (.agg (.cons (.own rfl) (.cons (.own rfl) .nil))) (.cons rfl (.c (.own rfl)) .nil)) (fun _ => rfl) rfl rfl) fun e3 => ?_
   refine rM ?_
   refine r_op (o_extract rfl rfl rfl rfl) ?_
   refine r_op (o_extract rfl rfl rfl rfl) ?_
   refine r_op (o_extract rfl rfl rfl rfl) ?_
   refine r_op (o_alloc 22 (zs := [.slice none 0 0, .slice none 0 0]) rfl rfl (by kernel_rfl) rfl) ?_
   refine r_op (o_alloc 23 (zs := [.int .i64 (0), .slice none 0 0]) rfl rfl (by kernel_rfl) rfl) ?_
   refine rS 2 ?_
   refine rS 2 ?_
   refine rA<|r_end<|t_seq<|tsr ?_
   refine rC 2 ?_
   refine rC 2 ?_
   refine r_op (o_call 24 24 false (en Tryz.func13) (c_laws_eqInstance (fstR ((rs)) ((fs)) ((ds))) (fstS ((rs)) ((fs)) ((ds))) (fstR ((rs)) ((fs)) ((ds))) (fstS ((rs)) ((fs)) ((ds))) (by omega)) rfl (.cons rfl (.agg (.cons (.own rfl) (.cons (.own rfl) .nil))) (.cons rfl (.agg (.cons .t0 (.cons .t0 .nil))) .nil)) rfl rfl rfl) ?_
   refine r_op (o_not rfl rfl) ?_
   refine rM ?_
   refine rG (fun g4 => ?_) (fun g4 => ?_)
   ·
    have g4' := of_decide_eq_true (bnf g4)
    refine rC 2 ?_
    refine rG (fun _ => ?_) (ncf g4)
    refine rC 2 ?_
    refine rG (fun _ => ?_) (ncf g4)
    refine r_op (o_call 24 24 false (en Tryz.func24) (c_laws_eqChaseStep (vioI ((rs)) ((fs)) ((ds))) (vioB ((rs)) ((fs)) ((ds))) (vioI ((rs)) ((fs)) ((ds))) (vioB ((rs)) ((fs)) ((ds))) (by omega)) rfl (.cons rfl (.agg (.cons .t0 (.cons (.own rfl) .nil))) (.cons rfl (.agg (.cons .t0 (.cons .t0 .nil))) .nil)) rfl rfl rfl) ?_
    refine rG (fun _ => ?_) (ncf g4)
    refine r_op (o_not rfl rfl) ?_
    refine r_op (o_pickF rfl rfl g4 rfl) ?_
    refine rM ?_
    refine rG (fun g5 => ?_) (fun g5 => ?_)
    ·
     have g5' := of_decide_eq_true (bnf g5)
     refine rM ?_
     refine rG (fun _ => ?_) (ncf g5)
     refine rM ?_
     refine rG (fun _ => ?_) (ncf g5)
     refine rB ?_
     refine r_op (o_pickF rfl rfl g5 rfl) ?_
     refine r_end ?_
     refine t_cond rfl (fun h6 => ?_) (fun h6 => ?_)
     ·
      have h6' := of_decide_eq_true h6
      refine tsr<|rA<|r_end ?_
      refine tk Tryz.func4 (.tmp rfl .nil) ?_
      all_goals (exfalso; (omega))
     ·
      have h6' := of_decide_eq_false h6
      refine t_skip<|t_seq<|t_seq ?_
      refine t_draw (fun _ => true) (by kernel_rfl) ?_
      refine dT 0 rfl (pC 2) ?_
      refine dT 1 rfl (pC 2) ?_
      refine dO 2 rfl (o_call 24 29 false (en Tryz.func9) (c_laws_toInstance (rs) (fs) (by omega)) rfl (.cons rfl (.agg (.cons .t0 (.cons .t0 .nil))) .nil) rfl rfl rfl) ?_
      refine dO 3 rfl (o_call 29 29 false (en Tryz.func13) (c_laws_eqInstance ((rs)) ((fs)) ((rs)) ((fs)) (by omega)) rfl (.cons rfl (.agg (.cons (.own rfl) (.cons (.own rfl) .nil))) (.cons rfl (.agg (.cons (.own rfl) (.cons (.own rfl) .nil))) .nil)) rfl rfl rfl) ?_
      refine dT 4 rfl (p_not rfl) ?_
      refine d_end (by kernel_rfl) ?_
      refine t_cond rfl (fun h7 => ?_) (fun h7 => ?_)
      ·
       have h7' := of_decide_eq_false (bnt h7)
       refine tsr<|rA<|r_end ?_
       refine tk Tryz.func4 (.tmp rfl .nil) ?_
       all_goals (exfalso; (simp at *; done))
      ·
       have h7' := of_decide_eq_true (bnf h7)
       refine t_skip<|t_seq<|tsr<|rM ?_
       refine rM ?_
       refine r_op (o_call 29 30 false (en Tryz.func22) (c_laws_toDependencyS (ds) (by omega)) rfl (.cons rfl (.c .t0) .nil) rfl rfl rfl) ?_
       refine r_op (o_call 30 30 false (en Tryz.func25) (c_laws_eqDependencyS ((ds)) ((ds)) (by omega)) rfl (.cons rfl (.c (.own rfl)) (.cons rfl (.c (.own rfl)) .nil)) rfl rfl rfl) ?_
       refine r_op (o_not rfl rfl) ?_
       refine r_end ?_
       refine t_cond rfl (fun h8 => ?_) (fun h8 => ?_)
       ·
        have h8' := of_decide_eq_false (bnt h8)
        refine tsr<|rA<|r_end ?_
        refine tk Tryz.func4 (.tmp rfl .nil) ?_
        all_goals (exfalso; (simp at *; done))
       ·
        have h8' := of_decide_eq_true (bnf h8)
        refine t_skip<|tsr<|rA<|etr ?_
        refine rC 2 ?_
        refine rM ?_
        refine r_op (o_callH [⟨12, none, 119, 3, _, (enS3 encS encI encB), (rs), markRS (1) ((rs))⟩, ⟨13, none, 85, 2, _, (enS2 encI (enSl 1 encI)), (fs), markATS ((1) + 3 * ((((rs)).length : Nat) : Int)) ((fs))⟩] (en Tryz.func16) (fun U => c_laws_markInstance U 119 85 ((rs)) ((fs)) (1) (by omega) (by omega)) rfl ⟨rfl, ⟨rfl, trivial⟩⟩ rfl rfl (.agg rfl (.cons (.own rfl) (.cons (.own rfl) .nil)) (.cons rfl .t0 .nil)) rfl) ?_
        refine rA<|etr ?_
        refine rM ?_
        refine rM ?_
        refine r_op (o_callH [⟨15, none, 41, 5, _, (enS5 (enSl 2 (enS2 encI (enSl 1 encI))) (enSl 2 (enS2 encI (enSl 1 encI))) encB encI encI), (ds), markDS ((1) + 3 * ((((rs)).length : Nat) : Int) + ((szS (fun (x : Int × (List (Int))) => (x.2).length) ((fs)) : Nat) : Int)) ((ds))⟩] (en Tryz.func26) (fun U => c_laws_markDependencyS U 41 ((ds)) ((1) + 3 * ((((rs)).length : Nat) : Int) + ((szS (fun (x : Int × (List (Int))) => (x.2).length) ((fs)) : Nat) : Int)) (by omega) (by omega)) rfl ⟨rfl, trivial⟩ rfl rfl (.cons rfl (.own rfl) (.cons rfl .t0 .nil)) rfl) ?_
        refine rA<|r_end<|t_seq<|tsr ?_
        refine rM ?_
        refine rB ?_
        refine rM ?_
        refine rG (fun g9 => ?_) (fun g9 => ?_)
        ·
         have g9' := of_decide_eq_false g9
         refine rC 2 ?_
         refine rG (fun _ => ?_) (ncf g9)
         refine rC 2 ?_
         refine rG (fun _ => ?_) (ncf g9)
         refine r_op (o_call 30 30 false (en Tryz.func13) (c_laws_eqInstance (fstR ((rs)) ((fs)) ((ds))) (fstS ((rs)) ((fs)) ((ds))) (fstR ((rs)) ((fs)) ((ds))) (fstS ((rs)) ((fs)) ((ds))) (by omega)) rfl (.cons rfl (.agg (.cons (.own rfl) (.cons (.own rfl) .nil))) (.cons rfl (.agg (.cons .t0 (.cons .t0 .nil))) .nil)) rfl rfl rfl) ?_
         refine rG (fun _ => ?_) (ncf g9)
         refine r_op (o_not rfl rfl) ?_
         refine r_op (o_pickF rfl rfl g9 rfl) ?_
         refine rM ?_
         refine rG (fun g10 => ?_) (fun g10 => ?_)
         ·
          have g10' := of_decide_eq_true (bnf g10)
          refine rC 2 ?_
          refine rG (fun _ => ?_) (ncf g10)
          refine rC 2 ?_
          refine rG (fun _ => ?_) (ncf g10)
          refine r_op (o_call 30 30 false (en Tryz.func24) (c_laws_eqChaseStep (vioI ((rs)) ((fs)) ((ds))) (vioB ((rs)) ((fs)) ((ds))) (vioI ((rs)) ((fs)) ((ds))) (vioB ((rs)) ((fs)) ((ds))) (by omega)) rfl (.cons rfl (.agg (.cons .t0 (.cons (.own rfl) .nil))) (.cons rfl (.agg (.cons .t0 (.cons .t0 .nil))) .nil)) rfl rfl rfl) ?_
          refine rG (fun _ => ?_) (ncf g10)
          refine r_op (o_not rfl rfl) ?_
          refine r_op (o_pickF rfl rfl g10 rfl) ?_
          refine rM ?_
          refine rG (fun g11 => ?_) (fun g11 => ?_)
          ·
           have g11' := of_decide_eq_true (bnf g11)
           refine rM ?_
           refine rG (fun _ => ?_) (ncf g11)
           refine rM ?_
           refine rG (fun _ => ?_) (ncf g11)
           refine rB ?_
           refine r_op (o_pickF rfl rfl g11 rfl) ?_
           refine r_end ?_
           refine t_cond rfl (fun h12 => ?_) (fun h12 => ?_)
           ·
            have h12' := of_decide_eq_true h12
            refine tsr<|rA<|r_end ?_
            refine tk Tryz.func4 (.tmp rfl .nil) ?_
            all_goals (exfalso; (omega))
           ·
            have h12' := of_decide_eq_false h12
            refine t_skip<|tsr<|rA<|etr ?_
            refine rC 2 ?_
            refine rM ?_
            refine r_op (o_callH [⟨20, none, 119, 3, _, (enS3 encS encI encB), fstR ((rs)) ((fs)) ((ds)), markRS (1) (fstR ((rs)) ((fs)) ((ds)))⟩, ⟨21, none, 85, 2, _, (enS2 encI (enSl 1 encI)), fstS ((rs)) ((fs)) ((ds)), markATS ((1) + 3 * (((fstR ((rs)) ((fs)) ((ds))).length : Nat) : Int)) (fstS ((rs)) ((fs)) ((ds)))⟩] (en Tryz.func16) (fun U => c_laws_markInstance U 119 85 (fstR ((rs)) ((fs)) ((ds))) (fstS ((rs)) ((fs)) ((ds))) (1) (by omega) (by omega)) rfl ⟨rfl, ⟨rfl, trivial⟩⟩ rfl rfl (.agg rfl (.cons (.own rfl) (.cons (.own rfl) .nil)) (.cons rfl .t0 .nil)) rfl) ?_
            refine rA<|etr ?_
            refine rC 2 ?_
            refine rM ?_
            refine r_op (o_callH [⟨19, none, e3, 1, _, encI, vioB ((rs)) ((fs)) ((ds)), seqI ((1) + 3 * (((fstR ((rs)) ((fs)) ((ds))).length : Nat) : Int) + ((szS (fun (x : Int × (List (Int))) => (x.2).length) (fstS ((rs)) ((fs)) ((ds))) : Nat) : Int)) (vioB ((rs)) ((fs)) ((ds))).length⟩] (en Tryz.func27) (fun U => c_laws_markChaseStep U e3 (vioI ((rs)) ((fs)) ((ds))) (vioB ((rs)) ((fs)) ((ds))) ((1) + 3 * (((fstR ((rs)) ((fs)) ((ds))).length : Nat) : Int) + ((szS (fun (x : Int × (List (Int))) => (x.2).length) (fstS ((rs)) ((fs)) ((ds))) : Nat) : Int)) (by omega) (by omega)) rfl ⟨rfl, trivial⟩ rfl rfl (.agg rfl (.cons .t0 (.cons (.own rfl) .nil)) (.cons rfl .t0 .nil)) rfl) ?_
            refine rA<|etr ?_
            refine rA<|etr ?_
            refine rC 2 ?_
            refine rM ?_
            refine r_op (o_call 30 30 false (en Tryz.func19) (c_laws_heldInstance (markRS (1) (fstR ((rs)) ((fs)) ((ds)))) (markATS ((1) + 3 * (((fstR ((rs)) ((fs)) ((ds))).length : Nat) : Int)) (fstS ((rs)) ((fs)) ((ds)))) (1) (by omega) (by omega)) rfl (.cons rfl (.agg (.cons (.own rfl) (.cons (.own rfl) .nil))) (.cons rfl (.c .t0) .nil)) rfl rfl rfl) ?_
            refine rA<|r_end<|t_seq<|tsr ?_
            refine rM ?_
            refine rB<|r_end ?_
            refine t_cond rfl (fun h13 => ?_) (fun h13 => ?_)
            ·
             have h13' := of_decide_eq_true h13
             refine tsr<|rA<|r_end ?_
             refine tk Tryz.func4 (.tmp rfl .nil) ?_
             all_goals (exfalso; (simp only [ml0, ms1, mi0, mi1, and_self, if_true] at *; omega))
            ·
             have h13' := of_decide_eq_false h13
             refine t_skip<|tsr<|rC 2 ?_
             refine rM ?_
             refine r_op (o_call 30 30 false (en Tryz.func28) (c_laws_heldChaseStep (vioI ((rs)) ((fs)) ((ds))) (seqI ((1) + 3 * (((fstR ((rs)) ((fs)) ((ds))).length : Nat) : Int) + ((szS (fun (x : Int × (List (Int))) => (x.2).length) (fstS ((rs)) ((fs)) ((ds))) : Nat) : Int)) (vioB ((rs)) ((fs)) ((ds))).length) (if (markRS (1) (fstR ((rs)) ((fs)) ((ds)))) = markRS (1) (markRS (1) (fstR ((rs)) ((fs)) ((ds)))) ∧ (markATS ((1) + 3 * (((fstR ((rs)) ((fs)) ((ds))).length : Nat) : Int)) (fstS ((rs)) ((fs)) ((ds)))) = markATS ((1) + 3 * (((markRS (1) (fstR ((rs)) ((fs)) ((ds)))).length : Nat) : Int)) (markATS ((1) + 3 * (((fstR ((rs)) ((fs)) ((ds))).length : Nat) : Int)) (fstS ((rs)) ((fs)) ((ds)))) then (1) + 3 * (((markRS (1) (fstR ((rs)) ((fs)) ((ds)))).length : Nat) : Int) + ((szS (fun (x : Int × (List (Int))) => (x.2).length) (markATS ((1) + 3 * (((fstR ((rs)) ((fs)) ((ds))).length : Nat) : Int)) (fstS ((rs)) ((fs)) ((ds)))) : Nat) : Int) else -1) (by omega) (by (simp only [seqI_length]; omega))) rfl (.cons rfl (.agg (.cons .t0 (.cons (.own rfl) .nil))) (.cons rfl (.c .t0) .nil)) rfl rfl rfl) ?_
             refine rA<|r_end<|t_seq<|tsr ?_
             refine rM ?_
             refine rB<|r_end ?_
             refine t_cond rfl (fun h14 => ?_) (fun h14 => ?_)
             ·
              have h14' := of_decide_eq_true h14
              refine tsr<|rA<|r_end ?_
              refine tk Tryz.func4 (.tmp rfl .nil) ?_
              all_goals (exfalso; (simp only [ml0, ms1, mi0, mi1, and_self, if_true] at *; simp [seqI_length] at *; omega))
             ·
              have h14' := of_decide_eq_false h14
              refine t_skip<|t_seq<|tsr<|rM ?_
              refine rM ?_
              refine rB<|r_end ?_
              refine t_cond rfl (fun h15 => ?_) (fun h15 => ?_)
              ·
               have h15' := of_decide_eq_true h15
               refine tsr<|rA<|r_end ?_
               refine tk Tryz.func4 (.tmp rfl .nil) ?_
               all_goals (exfalso; (simp only [ml0, ms1, mi0, mi1, and_self, if_true] at *; simp [seqI_length] at *; done))
              ·
               have h15' := of_decide_eq_false h15
               refine t_skip<|tsr<|rC 2 ?_
               refine r_op (o_call 30 35 false (en Tryz.func9) (c_laws_toInstance (rs) (fs) (by omega)) rfl (.cons rfl (.agg (.cons .t0 (.cons .t0 .nil))) .nil) rfl rfl rfl) ?_
               refine rM ?_
               refine r_op (o_call 35 36 false (en Tryz.func22) (c_laws_toDependencyS (ds) (by omega)) rfl (.cons rfl (.c .t0) .nil) rfl rfl rfl) ?_
               refine r_opE (o_callE 36 42 (en Tryz.func23) (c_impl_FirstStep ((rs)) ((fs)) ((ds)) (by omega) (by omega) (by omega) (by omega) (by omega)) rfl (.cons rfl (.agg (.cons (.own rfl) (.cons (.own rfl) .nil))) (.cons rfl (.c (.own rfl)) .nil)) (fun _ => rfl) rfl rfl) fun e16 => ?_
               refine rM ?_
               refine r_op (o_extract rfl rfl rfl rfl) ?_
               refine r_op (o_extract rfl rfl rfl rfl) ?_
               refine r_op (o_extract rfl rfl rfl rfl) ?_
               refine r_op (o_alloc 42 (zs := [.slice none 0 0, .slice none 0 0]) rfl rfl (by kernel_rfl) rfl) ?_
               refine r_op (o_alloc 43 (zs := [.int .i64 (0), .slice none 0 0]) rfl rfl (by kernel_rfl) rfl) ?_
               refine rS 2 ?_
               refine rS 2 ?_
               refine rA<|r_end<|t_seq<|tsr ?_
               refine rC 2 ?_
               refine rC 2 ?_
               refine r_op (o_call 44 44 false (en Tryz.func13) (c_laws_eqInstance (fstR ((rs)) ((fs)) ((ds))) (fstS ((rs)) ((fs)) ((ds))) (fstR ((rs)) ((fs)) ((ds))) (fstS ((rs)) ((fs)) ((ds))) (by omega)) rfl (.cons rfl (.agg (.cons (.own rfl) (.cons (.own rfl) .nil))) (.cons rfl (.agg (.cons .t0 (.cons .t0 .nil))) .nil)) rfl rfl rfl) ?_
               refine r_op (o_not rfl rfl) ?_
               refine rM ?_
               refine rG (fun g17 => ?_) (fun g17 => ?_)
               ·
                have g17' := of_decide_eq_true (bnf g17)
                refine rC 2 ?_
                refine rG (fun _ => ?_) (ncf g17)
                refine rC 2 ?_
                refine rG (fun _ => ?_) (ncf g17)
                refine r_op (o_call 44 44 false (en Tryz.func24) (c_laws_eqChaseStep (vioI ((rs)) ((fs)) ((ds))) (vioB ((rs)) ((fs)) ((ds))) (vioI ((rs)) ((fs)) ((ds))) (vioB ((rs)) ((fs)) ((ds))) (by omega)) rfl (.cons rfl (.agg (.cons .t0 (.cons (.own rfl) .nil))) (.cons rfl (.agg (.cons .t0 (.cons .t0 .nil))) .nil)) rfl rfl rfl) ?_
                refine rG (fun _ => ?_) (ncf g17)
                refine r_op (o_not rfl rfl) ?_
                refine r_op (o_pickF rfl rfl g17 rfl) ?_
                refine rM ?_
                refine rG (fun g18 => ?_) (fun g18 => ?_)
                ·
                 have g18' := of_decide_eq_true (bnf g18)
                 refine rM ?_
                 refine rG (fun _ => ?_) (ncf g18)
                 refine rM ?_
                 refine rG (fun _ => ?_) (ncf g18)
                 refine rB ?_
                 refine r_op (o_pickF rfl rfl g18 rfl) ?_
                 refine r_end ?_
                 refine t_cond rfl (fun h19 => ?_) (fun h19 => ?_)
                 ·
                  have h19' := of_decide_eq_true h19
                  refine tsr<|rA<|r_end ?_
                  refine tk Tryz.func4 (.tmp rfl .nil) ?_
                  all_goals (exfalso; (omega))
                 ·
                  have h19' := of_decide_eq_false h19
                  refine t_skip<|tsr<|rA<|etr ?_
                  refine rC 2 ?_
                  refine rM ?_
                  refine r_op (o_call 44 44 false (en Tryz.func19) (c_laws_heldInstance (markRS (1) (fstR ((rs)) ((fs)) ((ds)))) (markATS ((1) + 3 * (((fstR ((rs)) ((fs)) ((ds))).length : Nat) : Int)) (fstS ((rs)) ((fs)) ((ds)))) (1) (by omega) (by omega)) rfl (.cons rfl (.agg (.cons (.own rfl) (.cons (.own rfl) .nil))) (.cons rfl (.c .t0) .nil)) rfl rfl rfl) ?_
                  refine rA<|r_end<|t_seq<|tsr ?_
                  refine rM ?_
                  refine rB<|r_end ?_
                  refine t_cond rfl (fun h20 => ?_) (fun h20 => ?_)
                  ·
                   have h20' := of_decide_eq_true h20
                   refine tsr<|rA<|r_end ?_
                   refine tk Tryz.func4 (.tmp rfl .nil) ?_
                   all_goals (exfalso; (omega))
                  ·
                   have h20' := of_decide_eq_false h20
                   refine t_skip<|tsr<|rC 2 ?_
                   refine rM ?_
                   refine r_op (o_call 44 44 false (en Tryz.func28) (c_laws_heldChaseStep (vioI ((rs)) ((fs)) ((ds))) (seqI ((1) + 3 * (((fstR ((rs)) ((fs)) ((ds))).length : Nat) : Int) + ((szS (fun (x : Int × (List (Int))) => (x.2).length) (fstS ((rs)) ((fs)) ((ds))) : Nat) : Int)) (vioB ((rs)) ((fs)) ((ds))).length) (if (markRS (1) (fstR ((rs)) ((fs)) ((ds)))) = markRS (1) (markRS (1) (fstR ((rs)) ((fs)) ((ds)))) ∧ (markATS ((1) + 3 * (((fstR ((rs)) ((fs)) ((ds))).length : Nat) : Int)) (fstS ((rs)) ((fs)) ((ds)))) = markATS ((1) + 3 * (((markRS (1) (fstR ((rs)) ((fs)) ((ds)))).length : Nat) : Int)) (markATS ((1) + 3 * (((fstR ((rs)) ((fs)) ((ds))).length : Nat) : Int)) (fstS ((rs)) ((fs)) ((ds)))) then (1) + 3 * (((markRS (1) (fstR ((rs)) ((fs)) ((ds)))).length : Nat) : Int) + ((szS (fun (x : Int × (List (Int))) => (x.2).length) (markATS ((1) + 3 * (((fstR ((rs)) ((fs)) ((ds))).length : Nat) : Int)) (fstS ((rs)) ((fs)) ((ds)))) : Nat) : Int) else -1) (by omega) (by omega)) rfl (.cons rfl (.agg (.cons .t0 (.cons (.own rfl) .nil))) (.cons rfl (.c .t0) .nil)) rfl rfl rfl) ?_
                   refine rA<|r_end<|t_seq<|tsr ?_
                   refine rM ?_
                   refine rB<|r_end ?_
                   refine t_cond rfl (fun h21 => ?_) (fun h21 => ?_)
                   ·
                    have h21' := of_decide_eq_true h21
                    refine tsr<|rA<|r_end ?_
                    refine tk Tryz.func4 (.tmp rfl .nil) ?_
                    all_goals (exfalso; (omega))
                   ·
                    have h21' := of_decide_eq_false h21
                    refine t_skip<|t_seq<|tsr<|rM ?_
                    refine rM ?_
                    refine rB<|r_end ?_
                    refine t_cond rfl (fun h22 => ?_) (fun h22 => ?_)
                    ·
                     have h22' := of_decide_eq_true h22
                     refine tsr<|rA<|r_end ?_
                     refine tk Tryz.func4 (.tmp rfl .nil) ?_
                     all_goals (exfalso; (omega))
                    ·
                     have h22' := of_decide_eq_false h22
                     refine t_skip<|tsr<|rA<|r_end ?_
                     refine tk Tryz.func4 (.tmp rfl .nil) ?_
                     all_goals (rfl)
                ·
                 have g18' := of_decide_eq_false (bnt g18)
                 refine rG (nc g18) (fun _ => ?_)
                 refine rG (nc g18) (fun _ => ?_)
                 refine r_op (o_pickT rfl rfl g18 rfl) ?_
                 refine r_end ?_
                 refine t_cond rfl (fun _ => ?_) (nc rfl)
                 refine tsr<|rA<|r_end ?_
                 refine tk Tryz.func4 (.tmp rfl .nil) ?_
                 all_goals (exfalso; (simp at *; done))
               ·
                have g17' := of_decide_eq_false (bnt g17)
                refine rG (nc g17) (fun _ => ?_)
                refine rG (nc g17) (fun _ => ?_)
                refine rG (nc g17) (fun _ => ?_)
                refine r_op (o_pickT rfl rfl g17 rfl) ?_
                refine rM ?_
                refine rG (nc rfl) (fun _ => ?_)
                refine rG (nc rfl) (fun _ => ?_)
                refine rG (nc rfl) (fun _ => ?_)
                refine r_op (o_pickT rfl rfl rfl rfl) ?_
                refine r_end ?_
                refine t_cond rfl (fun _ => ?_) (nc rfl)
                refine tsr<|rA<|r_end ?_
                refine tk Tryz.func4 (.tmp rfl .nil) ?_
                all_goals (exfalso; (simp at *; done))
          ·
           have g11' := of_decide_eq_false (bnt g11)
           refine rG (nc g11) (fun _ => ?_)
           refine rG (nc g11) (fun _ => ?_)
           refine r_op (o_pickT rfl rfl g11 rfl) ?_
           refine r_end ?_
           refine t_cond rfl (fun _ => ?_) (nc rfl)
           refine tsr<|rA<|r_end ?_
           refine tk Tryz.func4 (.tmp rfl .nil) ?_
           all_goals (exfalso; (simp at *; done))
         ·
          have g10' := of_decide_eq_false (bnt g10)
          refine rG (nc g10) (fun _ => ?_)
          refine rG (nc g10) (fun _ => ?_)
          refine rG (nc g10) (fun _ => ?_)
          refine r_op (o_pickT rfl rfl g10 rfl) ?_
          refine rM ?_
          refine rG (nc rfl) (fun _ => ?_)
          refine rG (nc rfl) (fun _ => ?_)
          refine rG (nc rfl) (fun _ => ?_)
          refine r_op (o_pickT rfl rfl rfl rfl) ?_
          refine r_end ?_
          refine t_cond rfl (fun _ => ?_) (nc rfl)
          refine tsr<|rA<|r_end ?_
          refine tk Tryz.func4 (.tmp rfl .nil) ?_
          all_goals (exfalso; (simp at *; done))
        ·
         have g9' := of_decide_eq_true g9
         refine rG (nc g9) (fun _ => ?_)
         refine rG (nc g9) (fun _ => ?_)
         refine rG (nc g9) (fun _ => ?_)
         refine r_op (o_pickT rfl rfl g9 rfl) ?_
         refine rM ?_
         refine rG (nc rfl) (fun _ => ?_)
         refine rG (nc rfl) (fun _ => ?_)
         refine rG (nc rfl) (fun _ => ?_)
         refine rG (nc rfl) (fun _ => ?_)
         refine r_op (o_pickT rfl rfl rfl rfl) ?_
         refine rM ?_
         refine rG (nc rfl) (fun _ => ?_)
         refine rG (nc rfl) (fun _ => ?_)
         refine rG (nc rfl) (fun _ => ?_)
         refine r_op (o_pickT rfl rfl rfl rfl) ?_
         refine r_end ?_
         refine t_cond rfl (fun _ => ?_) (nc rfl)
         refine tsr<|rA<|r_end ?_
         refine tk Tryz.func4 (.tmp rfl .nil) ?_
         all_goals (exfalso; (omega))
    ·
     have g5' := of_decide_eq_false (bnt g5)
     refine rG (nc g5) (fun _ => ?_)
     refine rG (nc g5) (fun _ => ?_)
     refine r_op (o_pickT rfl rfl g5 rfl) ?_
     refine r_end ?_
     refine t_cond rfl (fun _ => ?_) (nc rfl)
     refine tsr<|rA<|r_end ?_
     refine tk Tryz.func4 (.tmp rfl .nil) ?_
     all_goals (exfalso; (simp at *; done))
   ·
    have g4' := of_decide_eq_false (bnt g4)
    refine rG (nc g4) (fun _ => ?_)
    refine rG (nc g4) (fun _ => ?_)
    refine rG (nc g4) (fun _ => ?_)
    refine r_op (o_pickT rfl rfl g4 rfl) ?_
    refine rM ?_
    refine rG (nc rfl) (fun _ => ?_)
    refine rG (nc rfl) (fun _ => ?_)
    refine rG (nc rfl) (fun _ => ?_)
    refine r_op (o_pickT rfl rfl rfl rfl) ?_
    refine r_end ?_
    refine t_cond rfl (fun _ => ?_) (nc rfl)
    refine tsr<|rA<|r_end ?_
    refine tk Tryz.func4 (.tmp rfl .nil) ?_
    all_goals (exfalso; (simp at *; done))
end Go.Eng
