/- What the functions that FnExactFirstStep reaches answer. -/
import Derived.Test.YthcggkagkihamaaGreatEngZN
import Derived.Test.YthcggkagkihamaaGreatChecked
set_option linter.unusedVariables false
set_option linter.unusedSimpArgs false
namespace Go.Eng
open Go Go.RowKit Go.Proofs
set_option maxHeartbeats 1000000
set_option maxRecDepth 10000
theorem c_laws_szRelation (a0 : List UInt8) (a1 : Int) (a2 : Bool) (k : Int) (hk : 0 ≤ k) (hk2 : k ≤ 1048576) (h0 : okS a0) : Pu Tryz.prog 92 [.agg [.t none (.v (.string (mkS (a0)))), .t none (.v (.int .i64 (a1))), .t none (.v (.bool (a2)))], .c (.t none (.v (.int .i64 (k))))] [] 0 (.c (.t none (.v (.int .i64 (if k - (((a0).length : Nat) : Int) < 0 then -1 else k - (((a0).length : Nat) : Int)))))) := by
 refine pu_enter Tryz.func92 rfl (Nat.le_of_ble_eq_true rfl) fun w S => ?_
 have g_a0 : (a0).length ≤ 9223372036854775807 := h0
 refine tsr ?_
 refine r_op (o_box 0 rfl rfl rfl rfl) ?_
 refine rA<|etr ?_
 refine rM ?_
 refine rF 0 ?_
 refine rL ?_
 refine r_op (o_lenS rfl Tryz.underlying9 rfl) ?_
 refine rB ?_
 refine rA<|r_end<|t_seq<|tsr ?_
 refine rM ?_
 refine rB<|r_end ?_
 refine t_cond rfl (fun h1 => ?_) (fun h1 => ?_)
 ·
  have h1' := of_decide_eq_true h1
  refine tsr<|rA<|r_end ?_
  refine tk Tryz.func92 (.tmp rfl .nil) ?_
  all_goals (refine scI ?_; (try simp only [IntKind.wrap_i64] at *); omega)
 ·
  have h1' := of_decide_eq_false h1
  refine t_skip<|tsr<|rM ?_
  refine rA<|r_end ?_
  refine tk Tryz.func92 (.tmp rfl .nil) ?_
  all_goals (refine scI ?_; (try simp only [IntKind.wrap_i64] at *); omega)
theorem c_laws_szRelationS (l : List (List UInt8 × Int × Bool)) (k : Int) (hk : 0 ≤ k) (hk2 : k ≤ 1048576) (hl : (okL (fun (x : List UInt8 × Int × Bool) => okS (x.1) ∧ okI (x.2.1) ∧ okB (x.2.2))) l) : Pu Tryz.prog 39 [.c (.t none (.sl 3 (enS3 encS encI encB) (l))), .c (.t none (.v (.int .i64 (k))))] [] 0 (.c (.t none (.v (.int .i64 (if k - ((szS (fun (x : List UInt8 × Int × Bool) => (x.1).length) l : Nat) : Int) < 0 then -1 else k - ((szS (fun (x : List UInt8 × Int × Bool) => (x.1).length) l : Nat) : Int)))))) := by
 refine pu_enter Tryz.func39 rfl (Nat.le_of_ble_eq_true rfl) fun w S => ?_
 have gl := hl.1
 refine tsr<|rA<|etr ?_
 refine rM ?_
 refine rM ?_
 refine r_op (o_len rfl rfl rfl) ?_
 refine rB ?_
 refine rA<|r_end<|t_seq<|tsr ?_
 refine rM ?_
 refine rB<|r_end ?_
 refine t_cond rfl (fun h1 => ?_) (fun h1 => ?_)
 ·
  have h1' := of_decide_eq_true h1
  refine tsr<|rA<|r_end ?_
  refine tk Tryz.func39 (.tmp rfl .nil) ?_ <;> (try clear ih0)
  all_goals (refine scI ?_; (simp only [IntKind.wrap_i64] at *); have e1 := sz_len (f := (fun (x : List UInt8 × Int × Bool) => (x.1).length)) (l := l); omega)
 ·
  have h1' := of_decide_eq_false h1
  refine t_skip<|t_seq<|tsr<|rA<|r_end<|t_block ?_
  refine t_loopL (fun m => ⟨[(0, some (.c (.t none (.sl 3 (enS3 encS encI encB) (l))))), (1, some (.c (.t none (.v (.int .i64 (k - l.length - ((szT (fun (x : List UInt8 × Int × Bool) => (x.1).length) l m : Nat) : Int))))))), (5, some (.c (.t none (.v (.int .i64 ((m : Int)))))))], [], 0⟩ : Nat → St) (fun m => m ≤ l.length ∧ 0 ≤ k - l.length - ((szT (fun (x : List UInt8 × Int × Bool) => (x.1).length) l m : Nat) : Int)) (fun m => l.length - m) 0 ⟨⟨rfl, ⟨(eqI (by rw [wr64 (by omega) (by omega)]; simp [szT_zero])), ⟨rfl, trivial⟩⟩⟩, trivial, rfl⟩ (by exact ⟨Nat.zero_le _, by (simp only [IntKind.wrap_i64] at *); simp only [szT_zero]; omega⟩) ?_
  rintro m hI ih0
  try dsimp only at hI ih0
  obtain ⟨i1, i2⟩ := hI
  refine t_seq<|tsr<|rM ?_
  refine rM ?_
  refine r_op (o_len rfl rfl rfl) ?_
  refine rB<|r_end ?_
  refine t_cond rfl (fun h2 => ?_) (fun h2 => ?_)
  ·
   have h2' := of_decide_eq_true h2
   refine t_skip<|t_seq<|t_block<|tsr<|rM ?_
   refine rM ?_
   obtain ⟨z3, hz4, b5⟩ := at_get (xs := l) (n := (m : Int)) (by omega) (by omega)
   refine r_op (o_index rfl (by kernel_rfl) rfl rfl b5 hz4) ?_
   refine r_op (o_loadA rfl (n := 3) (by kernel_rfl) (by kernel_rfl) rfl rfl) ?_
   refine rM ?_
   refine r_op (o_call 0 0 false (en Tryz.func92) (c_laws_szRelation (z3.1) (z3.2.1) (z3.2.2) (k - l.length - ((szT (fun (x : List UInt8 × Int × Bool) => (x.1).length) l m : Nat) : Int)) (by omega) (by omega) (by (have ok := ok_at hl (by assumption); (exact ok.1)))) rfl (.cons rfl (.agg (.cons .t0 (.cons .t0 (.cons .t0 .nil)))) (.cons rfl (.c .t0) .nil)) rfl rfl rfl) ?_
   refine rA<|etr ?_
   refine rM ?_
   refine rB<|r_end ?_
   refine t_cond rfl (fun h6 => ?_) (fun h6 => ?_)
   ·
    have h6' := of_decide_eq_true h6
    refine tsr<|rA<|r_end ?_
    refine tk Tryz.func39 (.tmp rfl .nil) ?_ <;> (try clear ih0)
    all_goals (refine scI ?_; have e1 := szT_step (f := (fun (x : List UInt8 × Int × Bool) => (x.1).length)) (l := l) (m := m) (by assumption); (try dsimp only at e1); have e2 := szT_le (f := (fun (x : List UInt8 × Int × Bool) => (x.1).length)) (l := l) (m + 1); omega)
   ·
    have h6' := of_decide_eq_false h6
    refine t_skip<|t_endblock<|t_region<|rM ?_
    refine rB ?_
    refine rA<|r_end ?_
    have e1 := szT_step (f := (fun (x : List UInt8 × Int × Bool) => (x.1).length)) (l := l) (m := m) (by assumption); try dsimp only at e1
    refine t_le ?_ (ih0 (m + 1) (by (try dsimp only); omega) (by (try dsimp only); constructor <;> omega))
    exact ⟨⟨rfl, ⟨(eqI (by omega)), ⟨(eqI (wrS (by omega))), trivial⟩⟩⟩, trivial, rfl⟩
  ·
   have h2' := of_decide_eq_false h2
   refine t_exit rfl<|tsr<|rM ?_
   refine rA<|r_end ?_
   refine tk Tryz.func39 (.tmp rfl .nil) ?_ <;> (try clear ih0)
   all_goals (refine scI ?_; have e1 := szT_all (f := (fun (x : List UInt8 × Int × Bool) => (x.1).length)) (l := l) (m := m) (by omega); omega)
theorem c_laws_szIntS (l : List Int) (k : Int) (hk : 0 ≤ k) (hk2 : k ≤ 1048576) (hl : l.length ≤ 9223372036854775807) : Pu Tryz.prog 154 [.c (.t none (.sl 1 encI (l))), .c (.t none (.v (.int .i64 (k))))] [] 0 (.c (.t none (.v (.int .i64 (if k - l.length < 0 then -1 else k - l.length))))) := by
 refine pu_enter Tryz.func154 rfl (Nat.le_of_ble_eq_true rfl) fun w S => ?_
 refine tsr<|rA<|etr ?_
 refine rM ?_
 refine rM ?_
 refine r_op (o_len rfl rfl rfl) ?_
 refine rB ?_
 refine rA<|r_end<|t_seq<|tsr ?_
 refine rM ?_
 refine rB<|r_end ?_
 refine t_cond rfl (fun h1 => ?_) (fun h1 => ?_)
 ·
  have h1' := of_decide_eq_true h1
  refine tsr<|rA<|r_end ?_
  refine tk Tryz.func154 (.tmp rfl .nil) ?_
  all_goals (have e := wr64 (x := k - l.length) (by omega) (by omega); rw [e] at h1'; rw [if_pos (by omega)])
 ·
  have h1' := of_decide_eq_false h1
  refine t_skip<|tsr<|rM ?_
  refine rA<|r_end ?_
  refine tk Tryz.func154 (.tmp rfl .nil) ?_
  all_goals (have e := wr64 (x := k - l.length) (by omega) (by omega); rw [e] at h1'; rw [e, if_neg (by omega)])
theorem c_laws_szFact (r : Int) (l : List Int) (k : Int) (hk : 0 ≤ k) (hk2 : k ≤ 1048576) (hl : l.length ≤ 9223372036854775807) : Pu Tryz.prog 93 [.agg [.t none (.v (.int .i64 (r))), .t none (.sl 1 encI (l))], .c (.t none (.v (.int .i64 (k))))] [] 0 (.c (.t none (.v (.int .i64 (if k - l.length < 0 then -1 else k - l.length))))) := by
 refine pu_enter Tryz.func93 rfl (Nat.le_of_ble_eq_true rfl) fun w S => ?_
 refine tsr ?_
 refine r_op (o_box 0 rfl rfl rfl rfl) ?_
 refine rA<|etr ?_
 refine rF 1 ?_
 refine rL ?_
 refine rM ?_
 refine r_op (o_call 1 1 false (en Tryz.func154) (c_laws_szIntS (l) (k) (by omega) (by omega) (by omega)) rfl (.cons rfl (.c .t0) (.cons rfl (.c .t0) .nil)) rfl rfl rfl) ?_
 refine rA<|r_end<|t_seq<|tsr ?_
 refine rM ?_
 refine rB<|r_end ?_
 refine t_cond rfl (fun h1 => ?_) (fun h1 => ?_)
 ·
  have h1' := of_decide_eq_true h1
  refine tsr<|rA<|r_end ?_
  refine tk Tryz.func93 (.tmp rfl .nil) ?_
  all_goals (simp_all <;> omega)
 ·
  have h1' := of_decide_eq_false h1
  refine t_skip<|tsr<|rM ?_
  refine rA<|r_end ?_
  refine tk Tryz.func93 (.tmp rfl .nil) ?_
  all_goals (rfl)
theorem c_laws_szFactS (l : List (Int × (List (Int)))) (k : Int) (hk : 0 ≤ k) (hk2 : k ≤ 1048576) (hl : (okL (fun (x : Int × (List (Int))) => okI (x.1) ∧ (okL okI) (x.2))) l) : Pu Tryz.prog 40 [.c (.t none (.sl 2 (enS2 encI (enSl 1 encI)) (l))), .c (.t none (.v (.int .i64 (k))))] [] 0 (.c (.t none (.v (.int .i64 (if k - ((szS (fun (x : Int × (List (Int))) => (x.2).length) l : Nat) : Int) < 0 then -1 else k - ((szS (fun (x : Int × (List (Int))) => (x.2).length) l : Nat) : Int)))))) := by
 refine pu_enter Tryz.func40 rfl (Nat.le_of_ble_eq_true rfl) fun w S => ?_
 have gl := hl.1
 refine tsr<|rA<|etr ?_
 refine rM ?_
 refine rM ?_
 refine r_op (o_len rfl rfl rfl) ?_
 refine rB ?_
 refine rA<|r_end<|t_seq<|tsr ?_
 refine rM ?_
 refine rB<|r_end ?_
 refine t_cond rfl (fun h1 => ?_) (fun h1 => ?_)
 ·
  have h1' := of_decide_eq_true h1
  refine tsr<|rA<|r_end ?_
  refine tk Tryz.func40 (.tmp rfl .nil) ?_ <;> (try clear ih0)
  all_goals (refine scI ?_; (simp only [IntKind.wrap_i64] at *); have e1 := sz_len (f := (fun (x : Int × (List (Int))) => (x.2).length)) (l := l); omega)
 ·
  have h1' := of_decide_eq_false h1
  refine t_skip<|t_seq<|tsr<|rA<|r_end<|t_block ?_
  refine t_loopL (fun m => ⟨[(0, some (.c (.t none (.sl 2 (enS2 encI (enSl 1 encI)) (l))))), (1, some (.c (.t none (.v (.int .i64 (k - l.length - ((szT (fun (x : Int × (List (Int))) => (x.2).length) l m : Nat) : Int))))))), (5, some (.c (.t none (.v (.int .i64 ((m : Int)))))))], [], 0⟩ : Nat → St) (fun m => m ≤ l.length ∧ 0 ≤ k - l.length - ((szT (fun (x : Int × (List (Int))) => (x.2).length) l m : Nat) : Int)) (fun m => l.length - m) 0 ⟨⟨rfl, ⟨(eqI (by rw [wr64 (by omega) (by omega)]; simp [szT_zero])), ⟨rfl, trivial⟩⟩⟩, trivial, rfl⟩ (by exact ⟨Nat.zero_le _, by (simp only [IntKind.wrap_i64] at *); simp only [szT_zero]; omega⟩) ?_
  rintro m hI ih0
  try dsimp only at hI ih0
  obtain ⟨i1, i2⟩ := hI
  refine t_seq<|tsr<|rM ?_
  refine rM ?_
  refine r_op (o_len rfl rfl rfl) ?_
  refine rB<|r_end ?_
  refine t_cond rfl (fun h2 => ?_) (fun h2 => ?_)
  ·
   have h2' := of_decide_eq_true h2
   refine t_skip<|t_seq<|t_block<|tsr<|rM ?_
   refine rM ?_
   obtain ⟨z3, hz4, b5⟩ := at_get (xs := l) (n := (m : Int)) (by omega) (by omega)
   refine r_op (o_index rfl (by kernel_rfl) rfl rfl b5 hz4) ?_
   refine r_op (o_loadA rfl (n := 2) (by kernel_rfl) (by kernel_rfl) rfl rfl) ?_
   refine rM ?_
   refine r_op (o_call 0 0 false (en Tryz.func93) (c_laws_szFact (z3.1) (z3.2) (k - l.length - ((szT (fun (x : Int × (List (Int))) => (x.2).length) l m : Nat) : Int)) (by omega) (by omega) (by (have ok := ok_at hl (by assumption); (exact ok.2.1)))) rfl (.cons rfl (.agg (.cons .t0 (.cons .t0 .nil))) (.cons rfl (.c .t0) .nil)) rfl rfl rfl) ?_
   refine rA<|etr ?_
   refine rM ?_
   refine rB<|r_end ?_
   refine t_cond rfl (fun h6 => ?_) (fun h6 => ?_)
   ·
    have h6' := of_decide_eq_true h6
    refine tsr<|rA<|r_end ?_
    refine tk Tryz.func40 (.tmp rfl .nil) ?_ <;> (try clear ih0)
    all_goals (refine scI ?_; have e1 := szT_step (f := (fun (x : Int × (List (Int))) => (x.2).length)) (l := l) (m := m) (by assumption); (try dsimp only at e1); have e2 := szT_le (f := (fun (x : Int × (List (Int))) => (x.2).length)) (l := l) (m + 1); omega)
   ·
    have h6' := of_decide_eq_false h6
    refine t_skip<|t_endblock<|t_region<|rM ?_
    refine rB ?_
    refine rA<|r_end ?_
    have e1 := szT_step (f := (fun (x : Int × (List (Int))) => (x.2).length)) (l := l) (m := m) (by assumption); try dsimp only at e1
    refine t_le ?_ (ih0 (m + 1) (by (try dsimp only); omega) (by (try dsimp only); constructor <;> omega))
    exact ⟨⟨rfl, ⟨(eqI (by omega)), ⟨(eqI (wrS (by omega))), trivial⟩⟩⟩, trivial, rfl⟩
  ·
   have h2' := of_decide_eq_false h2
   refine t_exit rfl<|tsr<|rM ?_
   refine rA<|r_end ?_
   refine tk Tryz.func40 (.tmp rfl .nil) ?_ <;> (try clear ih0)
   all_goals (refine scI ?_; have e1 := szT_all (f := (fun (x : Int × (List (Int))) => (x.2).length)) (l := l) (m := m) (by omega); omega)
theorem c_laws_szInstance (a0 : List (List UInt8 × Int × Bool)) (a1 : List (Int × (List (Int)))) (k : Int) (hk : 0 ≤ k) (hk2 : k ≤ 1048576) (h0 : (okL (fun (x : List UInt8 × Int × Bool) => okS (x.1) ∧ okI (x.2.1) ∧ okB (x.2.2))) a0) (h1 : (okL (fun (x : Int × (List (Int))) => okI (x.1) ∧ (okL okI) (x.2))) a1) : Pu Tryz.prog 6 [.agg [.t none (.sl 3 (enS3 encS encI encB) (a0)), .t none (.sl 2 (enS2 encI (enSl 1 encI)) (a1))], .c (.t none (.v (.int .i64 (k))))] [] 0 (.c (.t none (.v (.int .i64 (if k - (((szS (fun (x : List UInt8 × Int × Bool) => (x.1).length) (a0)) + (szS (fun (x : Int × (List (Int))) => (x.2).length) (a1)) : Nat) : Int) < 0 then -1 else k - (((szS (fun (x : List UInt8 × Int × Bool) => (x.1).length) (a0)) + (szS (fun (x : Int × (List (Int))) => (x.2).length) (a1)) : Nat) : Int)))))) := by
 refine pu_enter Tryz.func6 rfl (Nat.le_of_ble_eq_true rfl) fun w S => ?_
 have g_a0 := h0.1; have g_a1 := h1.1
 refine tsr ?_
 refine r_op (o_box 0 rfl rfl rfl rfl) ?_
 refine rA<|etr ?_
 refine rF 0 ?_
 refine rL ?_
 refine rM ?_
 refine r_op (o_call 1 1 false (en Tryz.func39) (c_laws_szRelationS (a0) (k) (by omega) (by omega) (by omega)) rfl (.cons rfl (.c .t0) (.cons rfl (.c .t0) .nil)) rfl rfl rfl) ?_
 refine rA<|r_end<|t_seq<|tsr ?_
 refine rM ?_
 refine rB<|r_end ?_
 refine t_cond rfl (fun h1 => ?_) (fun h1 => ?_)
 ·
  have h1' := of_decide_eq_true h1
  refine tsr<|rA<|r_end ?_
  refine tk Tryz.func6 (.tmp rfl .nil) ?_
  all_goals (refine scI ?_; (try simp only [IntKind.wrap_i64] at *); omega)
 ·
  have h1' := of_decide_eq_false h1
  refine t_skip<|tsr<|rF 1 ?_
  refine rL ?_
  refine rM ?_
  refine r_op (o_call 1 1 false (en Tryz.func40) (c_laws_szFactS (a1) (if (k) - ((szS (fun (x : List UInt8 × Int × Bool) => (x.1).length) (a0) : Nat) : Int) < 0 then -1 else (k) - ((szS (fun (x : List UInt8 × Int × Bool) => (x.1).length) (a0) : Nat) : Int)) (by omega) (by omega) (by omega)) rfl (.cons rfl (.c .t0) (.cons rfl (.c .t0) .nil)) rfl rfl rfl) ?_
  refine rA<|r_end<|t_seq<|tsr ?_
  refine rM ?_
  refine rB<|r_end ?_
  refine t_cond rfl (fun h2 => ?_) (fun h2 => ?_)
  ·
   have h2' := of_decide_eq_true h2
   refine tsr<|rA<|r_end ?_
   refine tk Tryz.func6 (.tmp rfl .nil) ?_
   all_goals (refine scI ?_; (try simp only [IntKind.wrap_i64] at *); omega)
  ·
   have h2' := of_decide_eq_false h2
   refine t_skip<|tsr<|rM ?_
   refine rA<|r_end ?_
   refine tk Tryz.func6 (.tmp rfl .nil) ?_
   all_goals (refine scI ?_; (try simp only [IntKind.wrap_i64] at *); omega)
theorem c_laws_szAtom (a0 : Int) (a1 : List (Int)) (k : Int) (hk : 0 ≤ k) (hk2 : k ≤ 1048576) (h1 : (okL okI) a1) : Pu Tryz.prog 94 [.agg [.t none (.v (.int .i64 (a0))), .t none (.sl 1 encI (a1))], .c (.t none (.v (.int .i64 (k))))] [] 0 (.c (.t none (.v (.int .i64 (if k - (((a1).length : Nat) : Int) < 0 then -1 else k - (((a1).length : Nat) : Int)))))) := by
 refine pu_enter Tryz.func94 rfl (Nat.le_of_ble_eq_true rfl) fun w S => ?_
 have g_a1 := h1.1
 refine tsr ?_
 refine r_op (o_box 0 rfl rfl rfl rfl) ?_
 refine rA<|etr ?_
 refine rF 1 ?_
 refine rL ?_
 refine rM ?_
 refine r_op (o_call 1 1 false (en Tryz.func154) (c_laws_szIntS (a1) (k) (by omega) (by omega) (by omega)) rfl (.cons rfl (.c .t0) (.cons rfl (.c .t0) .nil)) rfl rfl rfl) ?_
 refine rA<|r_end<|t_seq<|tsr ?_
 refine rM ?_
 refine rB<|r_end ?_
 refine t_cond rfl (fun h1 => ?_) (fun h1 => ?_)
 ·
  have h1' := of_decide_eq_true h1
  refine tsr<|rA<|r_end ?_
  refine tk Tryz.func94 (.tmp rfl .nil) ?_
  all_goals (refine scI ?_; (try simp only [IntKind.wrap_i64] at *); omega)
 ·
  have h1' := of_decide_eq_false h1
  refine t_skip<|tsr<|rM ?_
  refine rA<|r_end ?_
  refine tk Tryz.func94 (.tmp rfl .nil) ?_
  all_goals (rfl)
theorem c_laws_szAtomS (l : List (Int × (List (Int)))) (k : Int) (hk : 0 ≤ k) (hk2 : k ≤ 1048576) (hl : (okL (fun (x : Int × (List (Int))) => okI (x.1) ∧ (okL okI) (x.2))) l) : Pu Tryz.prog 41 [.c (.t none (.sl 2 (enS2 encI (enSl 1 encI)) (l))), .c (.t none (.v (.int .i64 (k))))] [] 0 (.c (.t none (.v (.int .i64 (if k - ((szS (fun (x : Int × (List (Int))) => (x.2).length) l : Nat) : Int) < 0 then -1 else k - ((szS (fun (x : Int × (List (Int))) => (x.2).length) l : Nat) : Int)))))) := by
 refine pu_enter Tryz.func41 rfl (Nat.le_of_ble_eq_true rfl) fun w S => ?_
 have gl := hl.1
 refine tsr<|rA<|etr ?_
 refine rM ?_
 refine rM ?_
 refine r_op (o_len rfl rfl rfl) ?_
 refine rB ?_
 refine rA<|r_end<|t_seq<|tsr ?_
 refine rM ?_
 refine rB<|r_end ?_
 refine t_cond rfl (fun h1 => ?_) (fun h1 => ?_)
 ·
  have h1' := of_decide_eq_true h1
  refine tsr<|rA<|r_end ?_
  refine tk Tryz.func41 (.tmp rfl .nil) ?_ <;> (try clear ih0)
  all_goals (refine scI ?_; (simp only [IntKind.wrap_i64] at *); have e1 := sz_len (f := (fun (x : Int × (List (Int))) => (x.2).length)) (l := l); omega)
 ·
  have h1' := of_decide_eq_false h1
  refine t_skip<|t_seq<|tsr<|rA<|r_end<|t_block ?_
  refine t_loopL (fun m => ⟨[(0, some (.c (.t none (.sl 2 (enS2 encI (enSl 1 encI)) (l))))), (1, some (.c (.t none (.v (.int .i64 (k - l.length - ((szT (fun (x : Int × (List (Int))) => (x.2).length) l m : Nat) : Int))))))), (5, some (.c (.t none (.v (.int .i64 ((m : Int)))))))], [], 0⟩ : Nat → St) (fun m => m ≤ l.length ∧ 0 ≤ k - l.length - ((szT (fun (x : Int × (List (Int))) => (x.2).length) l m : Nat) : Int)) (fun m => l.length - m) 0 ⟨⟨rfl, ⟨(eqI (by rw [wr64 (by omega) (by omega)]; simp [szT_zero])), ⟨rfl, trivial⟩⟩⟩, trivial, rfl⟩ (by exact ⟨Nat.zero_le _, by (simp only [IntKind.wrap_i64] at *); simp only [szT_zero]; omega⟩) ?_
  rintro m hI ih0
  try dsimp only at hI ih0
  obtain ⟨i1, i2⟩ := hI
  refine t_seq<|tsr<|rM ?_
  refine rM ?_
  refine r_op (o_len rfl rfl rfl) ?_
  refine rB<|r_end ?_
  refine t_cond rfl (fun h2 => ?_) (fun h2 => ?_)
  ·
   have h2' := of_decide_eq_true h2
   refine t_skip<|t_seq<|t_block<|tsr<|rM ?_
   refine rM ?_
   obtain ⟨z3, hz4, b5⟩ := at_get (xs := l) (n := (m : Int)) (by omega) (by omega)
   refine r_op (o_index rfl (by kernel_rfl) rfl rfl b5 hz4) ?_
   refine r_op (o_loadA rfl (n := 2) (by kernel_rfl) (by kernel_rfl) rfl rfl) ?_
   refine rM ?_
   refine r_op (o_call 0 0 false (en Tryz.func94) (c_laws_szAtom (z3.1) (z3.2) (k - l.length - ((szT (fun (x : Int × (List (Int))) => (x.2).length) l m : Nat) : Int)) (by omega) (by omega) (by (have ok := ok_at hl (by assumption); (exact ok.2)))) rfl (.cons rfl (.agg (.cons .t0 (.cons .t0 .nil))) (.cons rfl (.c .t0) .nil)) rfl rfl rfl) ?_
   refine rA<|etr ?_
   refine rM ?_
   refine rB<|r_end ?_
   refine t_cond rfl (fun h6 => ?_) (fun h6 => ?_)
   ·
    have h6' := of_decide_eq_true h6
    refine tsr<|rA<|r_end ?_
    refine tk Tryz.func41 (.tmp rfl .nil) ?_ <;> (try clear ih0)
    all_goals (refine scI ?_; have e1 := szT_step (f := (fun (x : Int × (List (Int))) => (x.2).length)) (l := l) (m := m) (by assumption); (try dsimp only at e1); have e2 := szT_le (f := (fun (x : Int × (List (Int))) => (x.2).length)) (l := l) (m + 1); omega)
   ·
    have h6' := of_decide_eq_false h6
    refine t_skip<|t_endblock<|t_region<|rM ?_
    refine rB ?_
    refine rA<|r_end ?_
    have e1 := szT_step (f := (fun (x : Int × (List (Int))) => (x.2).length)) (l := l) (m := m) (by assumption); try dsimp only at e1
    refine t_le ?_ (ih0 (m + 1) (by (try dsimp only); omega) (by (try dsimp only); constructor <;> omega))
    exact ⟨⟨rfl, ⟨(eqI (by omega)), ⟨(eqI (wrS (by omega))), trivial⟩⟩⟩, trivial, rfl⟩
  ·
   have h2' := of_decide_eq_false h2
   refine t_exit rfl<|tsr<|rM ?_
   refine rA<|r_end ?_
   refine tk Tryz.func41 (.tmp rfl .nil) ?_ <;> (try clear ih0)
   all_goals (refine scI ?_; have e1 := szT_all (f := (fun (x : Int × (List (Int))) => (x.2).length)) (l := l) (m := m) (by omega); omega)
theorem c_laws_szDependency (a0 : List (Int × (List (Int)))) (a1 : List (Int × (List (Int)))) (a2 : Bool) (a3 : Int) (a4 : Int) (k : Int) (hk : 0 ≤ k) (hk2 : k ≤ 1048576) (h0 : (okL (fun (x : Int × (List (Int))) => okI (x.1) ∧ (okL okI) (x.2))) a0) (h1 : (okL (fun (x : Int × (List (Int))) => okI (x.1) ∧ (okL okI) (x.2))) a1) : Pu Tryz.prog 7 [.agg [.t none (.sl 2 (enS2 encI (enSl 1 encI)) (a0)), .t none (.sl 2 (enS2 encI (enSl 1 encI)) (a1)), .t none (.v (.bool (a2))), .t none (.v (.int .i64 (a3))), .t none (.v (.int .i64 (a4)))], .c (.t none (.v (.int .i64 (k))))] [] 0 (.c (.t none (.v (.int .i64 (if k - (((szS (fun (x : Int × (List (Int))) => (x.2).length) (a0)) + (szS (fun (x : Int × (List (Int))) => (x.2).length) (a1)) : Nat) : Int) < 0 then -1 else k - (((szS (fun (x : Int × (List (Int))) => (x.2).length) (a0)) + (szS (fun (x : Int × (List (Int))) => (x.2).length) (a1)) : Nat) : Int)))))) := by
 refine pu_enter Tryz.func7 rfl (Nat.le_of_ble_eq_true rfl) fun w S => ?_
 have g_a0 := h0.1; have g_a1 := h1.1
 refine tsr ?_
 refine r_op (o_box 0 rfl rfl rfl rfl) ?_
 refine rA<|etr ?_
 refine rF 0 ?_
 refine rL ?_
 refine rM ?_
 refine r_op (o_call 1 1 false (en Tryz.func41) (c_laws_szAtomS (a0) (k) (by omega) (by omega) (by omega)) rfl (.cons rfl (.c .t0) (.cons rfl (.c .t0) .nil)) rfl rfl rfl) ?_
 refine rA<|r_end<|t_seq<|tsr ?_
 refine rM ?_
 refine rB<|r_end ?_
 refine t_cond rfl (fun h1 => ?_) (fun h1 => ?_)
 ·
  have h1' := of_decide_eq_true h1
  refine tsr<|rA<|r_end ?_
  refine tk Tryz.func7 (.tmp rfl .nil) ?_
  all_goals (refine scI ?_; (try simp only [IntKind.wrap_i64] at *); omega)
 ·
  have h1' := of_decide_eq_false h1
  refine t_skip<|tsr<|rF 1 ?_
  refine rL ?_
  refine rM ?_
  refine r_op (o_call 1 1 false (en Tryz.func41) (c_laws_szAtomS (a1) (if (k) - ((szS (fun (x : Int × (List (Int))) => (x.2).length) (a0) : Nat) : Int) < 0 then -1 else (k) - ((szS (fun (x : Int × (List (Int))) => (x.2).length) (a0) : Nat) : Int)) (by omega) (by omega) (by omega)) rfl (.cons rfl (.c .t0) (.cons rfl (.c .t0) .nil)) rfl rfl rfl) ?_
  refine rA<|r_end<|t_seq<|tsr ?_
  refine rM ?_
  refine rB<|r_end ?_
  refine t_cond rfl (fun h2 => ?_) (fun h2 => ?_)
  ·
   have h2' := of_decide_eq_true h2
   refine tsr<|rA<|r_end ?_
   refine tk Tryz.func7 (.tmp rfl .nil) ?_
   all_goals (refine scI ?_; (try simp only [IntKind.wrap_i64] at *); omega)
  ·
   have h2' := of_decide_eq_false h2
   refine t_skip<|tsr<|rM ?_
   refine rA<|r_end ?_
   refine tk Tryz.func7 (.tmp rfl .nil) ?_
   all_goals (refine scI ?_; (try simp only [IntKind.wrap_i64] at *); omega)
theorem c_laws_szDependencyS (l : List ((List (Int × (List (Int)))) × (List (Int × (List (Int)))) × Bool × Int × Int)) (k : Int) (hk : 0 ≤ k) (hk2 : k ≤ 1048576) (hl : (okL (fun (x : (List (Int × (List (Int)))) × (List (Int × (List (Int)))) × Bool × Int × Int) => (okL (fun (x : Int × (List (Int))) => okI (x.1) ∧ (okL okI) (x.2))) (x.1) ∧ (okL (fun (x : Int × (List (Int))) => okI (x.1) ∧ (okL okI) (x.2))) (x.2.1) ∧ okB (x.2.2.1) ∧ okI (x.2.2.2.1) ∧ okI (x.2.2.2.2))) l) : Pu Tryz.prog 20 [.c (.t none (.sl 5 (enS5 (enSl 2 (enS2 encI (enSl 1 encI))) (enSl 2 (enS2 encI (enSl 1 encI))) encB encI encI) (l))), .c (.t none (.v (.int .i64 (k))))] [] 0 (.c (.t none (.v (.int .i64 (if k - ((szS (fun (x : (List (Int × (List (Int)))) × (List (Int × (List (Int)))) × Bool × Int × Int) => (szS (fun (x : Int × (List (Int))) => (x.2).length) (x.1)) + (szS (fun (x : Int × (List (Int))) => (x.2).length) (x.2.1))) l : Nat) : Int) < 0 then -1 else k - ((szS (fun (x : (List (Int × (List (Int)))) × (List (Int × (List (Int)))) × Bool × Int × Int) => (szS (fun (x : Int × (List (Int))) => (x.2).length) (x.1)) + (szS (fun (x : Int × (List (Int))) => (x.2).length) (x.2.1))) l : Nat) : Int)))))) := by
 refine pu_enter Tryz.func20 rfl (Nat.le_of_ble_eq_true rfl) fun w S => ?_
 have gl := hl.1
 refine tsr<|rA<|etr ?_
 refine rM ?_
 refine rM ?_
 refine r_op (o_len rfl rfl rfl) ?_
 refine rB ?_
 refine rA<|r_end<|t_seq<|tsr ?_
 refine rM ?_
 refine rB<|r_end ?_
 refine t_cond rfl (fun h1 => ?_) (fun h1 => ?_)
 ·
  have h1' := of_decide_eq_true h1
  refine tsr<|rA<|r_end ?_
  refine tk Tryz.func20 (.tmp rfl .nil) ?_ <;> (try clear ih0)
  all_goals (refine scI ?_; (simp only [IntKind.wrap_i64] at *); have e1 := sz_len (f := (fun (x : (List (Int × (List (Int)))) × (List (Int × (List (Int)))) × Bool × Int × Int) => (szS (fun (x : Int × (List (Int))) => (x.2).length) (x.1)) + (szS (fun (x : Int × (List (Int))) => (x.2).length) (x.2.1)))) (l := l); omega)
 ·
  have h1' := of_decide_eq_false h1
  refine t_skip<|t_seq<|tsr<|rA<|r_end<|t_block ?_
  refine t_loopL (fun m => ⟨[(0, some (.c (.t none (.sl 5 (enS5 (enSl 2 (enS2 encI (enSl 1 encI))) (enSl 2 (enS2 encI (enSl 1 encI))) encB encI encI) (l))))), (1, some (.c (.t none (.v (.int .i64 (k - l.length - ((szT (fun (x : (List (Int × (List (Int)))) × (List (Int × (List (Int)))) × Bool × Int × Int) => (szS (fun (x : Int × (List (Int))) => (x.2).length) (x.1)) + (szS (fun (x : Int × (List (Int))) => (x.2).length) (x.2.1))) l m : Nat) : Int))))))), (5, some (.c (.t none (.v (.int .i64 ((m : Int)))))))], [], 0⟩ : Nat → St) (fun m => m ≤ l.length ∧ 0 ≤ k - l.length - ((szT (fun (x : (List (Int × (List (Int)))) × (List (Int × (List (Int)))) × Bool × Int × Int) => (szS (fun (x : Int × (List (Int))) => (x.2).length) (x.1)) + (szS (fun (x : Int × (List (Int))) => (x.2).length) (x.2.1))) l m : Nat) : Int)) (fun m => l.length - m) 0 ⟨⟨rfl, ⟨(eqI (by rw [wr64 (by omega) (by omega)]; simp [szT_zero])), ⟨rfl, trivial⟩⟩⟩, trivial, rfl⟩ (by exact ⟨Nat.zero_le _, by (simp only [IntKind.wrap_i64] at *); simp only [szT_zero]; omega⟩) ?_
  rintro m hI ih0
  try dsimp only at hI ih0
  obtain ⟨i1, i2⟩ := hI
  refine t_seq<|tsr<|rM ?_
  refine rM ?_
  refine r_op (o_len rfl rfl rfl) ?_
  refine rB<|r_end ?_
  refine t_cond rfl (fun h2 => ?_) (fun h2 => ?_)
  ·
   have h2' := of_decide_eq_true h2
   refine t_skip<|t_seq<|t_block<|tsr<|rM ?_
   refine rM ?_
   obtain ⟨z3, hz4, b5⟩ := at_get (xs := l) (n := (m : Int)) (by omega) (by omega)
   refine r_op (o_index rfl (by kernel_rfl) rfl rfl b5 hz4) ?_
   refine r_op (o_loadA rfl (n := 5) (by kernel_rfl) (by kernel_rfl) rfl rfl) ?_
   refine rM ?_
   refine r_op (o_call 0 0 false (en Tryz.func7) (c_laws_szDependency (z3.1) (z3.2.1) (z3.2.2.1) (z3.2.2.2.1) (z3.2.2.2.2) (k - l.length - ((szT (fun (x : (List (Int × (List (Int)))) × (List (Int × (List (Int)))) × Bool × Int × Int) => (szS (fun (x : Int × (List (Int))) => (x.2).length) (x.1)) + (szS (fun (x : Int × (List (Int))) => (x.2).length) (x.2.1))) l m : Nat) : Int)) (by omega) (by omega) (by (have ok := ok_at hl (by assumption); (exact ok.1))) (by (have ok := ok_at hl (by assumption); (exact ok.2.1)))) rfl (.cons rfl (.agg (.cons .t0 (.cons .t0 (.cons .t0 (.cons .t0 (.cons .t0 .nil)))))) (.cons rfl (.c .t0) .nil)) rfl rfl rfl) ?_
   refine rA<|etr ?_
   refine rM ?_
   refine rB<|r_end ?_
   refine t_cond rfl (fun h6 => ?_) (fun h6 => ?_)
   ·
    have h6' := of_decide_eq_true h6
    refine tsr<|rA<|r_end ?_
    refine tk Tryz.func20 (.tmp rfl .nil) ?_ <;> (try clear ih0)
    all_goals (refine scI ?_; have e1 := szT_step (f := (fun (x : (List (Int × (List (Int)))) × (List (Int × (List (Int)))) × Bool × Int × Int) => (szS (fun (x : Int × (List (Int))) => (x.2).length) (x.1)) + (szS (fun (x : Int × (List (Int))) => (x.2).length) (x.2.1)))) (l := l) (m := m) (by assumption); (try dsimp only at e1); have e2 := szT_le (f := (fun (x : (List (Int × (List (Int)))) × (List (Int × (List (Int)))) × Bool × Int × Int) => (szS (fun (x : Int × (List (Int))) => (x.2).length) (x.1)) + (szS (fun (x : Int × (List (Int))) => (x.2).length) (x.2.1)))) (l := l) (m + 1); omega)
   ·
    have h6' := of_decide_eq_false h6
    refine t_skip<|t_endblock<|t_region<|rM ?_
    refine rB ?_
    refine rA<|r_end ?_
    have e1 := szT_step (f := (fun (x : (List (Int × (List (Int)))) × (List (Int × (List (Int)))) × Bool × Int × Int) => (szS (fun (x : Int × (List (Int))) => (x.2).length) (x.1)) + (szS (fun (x : Int × (List (Int))) => (x.2).length) (x.2.1)))) (l := l) (m := m) (by assumption); try dsimp only at e1
    refine t_le ?_ (ih0 (m + 1) (by (try dsimp only); omega) (by (try dsimp only); constructor <;> omega))
    exact ⟨⟨rfl, ⟨(eqI (by omega)), ⟨(eqI (wrS (by omega))), trivial⟩⟩⟩, trivial, rfl⟩
  ·
   have h2' := of_decide_eq_false h2
   refine t_exit rfl<|tsr<|rM ?_
   refine rA<|r_end ?_
   refine tk Tryz.func20 (.tmp rfl .nil) ?_ <;> (try clear ih0)
   all_goals (refine scI ?_; have e1 := szT_all (f := (fun (x : (List (Int × (List (Int)))) × (List (Int × (List (Int)))) × Bool × Int × Int) => (szS (fun (x : Int × (List (Int))) => (x.2).length) (x.1)) + (szS (fun (x : Int × (List (Int))) => (x.2).length) (x.2.1)))) (l := l) (m := m) (by omega); omega)
theorem c_laws_toRelation (a0 : List UInt8) (a1 : Int) (a2 : Bool) (hs : (a0).length ≤ 1048576) : Pu Tryz.prog 105 [.agg [.t none (.v (.string (mkS (a0)))), .t none (.v (.int .i64 (a1))), .t none (.v (.bool (a2)))]] [] 3 (.agg [.t none (.v (.string (mkS (a0)))), .t none (.v (.int .i64 (a1))), .t none (.v (.bool (a2)))]) := by
 refine pu_enter Tryz.func105 rfl (Nat.le_of_ble_eq_true rfl) fun w S => ?_
 refine tsr ?_
 refine r_op (o_box 0 rfl rfl rfl rfl) ?_
 refine r_op (o_alloc 1 (zs := [.string (mkS ([])), .int .i64 (0), .bool (false)]) rfl rfl (by kernel_rfl) rfl) ?_
 refine etr ?_
 refine r_op (o_alloc 2 (zs := [.string (mkS ([])), .int .i64 (0), .bool (false)]) rfl rfl (by kernel_rfl) rfl) ?_
 refine etr<|rF 0 ?_
 refine rL ?_
 refine rF 0 ?_
 refine rS 1<|etr ?_
 refine rF 1 ?_
 refine rL ?_
 refine rF 1 ?_
 refine rS 1<|etr ?_
 refine rF 2 ?_
 refine rL ?_
 refine rF 2 ?_
 refine rS 1<|etr ?_
 refine rC 3 ?_
 refine rS 3<|r_end ?_
 refine tk Tryz.func105 (.cells (n := 3) (by kernel_rfl) (by kernel_rfl) rfl rfl rfl .nil) ?_
 all_goals (rfl)
theorem c_laws_toRelationS (l : List (List UInt8 × Int × Bool)) (hs : szS (fun (x : List UInt8 × Int × Bool) => (x.1).length) l ≤ 1048576) : Pu Tryz.prog 50 [.c (.t none (.sl 3 (enS3 encS encI encB) (l)))] [(0, some (.row none 119 true 3 (enS3 encS encI encB) (l)))] 1 (.c (.own 0)) := by
 refine pu_enter Tryz.func50 rfl (Nat.le_of_ble_eq_true rfl) fun w S => ?_
 have gl := sz_len (f := (fun (x : List UInt8 × Int × Bool) => (x.1).length)) (l := l)
 refine tsr<|rA<|etr ?_
 refine rM ?_
 refine r_op (o_len rfl rfl rfl) ?_
 refine r_op (o_make 0 true (et := 119) (sz := 3) (by' := 32) (enS3 encS encI encB) (([], 0, false)) (zs := [.string (mkS ([])), .int .i64 (0), .bool (false)]) rfl rfl (by kernel_rfl) (by kernel_rfl) rfl rfl (.cons (.v rfl) (.cons (.v rfl) (.cons (.v rfl) .nil))) rfl rfl (by omega) (by omega) (by omega)) ?_
 refine rA<|r_end<|t_seq<|tsr ?_
 refine rA<|r_end<|t_block ?_
 refine t_loopL (fun m => ⟨[(0, some (.c (.t none (.sl 3 (enS3 encS encI encB) (l))))), (2, some (.c (.t none (.v (.slice none 0 0))))), (3, some (.c (.own 0))), (4, some (.c (.t none (.v (.int .i64 ((m : Int)))))))], [(0, some (.row none 119 true 3 (enS3 encS encI encB) (l.take m ++ List.replicate (l.length - m) (([], 0, false)))))], 1⟩ : Nat → St) (fun m => m ≤ l.length) (fun m => l.length - m) 0 ⟨⟨rfl, ⟨rfl, ⟨rfl, ⟨rfl, trivial⟩⟩⟩⟩, ⟨(eqR (by simp)), trivial⟩, rfl⟩ (by simp) ?_
 rintro m hI ih0
 try dsimp only at hI ih0
 refine t_seq<|tsr<|rM ?_
 refine rM ?_
 refine r_op (o_len rfl rfl rfl) ?_
 refine rB<|r_end ?_
 refine t_cond rfl (fun h1 => ?_) (fun h1 => ?_)
 ·
  have h1' := of_decide_eq_true h1
  refine t_skip<|t_seq<|t_block<|t_region<|rM ?_
  refine rM ?_
  refine rM ?_
  refine rM ?_
  obtain ⟨z2, hz3, b4⟩ := at_get (xs := l) (n := (m : Int)) (by omega) (by omega)
  refine r_op (o_index rfl (by kernel_rfl) rfl rfl b4 hz3) ?_
  refine r_op (o_loadA rfl (n := 3) (by kernel_rfl) (by kernel_rfl) rfl rfl) ?_
  refine r_op (o_call 1 4 false (en Tryz.func105) (c_laws_toRelation (z2.1) (z2.2.1) (z2.2.2) (by (have e1 := sz_at (f := (fun (x : List UInt8 × Int × Bool) => (x.1).length)) (l := l) (m := m) (by assumption); (try dsimp only at e1); omega))) rfl (.cons rfl (.agg (.cons .t0 (.cons .t0 (.cons .t0 .nil)))) .nil) rfl rfl rfl) ?_
  obtain ⟨z5, hz6, b7⟩ := at_get (xs := l.take m ++ List.replicate (l.length - m) (([], 0, false))) (n := (m : Int)) (by omega) (by (simp; omega))
  refine r_op (o_indexo rfl (by kernel_rfl) rfl rfl rfl b7 (at_lt b7 hz6)) ?_
  refine r_op (o_storeo (((z2.1), (z2.2.1), (z2.2.2))) (n := 3) (by kernel_rfl) rfl rfl hz6 rfl rfl rfl rfl (.cons .sc (.cons .sc (.cons .sc .nil))) rfl (fun j h1 h2 => by (simp at h1 h2; omega))) ?_
  refine r_end<|t_endblock<|t_region<|rM ?_
  refine rB ?_
  refine rA<|r_end ?_
  refine t_le ?_ (ih0 (m + 1) (by (try dsimp only); omega) (by (try dsimp only); omega))
  exact ⟨⟨rfl, ⟨rfl, ⟨rfl, ⟨(eqI (wrS (by omega))), trivial⟩⟩⟩⟩, ⟨(eqR (fill_set (by assumption))), trivial⟩, rfl⟩
 ·
  have h1' := of_decide_eq_false h1
  refine t_exit rfl<|tsr<|rM ?_
  refine rA<|r_end ?_
  refine tk Tryz.func50 (.tmp rfl .nil) ?_ (hL := ⟨eqR ?_, trivial⟩) <;> (try clear ih0)
  all_goals first | rfl | ((obtain rfl : m = l.length := by omega); simp)
theorem c_laws_toIntS (l : List Int) (hl : l.length ≤ 1048576) : Pu Tryz.prog 11 [.c (.t none (.sl 1 encI (l)))] [(0, some (.row none 3 true 1 encI (l)))] 1 (.c (.own 0)) := by
 refine pu_enter Tryz.func11 rfl (Nat.le_of_ble_eq_true rfl) fun w S => ?_
 refine tsr<|rA<|etr ?_
 refine rM ?_
 refine r_op (o_len rfl rfl rfl) ?_
 refine r_op (o_make 0 true (et := 3) (sz := 1) (by' := 8) encI (0) (zs := [.int .i64 (0)]) rfl rfl (by kernel_rfl) (by kernel_rfl) rfl rfl (.cons (.v rfl) .nil) rfl rfl (by omega) (by omega) (by omega)) ?_
 refine rA<|r_end<|t_seq<|tsr ?_
 refine rA<|r_end<|t_block ?_
 refine t_loopL (fun m => ⟨[(0, some (.c (.t none (.sl 1 encI (l))))), (2, some (.c (.t none (.v (.slice none 0 0))))), (3, some (.c (.own 0))), (4, some (.c (.t none (.v (.int .i64 ((m : Int)))))))], [(0, some (.row none 3 true 1 encI (l.take m ++ List.replicate (l.length - m) 0)))], 1⟩ : Nat → St) (fun m => m ≤ l.length) (fun m => l.length - m) 0 ⟨⟨rfl, ⟨rfl, ⟨rfl, ⟨rfl, trivial⟩⟩⟩⟩, ⟨(eqR (by simp)), trivial⟩, rfl⟩ (by simp) ?_
 rintro m hI ih0
 try dsimp only at hI ih0
 refine t_seq<|tsr<|rM ?_
 refine rM ?_
 refine r_op (o_len rfl rfl rfl) ?_
 refine rB<|r_end ?_
 refine t_cond rfl (fun h1 => ?_) (fun h1 => ?_)
 ·
  have h1' := of_decide_eq_true h1
  refine t_skip<|t_seq<|t_block<|t_region<|rM ?_
  refine rM ?_
  refine rM ?_
  refine rM ?_
  obtain ⟨z2, hz3, b4⟩ := at_get (xs := l) (n := (m : Int)) (by omega) (by omega)
  refine r_op (o_index rfl (by kernel_rfl) rfl rfl b4 hz3) ?_
  refine r_op (o_load1 rfl (by kernel_rfl) rfl rfl) ?_
  obtain ⟨z5, hz6, b7⟩ := at_get (xs := l.take m ++ List.replicate (l.length - m) 0) (n := (m : Int)) (by omega) (by (simp; omega))
  refine r_op (o_indexo rfl (by kernel_rfl) rfl rfl rfl b7 (at_lt b7 hz6)) ?_
  refine r_op (o_storeo (z2) (n := 1) (by kernel_rfl) rfl rfl hz6 rfl rfl rfl rfl (.cons .sc .nil) rfl (fun j h1 h2 => by (simp at h1 h2; omega))) ?_
  refine r_end<|t_endblock<|t_region<|rM ?_
  refine rB ?_
  refine rA<|r_end ?_
  refine t_le ?_ (ih0 (m + 1) (by (try dsimp only); omega) (by (try dsimp only); omega))
  exact ⟨⟨rfl, ⟨rfl, ⟨rfl, ⟨(eqI (wrS (by omega))), trivial⟩⟩⟩⟩, ⟨(eqR (fill_set (by assumption))), trivial⟩, rfl⟩
 ·
  have h1' := of_decide_eq_false h1
  refine t_exit rfl<|tsr<|rM ?_
  refine rA<|r_end ?_
  refine tk Tryz.func11 (.tmp rfl .nil) ?_ (hL := ⟨eqR ?_, trivial⟩) <;> (try clear ih0)
  all_goals first | rfl | ((obtain rfl : m = l.length := by omega); simp)
theorem c_laws_toFact (r : Int) (l : List Int) (hl : l.length ≤ 1048576) : Pu Tryz.prog 106 [.agg [.t none (.v (.int .i64 (r))), .t none (.sl 1 encI (l))]] [(3, some (.row none 3 true 1 encI (l)))] 4 (.agg [.t none (.v (.int .i64 (r))), .own 3]) := by
 refine pu_enter Tryz.func106 rfl (Nat.le_of_ble_eq_true rfl) fun w S => ?_
 refine tsr ?_
 refine r_op (o_box 0 rfl rfl rfl rfl) ?_
 refine r_op (o_alloc 1 (zs := [.int .i64 (0), .slice none 0 0]) rfl rfl (by kernel_rfl) rfl) ?_
 refine etr ?_
 refine r_op (o_alloc 2 (zs := [.int .i64 (0), .slice none 0 0]) rfl rfl (by kernel_rfl) rfl) ?_
 refine etr<|rF 0 ?_
 refine rL ?_
 refine rF 0 ?_
 refine rS 1<|etr ?_
 refine rF 1 ?_
 refine rL ?_
 refine r_op (o_call 3 4 false (en Tryz.func11) (c_laws_toIntS (l) (by omega)) rfl (.cons rfl (.c .t0) .nil) rfl rfl rfl) ?_
 refine rF 1 ?_
 refine rS 1<|etr ?_
 refine rC 2 ?_
 refine rS 2<|r_end ?_
 refine tk Tryz.func106 (.cells (n := 2) (by kernel_rfl) (by kernel_rfl) rfl rfl rfl .nil) ?_ (hL := ⟨eqR ?_, trivial⟩)
 all_goals (rfl)
theorem c_laws_toFactS (l : List (Int × (List (Int)))) (hs : szS (fun (x : Int × (List (Int))) => (x.2).length) l ≤ 1048576) : Pu Tryz.prog 51 [.c (.t none (.sl 2 (enS2 encI (enSl 1 encI)) (l)))] [(0, some (.row none 85 true 2 (enS2 encI (enSl 1 encI)) (l)))] 1 (.c (.own 0)) := by
 refine pu_enter Tryz.func51 rfl (Nat.le_of_ble_eq_true rfl) fun w S => ?_
 have gl := sz_len (f := (fun (x : Int × (List (Int))) => (x.2).length)) (l := l)
 refine tsr<|rA<|etr ?_
 refine rM ?_
 refine r_op (o_len rfl rfl rfl) ?_
 refine r_op (o_make 0 true (et := 85) (sz := 2) (by' := 32) (enS2 encI (enSl 1 encI)) ((0, [])) (zs := [.int .i64 (0), .slice none 0 0]) rfl rfl (by kernel_rfl) (by kernel_rfl) rfl rfl (.cons (.v rfl) (.cons .sl .nil)) rfl rfl (by omega) (by omega) (by omega)) ?_
 refine rA<|r_end<|t_seq<|tsr ?_
 refine rA<|r_end<|t_block ?_
 refine t_loopL (fun m => ⟨[(0, some (.c (.t none (.sl 2 (enS2 encI (enSl 1 encI)) (l))))), (2, some (.c (.t none (.v (.slice none 0 0))))), (3, some (.c (.own 0))), (4, some (.c (.t none (.v (.int .i64 ((m : Int)))))))], [(0, some (.row none 85 true 2 (enS2 encI (enSl 1 encI)) (l.take m ++ List.replicate (l.length - m) ((0, [])))))], 1⟩ : Nat → St) (fun m => m ≤ l.length) (fun m => l.length - m) 0 ⟨⟨rfl, ⟨rfl, ⟨rfl, ⟨rfl, trivial⟩⟩⟩⟩, ⟨(eqR (by simp)), trivial⟩, rfl⟩ (by simp) ?_
 rintro m hI ih0
 try dsimp only at hI ih0
 refine t_seq<|tsr<|rM ?_
 refine rM ?_
 refine r_op (o_len rfl rfl rfl) ?_
 refine rB<|r_end ?_
 refine t_cond rfl (fun h1 => ?_) (fun h1 => ?_)
 ·
  have h1' := of_decide_eq_true h1
  refine t_skip<|t_seq<|t_block<|t_region<|rM ?_
  refine rM ?_
  refine rM ?_
  refine rM ?_
  obtain ⟨z2, hz3, b4⟩ := at_get (xs := l) (n := (m : Int)) (by omega) (by omega)
  refine r_op (o_index rfl (by kernel_rfl) rfl rfl b4 hz3) ?_
  refine r_op (o_loadA rfl (n := 2) (by kernel_rfl) (by kernel_rfl) rfl rfl) ?_
  refine r_op (o_call 1 5 false (en Tryz.func106) (c_laws_toFact (z2.1) (z2.2) (by (have e1 := sz_at (f := (fun (x : Int × (List (Int))) => (x.2).length)) (l := l) (m := m) (by assumption); (try dsimp only at e1); omega))) rfl (.cons rfl (.agg (.cons .t0 (.cons .t0 .nil))) .nil) rfl rfl rfl) ?_
  obtain ⟨z5, hz6, b7⟩ := at_get (xs := l.take m ++ List.replicate (l.length - m) ((0, []))) (n := (m : Int)) (by omega) (by (simp; omega))
  refine r_op (o_indexo rfl (by kernel_rfl) rfl rfl rfl b7 (at_lt b7 hz6)) ?_
  refine r_op (o_storeo (((z2.1), (z2.2))) (n := 2) (by kernel_rfl) rfl rfl hz6 rfl rfl rfl rfl (.cons .sc (.take (.own rfl) rfl .nil)) rfl (fun j h1 h2 => by (simp at h1 h2; omega))) ?_
  refine r_end<|t_endblock<|t_region<|rM ?_
  refine rB ?_
  refine rA<|r_end ?_
  refine t_le ?_ (ih0 (m + 1) (by (try dsimp only); omega) (by (try dsimp only); omega))
  exact ⟨⟨rfl, ⟨rfl, ⟨rfl, ⟨(eqI (wrS (by omega))), trivial⟩⟩⟩⟩, ⟨(eqR (fill_set (by assumption))), trivial⟩, rfl⟩
 ·
  have h1' := of_decide_eq_false h1
  refine t_exit rfl<|tsr<|rM ?_
  refine rA<|r_end ?_
  refine tk Tryz.func51 (.tmp rfl .nil) ?_ (hL := ⟨eqR ?_, trivial⟩) <;> (try clear ih0)
  all_goals first | rfl | ((obtain rfl : m = l.length := by omega); simp)
theorem c_laws_toInstance (a0 : List (List UInt8 × Int × Bool)) (a1 : List (Int × (List (Int)))) (hs : (szS (fun (x : List UInt8 × Int × Bool) => (x.1).length) (a0)) + (szS (fun (x : Int × (List (Int))) => (x.2).length) (a1)) ≤ 1048576) : Pu Tryz.prog 9 [.agg [.t none (.sl 3 (enS3 encS encI encB) (a0)), .t none (.sl 2 (enS2 encI (enSl 1 encI)) (a1))]] [(3, some (.row none 119 true 3 (enS3 encS encI encB) (a0))), (4, some (.row none 85 true 2 (enS2 encI (enSl 1 encI)) (a1)))] 5 (.agg [.own 3, .own 4]) := by
 refine pu_enter Tryz.func9 rfl (Nat.le_of_ble_eq_true rfl) fun w S => ?_
 refine tsr ?_
 refine r_op (o_box 0 rfl rfl rfl rfl) ?_
 refine r_op (o_alloc 1 (zs := [.slice none 0 0, .slice none 0 0]) rfl rfl (by kernel_rfl) rfl) ?_
 refine etr ?_
 refine r_op (o_alloc 2 (zs := [.slice none 0 0, .slice none 0 0]) rfl rfl (by kernel_rfl) rfl) ?_
 refine etr<|rF 0 ?_
 refine rL ?_
 refine r_op (o_call 3 4 false (en Tryz.func50) (c_laws_toRelationS (a0) (by omega)) rfl (.cons rfl (.c .t0) .nil) rfl rfl rfl) ?_
 refine rF 0 ?_
 refine rS 1<|etr ?_
 refine rF 1 ?_
 refine rL ?_
 refine r_op (o_call 4 5 false (en Tryz.func51) (c_laws_toFactS (a1) (by omega)) rfl (.cons rfl (.c .t0) .nil) rfl rfl rfl) ?_
 refine rF 1 ?_
 refine rS 1<|etr ?_
 refine rC 2 ?_
 refine rS 2<|r_end ?_
 refine tk Tryz.func9 (.cells (n := 2) (by kernel_rfl) (by kernel_rfl) rfl rfl rfl .nil) ?_ (hL := ⟨eqR ?_, ⟨eqR ?_, trivial⟩⟩)
 all_goals (rfl)
theorem c_laws_toAtom (a0 : Int) (a1 : List (Int)) (hs : (a1).length ≤ 1048576) : Pu Tryz.prog 107 [.agg [.t none (.v (.int .i64 (a0))), .t none (.sl 1 encI (a1))]] [(3, some (.row none 3 true 1 encI (a1)))] 4 (.agg [.t none (.v (.int .i64 (a0))), .own 3]) := by
 refine pu_enter Tryz.func107 rfl (Nat.le_of_ble_eq_true rfl) fun w S => ?_
 refine tsr ?_
 refine r_op (o_box 0 rfl rfl rfl rfl) ?_
 refine r_op (o_alloc 1 (zs := [.int .i64 (0), .slice none 0 0]) rfl rfl (by kernel_rfl) rfl) ?_
 refine etr ?_
 refine r_op (o_alloc 2 (zs := [.int .i64 (0), .slice none 0 0]) rfl rfl (by kernel_rfl) rfl) ?_
 refine etr<|rF 0 ?_
 refine rL ?_
 refine rF 0 ?_
 refine rS 1<|etr ?_
 refine rF 1 ?_
 refine rL ?_
 refine r_op (o_call 3 4 false (en Tryz.func11) (c_laws_toIntS (a1) (by omega)) rfl (.cons rfl (.c .t0) .nil) rfl rfl rfl) ?_
 refine rF 1 ?_
 refine rS 1<|etr ?_
 refine rC 2 ?_
 refine rS 2<|r_end ?_
 refine tk Tryz.func107 (.cells (n := 2) (by kernel_rfl) (by kernel_rfl) rfl rfl rfl .nil) ?_ (hL := ⟨eqR ?_, trivial⟩)
 all_goals (rfl)
theorem c_laws_toAtomS (l : List (Int × (List (Int)))) (hs : szS (fun (x : Int × (List (Int))) => (x.2).length) l ≤ 1048576) : Pu Tryz.prog 52 [.c (.t none (.sl 2 (enS2 encI (enSl 1 encI)) (l)))] [(0, some (.row none 89 true 2 (enS2 encI (enSl 1 encI)) (l)))] 1 (.c (.own 0)) := by
 refine pu_enter Tryz.func52 rfl (Nat.le_of_ble_eq_true rfl) fun w S => ?_
 have gl := sz_len (f := (fun (x : Int × (List (Int))) => (x.2).length)) (l := l)
 refine tsr<|rA<|etr ?_
 refine rM ?_
 refine r_op (o_len rfl rfl rfl) ?_
 refine r_op (o_make 0 true (et := 89) (sz := 2) (by' := 32) (enS2 encI (enSl 1 encI)) ((0, [])) (zs := [.int .i64 (0), .slice none 0 0]) rfl rfl (by kernel_rfl) (by kernel_rfl) rfl rfl (.cons (.v rfl) (.cons .sl .nil)) rfl rfl (by omega) (by omega) (by omega)) ?_
 refine rA<|r_end<|t_seq<|tsr ?_
 refine rA<|r_end<|t_block ?_
 refine t_loopL (fun m => ⟨[(0, some (.c (.t none (.sl 2 (enS2 encI (enSl 1 encI)) (l))))), (2, some (.c (.t none (.v (.slice none 0 0))))), (3, some (.c (.own 0))), (4, some (.c (.t none (.v (.int .i64 ((m : Int)))))))], [(0, some (.row none 89 true 2 (enS2 encI (enSl 1 encI)) (l.take m ++ List.replicate (l.length - m) ((0, [])))))], 1⟩ : Nat → St) (fun m => m ≤ l.length) (fun m => l.length - m) 0 ⟨⟨rfl, ⟨rfl, ⟨rfl, ⟨rfl, trivial⟩⟩⟩⟩, ⟨(eqR (by simp)), trivial⟩, rfl⟩ (by simp) ?_
 rintro m hI ih0
 try dsimp only at hI ih0
 refine t_seq<|tsr<|rM ?_
 refine rM ?_
 refine r_op (o_len rfl rfl rfl) ?_
 refine rB<|r_end ?_
 refine t_cond rfl (fun h1 => ?_) (fun h1 => ?_)
 ·
  have h1' := of_decide_eq_true h1
  refine t_skip<|t_seq<|t_block<|t_region<|rM ?_
  refine rM ?_
  refine rM ?_
  refine rM ?_
  obtain ⟨z2, hz3, b4⟩ := at_get (xs := l) (n := (m : Int)) (by omega) (by omega)
  refine r_op (o_index rfl (by kernel_rfl) rfl rfl b4 hz3) ?_
  refine r_op (o_loadA rfl (n := 2) (by kernel_rfl) (by kernel_rfl) rfl rfl) ?_
  refine r_op (o_call 1 5 false (en Tryz.func107) (c_laws_toAtom (z2.1) (z2.2) (by (have e1 := sz_at (f := (fun (x : Int × (List (Int))) => (x.2).length)) (l := l) (m := m) (by assumption); (try dsimp only at e1); omega))) rfl (.cons rfl (.agg (.cons .t0 (.cons .t0 .nil))) .nil) rfl rfl rfl) ?_
  obtain ⟨z5, hz6, b7⟩ := at_get (xs := l.take m ++ List.replicate (l.length - m) ((0, []))) (n := (m : Int)) (by omega) (by (simp; omega))
  refine r_op (o_indexo rfl (by kernel_rfl) rfl rfl rfl b7 (at_lt b7 hz6)) ?_
  refine r_op (o_storeo (((z2.1), (z2.2))) (n := 2) (by kernel_rfl) rfl rfl hz6 rfl rfl rfl rfl (.cons .sc (.take (.own rfl) rfl .nil)) rfl (fun j h1 h2 => by (simp at h1 h2; omega))) ?_
  refine r_end<|t_endblock<|t_region<|rM ?_
  refine rB ?_
  refine rA<|r_end ?_
  refine t_le ?_ (ih0 (m + 1) (by (try dsimp only); omega) (by (try dsimp only); omega))
  exact ⟨⟨rfl, ⟨rfl, ⟨rfl, ⟨(eqI (wrS (by omega))), trivial⟩⟩⟩⟩, ⟨(eqR (fill_set (by assumption))), trivial⟩, rfl⟩
 ·
  have h1' := of_decide_eq_false h1
  refine t_exit rfl<|tsr<|rM ?_
  refine rA<|r_end ?_
  refine tk Tryz.func52 (.tmp rfl .nil) ?_ (hL := ⟨eqR ?_, trivial⟩) <;> (try clear ih0)
  all_goals first | rfl | ((obtain rfl : m = l.length := by omega); simp)
theorem c_laws_toDependency (a0 : List (Int × (List (Int)))) (a1 : List (Int × (List (Int)))) (a2 : Bool) (a3 : Int) (a4 : Int) (hs : (szS (fun (x : Int × (List (Int))) => (x.2).length) (a0)) + (szS (fun (x : Int × (List (Int))) => (x.2).length) (a1)) ≤ 1048576) : Pu Tryz.prog 10 [.agg [.t none (.sl 2 (enS2 encI (enSl 1 encI)) (a0)), .t none (.sl 2 (enS2 encI (enSl 1 encI)) (a1)), .t none (.v (.bool (a2))), .t none (.v (.int .i64 (a3))), .t none (.v (.int .i64 (a4)))]] [(3, some (.row none 89 true 2 (enS2 encI (enSl 1 encI)) (a0))), (4, some (.row none 89 true 2 (enS2 encI (enSl 1 encI)) (a1)))] 5 (.agg [.own 3, .own 4, .t none (.v (.bool (a2))), .t none (.v (.int .i64 (a3))), .t none (.v (.int .i64 (a4)))]) := by
 refine pu_enter Tryz.func10 rfl (Nat.le_of_ble_eq_true rfl) fun w S => ?_
 refine tsr ?_
 refine r_op (o_box 0 rfl rfl rfl rfl) ?_
 refine r_op (o_alloc 1 (zs := [.slice none 0 0, .slice none 0 0, .bool (false), .int .i64 (0), .int .i64 (0)]) rfl rfl (by kernel_rfl) rfl) ?_
 refine etr ?_
 refine r_op (o_alloc 2 (zs := [.slice none 0 0, .slice none 0 0, .bool (false), .int .i64 (0), .int .i64 (0)]) rfl rfl (by kernel_rfl) rfl) ?_
 refine etr<|rF 0 ?_
 refine rL ?_
 refine r_op (o_call 3 4 false (en Tryz.func52) (c_laws_toAtomS (a0) (by omega)) rfl (.cons rfl (.c .t0) .nil) rfl rfl rfl) ?_
 refine rF 0 ?_
 refine rS 1<|etr ?_
 refine rF 1 ?_
 refine rL ?_
 refine r_op (o_call 4 5 false (en Tryz.func52) (c_laws_toAtomS (a1) (by omega)) rfl (.cons rfl (.c .t0) .nil) rfl rfl rfl) ?_
 refine rF 1 ?_
 refine rS 1<|etr ?_
 refine rF 2 ?_
 refine rL ?_
 refine rF 2 ?_
 refine rS 1<|etr ?_
 refine rF 3 ?_
 refine rL ?_
 refine rF 3 ?_
 refine rS 1<|etr ?_
 refine rF 4 ?_
 refine rL ?_
 refine rF 4 ?_
 refine rS 1<|etr ?_
 refine rC 5 ?_
 refine rS 5<|r_end ?_
 refine tk Tryz.func10 (.cells (n := 5) (by kernel_rfl) (by kernel_rfl) rfl rfl rfl .nil) ?_ (hL := ⟨eqR ?_, ⟨eqR ?_, trivial⟩⟩)
 all_goals (rfl)
theorem c_laws_toDependencyS (l : List ((List (Int × (List (Int)))) × (List (Int × (List (Int)))) × Bool × Int × Int)) (hs : szS (fun (x : (List (Int × (List (Int)))) × (List (Int × (List (Int)))) × Bool × Int × Int) => (szS (fun (x : Int × (List (Int))) => (x.2).length) (x.1)) + (szS (fun (x : Int × (List (Int))) => (x.2).length) (x.2.1))) l ≤ 1048576) : Pu Tryz.prog 22 [.c (.t none (.sl 5 (enS5 (enSl 2 (enS2 encI (enSl 1 encI))) (enSl 2 (enS2 encI (enSl 1 encI))) encB encI encI) (l)))] [(0, some (.row none 41 true 5 (enS5 (enSl 2 (enS2 encI (enSl 1 encI))) (enSl 2 (enS2 encI (enSl 1 encI))) encB encI encI) (l)))] 1 (.c (.own 0)) := by
 refine pu_enter Tryz.func22 rfl (Nat.le_of_ble_eq_true rfl) fun w S => ?_
 have gl := sz_len (f := (fun (x : (List (Int × (List (Int)))) × (List (Int × (List (Int)))) × Bool × Int × Int) => (szS (fun (x : Int × (List (Int))) => (x.2).length) (x.1)) + (szS (fun (x : Int × (List (Int))) => (x.2).length) (x.2.1)))) (l := l)
 refine tsr<|rA<|etr ?_
 refine rM ?_
 refine r_op (o_len rfl rfl rfl) ?_
 refine r_op (o_make 0 true (et := 41) (sz := 5) (by' := 72) (enS5 (enSl 2 (enS2 encI (enSl 1 encI))) (enSl 2 (enS2 encI (enSl 1 encI))) encB encI encI) (([], [], false, 0, 0)) (zs := [.slice none 0 0, .slice none 0 0, .bool (false), .int .i64 (0), .int .i64 (0)]) rfl rfl (by kernel_rfl) (by kernel_rfl) rfl rfl (.cons .sl (.cons .sl (.cons (.v rfl) (.cons (.v rfl) (.cons (.v rfl) .nil))))) rfl rfl (by omega) (by omega) (by omega)) ?_
 refine rA<|r_end<|t_seq<|tsr ?_
 refine rA<|r_end<|t_block ?_
 refine t_loopL (fun m => ⟨[(0, some (.c (.t none (.sl 5 (enS5 (enSl 2 (enS2 encI (enSl 1 encI))) (enSl 2 (enS2 encI (enSl 1 encI))) encB encI encI) (l))))), (2, some (.c (.t none (.v (.slice none 0 0))))), (3, some (.c (.own 0))), (4, some (.c (.t none (.v (.int .i64 ((m : Int)))))))], [(0, some (.row none 41 true 5 (enS5 (enSl 2 (enS2 encI (enSl 1 encI))) (enSl 2 (enS2 encI (enSl 1 encI))) encB encI encI) (l.take m ++ List.replicate (l.length - m) (([], [], false, 0, 0)))))], 1⟩ : Nat → St) (fun m => m ≤ l.length) (fun m => l.length - m) 0 ⟨⟨rfl, ⟨rfl, ⟨rfl, ⟨rfl, trivial⟩⟩⟩⟩, ⟨(eqR (by simp)), trivial⟩, rfl⟩ (by simp) ?_
 rintro m hI ih0
 try dsimp only at hI ih0
 refine t_seq<|tsr<|rM ?_
 refine rM ?_
 refine r_op (o_len rfl rfl rfl) ?_
 refine rB<|r_end ?_
 refine t_cond rfl (fun h1 => ?_) (fun h1 => ?_)
 ·
  have h1' := of_decide_eq_true h1
  refine t_skip<|t_seq<|t_block<|t_region<|rM ?_
  refine rM ?_
  refine rM ?_
  refine rM ?_
  obtain ⟨z2, hz3, b4⟩ := at_get (xs := l) (n := (m : Int)) (by omega) (by omega)
  refine r_op (o_index rfl (by kernel_rfl) rfl rfl b4 hz3) ?_
  refine r_op (o_loadA rfl (n := 5) (by kernel_rfl) (by kernel_rfl) rfl rfl) ?_
  refine r_op (o_call 1 6 false (en Tryz.func10) (c_laws_toDependency (z2.1) (z2.2.1) (z2.2.2.1) (z2.2.2.2.1) (z2.2.2.2.2) (by (have e1 := sz_at (f := (fun (x : (List (Int × (List (Int)))) × (List (Int × (List (Int)))) × Bool × Int × Int) => (szS (fun (x : Int × (List (Int))) => (x.2).length) (x.1)) + (szS (fun (x : Int × (List (Int))) => (x.2).length) (x.2.1)))) (l := l) (m := m) (by assumption); (try dsimp only at e1); omega))) rfl (.cons rfl (.agg (.cons .t0 (.cons .t0 (.cons .t0 (.cons .t0 (.cons .t0 .nil)))))) .nil) rfl rfl rfl) ?_
  obtain ⟨z5, hz6, b7⟩ := at_get (xs := l.take m ++ List.replicate (l.length - m) (([], [], false, 0, 0))) (n := (m : Int)) (by omega) (by (simp; omega))
  refine r_op (o_indexo rfl (by kernel_rfl) rfl rfl rfl b7 (at_lt b7 hz6)) ?_
  refine r_op (o_storeo (((z2.1), (z2.2.1), (z2.2.2.1), (z2.2.2.2.1), (z2.2.2.2.2))) (n := 5) (by kernel_rfl) rfl rfl hz6 rfl rfl rfl rfl (.take (.own rfl) rfl (.take (.own rfl) rfl (.cons .sc (.cons .sc (.cons .sc .nil))))) rfl (fun j h1 h2 => by (simp at h1 h2; omega))) ?_
  refine r_end<|t_endblock<|t_region<|rM ?_
  refine rB ?_
  refine rA<|r_end ?_
  refine t_le ?_ (ih0 (m + 1) (by (try dsimp only); omega) (by (try dsimp only); omega))
  exact ⟨⟨rfl, ⟨rfl, ⟨rfl, ⟨(eqI (wrS (by omega))), trivial⟩⟩⟩⟩, ⟨(eqR (fill_set (by assumption))), trivial⟩, rfl⟩
 ·
  have h1' := of_decide_eq_false h1
  refine t_exit rfl<|tsr<|rM ?_
  refine rA<|r_end ?_
  refine tk Tryz.func22 (.tmp rfl .nil) ?_ (hL := ⟨eqR ?_, trivial⟩) <;> (try clear ih0)
  all_goals first | rfl | ((obtain rfl : m = l.length := by omega); simp)
theorem c_spec_l1In (a0 a1 a2 : Int) : Pu Tryz.prog 96 [.c (.t none (.v (.int .i64 (a0)))), .c (.t none (.v (.int .i64 (a1)))), .c (.t none (.v (.int .i64 (a2))))] [] 0 (.c (.t none (.v (.bool (decide (a1 ≤ a0 ∧ a0 ≤ a2)))))) := by
 refine pu_enter Tryz.func96 rfl (Nat.le_of_ble_eq_true rfl) fun w S => ?_
 refine tsr<|rA<|etr ?_
 refine rM ?_
 refine rM ?_
 refine rB ?_
 refine rM ?_
 refine rG (fun g1 => ?_) (fun g1 => ?_)
 ·
  have g1' := of_decide_eq_true g1
  refine rM ?_
  refine rG (fun _ => ?_) (nc g1)
  refine rM ?_
  refine rG (fun _ => ?_) (nc g1)
  refine rB ?_
  refine r_op (o_pickT rfl rfl g1 rfl) ?_
  refine rA<|r_end ?_
  refine tk Tryz.func96 (.tmp rfl .nil) ?_
  all_goals (simp_all <;> omega)
 ·
  have g1' := of_decide_eq_false g1
  refine rG (ncf g1) (fun _ => ?_)
  refine rG (ncf g1) (fun _ => ?_)
  refine r_op (o_pickF rfl rfl g1 rfl) ?_
  refine rA<|r_end ?_
  refine tk Tryz.func96 (.tmp rfl .nil) ?_
  all_goals (simp_all <;> omega)
theorem c_spec_IsValidRelation (n : List UInt8) (a : Int) (s : Bool) : Pu Tryz.prog 188 [.agg [.t none (.v (.string (mkS (n)))), .t none (.v (.int .i64 (a))), .t none (.v (.bool (s)))]] [] 0 (.c (.t none (.v (.bool (relOk (n, a, s)))))) := by
 refine pu_enter Tryz.func188 rfl (Nat.le_of_ble_eq_true rfl) fun w S => ?_
 refine tsr ?_
 refine r_op (o_box 0 rfl rfl rfl rfl) ?_
 refine rA<|etr ?_
 refine rF 0 ?_
 refine rL ?_
 refine r_op (o_lenS rfl Tryz.underlying9 rfl) ?_
 refine rB ?_
 refine rM ?_
 refine rG (fun g1 => ?_) (fun g1 => ?_)
 ·
  have g1' := of_decide_eq_true g1
  refine rF 0 ?_
  refine rG (fun _ => ?_) (nc g1)
  refine rL ?_
  refine rG (fun _ => ?_) (nc g1)
  obtain ⟨z2, hz3, b4⟩ := at_get (xs := n) (n := 0) (by omega) (by omega)
  refine r_op (o_indexS rfl Tryz.underlying9 rfl rfl b4 hz3) ?_
  refine rG (fun _ => ?_) (nc g1)
  refine rB ?_
  refine r_op (o_pickT rfl rfl g1 rfl) ?_
  refine rM ?_
  refine rG (fun g5 => ?_) (fun g5 => ?_)
  ·
   have g5' := of_decide_eq_true g5
   refine rF 0 ?_
   refine rG (fun _ => ?_) (nc g5)
   refine rL ?_
   refine rG (fun _ => ?_) (nc g5)
   refine r_op (o_indexS rfl Tryz.underlying9 rfl rfl b4 hz3) ?_
   refine rG (fun _ => ?_) (nc g5)
   refine rB ?_
   refine r_op (o_pickT rfl rfl g5 rfl) ?_
   refine rM ?_
   refine rG (fun g6 => ?_) (fun g6 => ?_)
   ·
    have g6' := of_decide_eq_true g6
    refine rF 1 ?_
    refine rG (fun _ => ?_) (nc g6)
    refine rL ?_
    refine rG (fun _ => ?_) (nc g6)
    refine r_op (o_call 1 1 false (en Tryz.func96) (c_spec_l1In (a) (1) (3)) rfl (.cons rfl (.c .t0) (.cons rfl (.c .t0) (.cons rfl (.c .t0) .nil))) rfl rfl rfl) ?_
    refine r_op (o_pickT rfl rfl g6 rfl) ?_
    refine rA<|r_end ?_
    refine tk Tryz.func188 (.tmp rfl .nil) ?_
    all_goals (refine scB ?_; (obtain ⟨c, rfl⟩ := one_of (by assumption); simp at *; subst_vars; simp [relOk, nameOk]; omega))
   ·
    have g6' := of_decide_eq_false g6
    refine rG (ncf g6) (fun _ => ?_)
    refine rG (ncf g6) (fun _ => ?_)
    refine r_op (o_pickF rfl rfl g6 rfl) ?_
    refine rA<|r_end ?_
    refine tk Tryz.func188 (.tmp rfl .nil) ?_
    all_goals (refine scB ?_; (obtain ⟨c, rfl⟩ := one_of (by assumption); simp at *; subst_vars; simp [relOk, nameOk]; omega))
  ·
   have g5' := of_decide_eq_false g5
   refine rG (ncf g5) (fun _ => ?_)
   refine rG (ncf g5) (fun _ => ?_)
   refine rG (ncf g5) (fun _ => ?_)
   refine r_op (o_pickF rfl rfl g5 rfl) ?_
   refine rM ?_
   refine rG (ncf rfl) (fun _ => ?_)
   refine rG (ncf rfl) (fun _ => ?_)
   refine rG (ncf rfl) (fun _ => ?_)
   refine r_op (o_pickF rfl rfl rfl rfl) ?_
   refine rA<|r_end ?_
   refine tk Tryz.func188 (.tmp rfl .nil) ?_
   all_goals (refine scB ?_; (obtain ⟨c, rfl⟩ := one_of (by assumption); simp at *; subst_vars; simp [relOk, nameOk]; omega))
 ·
  have g1' := of_decide_eq_false g1
  refine rG (ncf g1) (fun _ => ?_)
  refine rG (ncf g1) (fun _ => ?_)
  refine rG (ncf g1) (fun _ => ?_)
  refine r_op (o_pickF rfl rfl g1 rfl) ?_
  refine rM ?_
  refine rG (ncf rfl) (fun _ => ?_)
  refine rG (ncf rfl) (fun _ => ?_)
  refine rG (ncf rfl) (fun _ => ?_)
  refine rG (ncf rfl) (fun _ => ?_)
  refine r_op (o_pickF rfl rfl rfl rfl) ?_
  refine rM ?_
  refine rG (ncf rfl) (fun _ => ?_)
  refine rG (ncf rfl) (fun _ => ?_)
  refine rG (ncf rfl) (fun _ => ?_)
  refine r_op (o_pickF rfl rfl rfl rfl) ?_
  refine rA<|r_end ?_
  refine tk Tryz.func188 (.tmp rfl .nil) ?_
  all_goals (refine scB ?_; (have e := nameOk_not (by assumption); simp [relOk, e]; done))
theorem c_spec_AreValidRelations (l : List (List UInt8 × Int × Bool)) (hl : l.length ≤ 4611686018427387904) : Pu Tryz.prog 157 [.c (.t none (.sl 3 (enS3 encS encI encB) (l)))] [] 0 (.c (.t none (.v (.bool (relsOk l))))) := by
 refine pu_enter Tryz.func157 rfl (Nat.le_of_ble_eq_true rfl) fun w S => ?_
 refine tsr<|rA<|r_end<|t_seq<|tsr ?_
 refine rA<|r_end<|t_block ?_
 refine t_loopL (fun m => ⟨[(0, some (.c (.t none (.sl 3 (enS3 encS encI encB) (l))))), (3, some (.c (.t none (.v (.int .i64 ((m : Int)))))))], [], 0⟩ : Nat → St) (fun m => m ≤ l.length ∧ ∀ j, j < m → relStep l j = true) (fun m => l.length - m) 0 ⟨⟨rfl, ⟨rfl, trivial⟩⟩, trivial, rfl⟩ (by exact ⟨Nat.zero_le _, fun j h => by omega⟩) ?_
 rintro m hI ih0
 try dsimp only at hI ih0
 obtain ⟨i1, i2⟩ := hI
 refine t_seq<|tsr<|rM ?_
 refine rM ?_
 refine r_op (o_len rfl rfl rfl) ?_
 refine rB<|r_end ?_
 refine t_cond rfl (fun h1 => ?_) (fun h1 => ?_)
 ·
  have h1' := of_decide_eq_true h1
  refine t_skip<|t_seq<|t_block<|t_seq ?_
  refine t_draw (fun _ => true) (by kernel_rfl) ?_
  refine dT 0 rfl pM ?_
  refine dT 1 rfl pM ?_
  obtain ⟨z2, hz3, b4⟩ := at_get (xs := l) (n := (m : Int)) (by omega) (by omega)
  refine dT 2 rfl (p_index (by kernel_rfl) rfl rfl b4 hz3) ?_
  refine dT 3 rfl (p_loadA (n := 3) (by kernel_rfl) (by kernel_rfl) rfl rfl) ?_
  refine dO 4 rfl (o_call 0 0 false (en Tryz.func188) (c_spec_IsValidRelation (z2.1) (z2.2.1) (z2.2.2)) rfl (.cons rfl (.agg (.cons .t0 (.cons .t0 (.cons .t0 .nil)))) .nil) rfl rfl rfl) ?_
  refine dT 5 rfl (p_not rfl) ?_
  refine dT 6 rfl pM ?_
  refine dH 7 rfl (fun _ => pM) (fun g5 => ?_) (fun g5 => ?_)
  ·
   have g5' := (bnf g5)
   refine dH 8 rfl (fun _ => pB) (fun _ => ?_) (ncf g5)
   refine dH 9 rfl (fun _ => pM) (fun _ => ?_) (ncf g5)
   refine dH 10 rfl (fun _ => pM) (fun g6 => ?_) (fun g6 => ?_)
   ·
    have g6' := of_decide_eq_true g6
    refine dH 11 rfl (fun _ => pM) (fun _ => ?_) (nc g6)
    refine dH 12 rfl (fun _ => pB) (fun _ => ?_) (nc g6)
    obtain ⟨z7, hz8, b9⟩ := at_get (xs := l) (n := IntKind.i64.wrap ((m : Int) - 1)) (by (simp only [IntKind.wrap_i64]; omega)) (by (simp only [IntKind.wrap_i64]; omega))
    refine dH 13 rfl (fun _ => p_index (by kernel_rfl) rfl rfl b9 hz8) (fun _ => ?_) (nc g6)
    refine dH 14 rfl (fun _ => p_field (off := 0) (by kernel_rfl) rfl) (fun _ => ?_) (nc g6)
    refine dH 15 rfl (fun _ => p_load1 (by kernel_rfl) rfl rfl) (fun _ => ?_) (nc g6)
    refine dH 16 rfl (fun _ => pM) (fun _ => ?_) (nc g6)
    refine dH 17 rfl (fun _ => pM) (fun _ => ?_) (nc g6)
    refine dH 18 rfl (fun _ => p_index (by kernel_rfl) rfl rfl b4 hz3) (fun _ => ?_) (nc g6)
    refine dH 19 rfl (fun _ => p_field (off := 0) (by kernel_rfl) rfl) (fun _ => ?_) (nc g6)
    refine dH 20 rfl (fun _ => p_load1 (by kernel_rfl) rfl rfl) (fun _ => ?_) (nc g6)
    refine dH 21 rfl (fun _ => p_str rfl rfl rfl) (fun _ => ?_) (nc g6)
    refine dH 22 rfl (fun _ => p_pickT rfl g6 rfl) (fun _ => ?_) (ncf g5)
    refine dT 23 rfl (p_pickF rfl g5 rfl) ?_
    refine d_end (by kernel_rfl) ?_
    refine t_cond rfl (fun h10 => ?_) (fun h10 => ?_)
    ·
     have h10' := (bnt h10)
     refine tsr<|rA<|r_end ?_
     refine tk Tryz.func157 (.tmp rfl .nil) ?_ <;> (try clear ih0)
     all_goals (rw [relsOk_not (m := m) (by omega) (relStep_pos (n := (IntKind.i64.wrap ((m : Int) - 1)).toNat) (by assumption) (by assumption) (by omega) (by simp only [IntKind.wrap_i64]; omega) (by assumption) (by assumption))])
    ·
     have h10' := (bnf h10)
     refine t_skip<|t_endblock<|t_region<|rM ?_
     refine rB ?_
     refine rA<|r_end ?_
     refine t_le ?_ (ih0 (m + 1) (by (try dsimp only); omega) (by (try dsimp only); exact ⟨by omega, step_all i2 (relStep_pos (n := (IntKind.i64.wrap ((m : Int) - 1)).toNat) (by assumption) (by assumption) (by omega) (by simp only [IntKind.wrap_i64]; omega) (by assumption) (by assumption))⟩))
     exact ⟨⟨rfl, ⟨(eqI (wr64 (by omega) (by omega))), trivial⟩⟩, trivial, rfl⟩
   ·
    have g6' := of_decide_eq_false g6
    refine dG 11 (ncf g6) (fun _ => ?_)
    refine dG 12 (ncf g6) (fun _ => ?_)
    refine dG 13 (ncf g6) (fun _ => ?_)
    refine dG 14 (ncf g6) (fun _ => ?_)
    refine dG 15 (ncf g6) (fun _ => ?_)
    refine dG 16 (ncf g6) (fun _ => ?_)
    refine dG 17 (ncf g6) (fun _ => ?_)
    refine dG 18 (ncf g6) (fun _ => ?_)
    refine dG 19 (ncf g6) (fun _ => ?_)
    refine dG 20 (ncf g6) (fun _ => ?_)
    refine dG 21 (ncf g6) (fun _ => ?_)
    refine dH 22 rfl (fun _ => p_pickF rfl g6 rfl) (fun _ => ?_) (ncf g5)
    refine dT 23 rfl (p_pickF rfl g5 rfl) ?_
    refine d_end (by kernel_rfl) ?_
    refine t_cond rfl (ncf rfl) (fun _ => ?_)
    refine t_skip<|t_endblock<|t_region<|rM ?_
    refine rB ?_
    refine rA<|r_end ?_
    refine t_le ?_ (ih0 (m + 1) (by (try dsimp only); omega) (by (try dsimp only); exact ⟨by omega, step_all i2 (relStep_zero (by assumption) (by assumption) (by omega))⟩))
    exact ⟨⟨rfl, ⟨(eqI (wr64 (by omega) (by omega))), trivial⟩⟩, trivial, rfl⟩
  ·
   have g5' := (bnt g5)
   refine dG 8 (nc g5) (fun _ => ?_)
   refine dG 9 (nc g5) (fun _ => ?_)
   refine dK 10 ?_
   refine dK 11 ?_
   refine dK 12 ?_
   refine dK 13 ?_
   refine dK 14 ?_
   refine dK 15 ?_
   refine dK 16 ?_
   refine dK 17 ?_
   refine dK 18 ?_
   refine dK 19 ?_
   refine dK 20 ?_
   refine dK 21 ?_
   refine dG 22 (nc g5) (fun _ => ?_)
   refine dT 23 rfl (p_pickT rfl g5 rfl) ?_
   refine d_end (by kernel_rfl) ?_
   refine t_cond rfl (fun _ => ?_) (nc rfl)
   refine tsr<|rA<|r_end ?_
   refine tk Tryz.func157 (.tmp rfl .nil) ?_ <;> (try clear ih0)
   all_goals (rw [relsOk_not (m := m) (by omega) (relStep_bad (by assumption) (by assumption))])
 ·
  have h1' := of_decide_eq_false h1
  refine t_exit rfl<|tsr<|rM ?_
  refine r_op (o_len rfl rfl rfl) ?_
  refine rB ?_
  refine rA<|r_end ?_
  refine tk Tryz.func157 (.tmp rfl .nil) ?_ <;> (try clear ih0)
  all_goals (rw [relsOk_end (m := m) i2 (by omega)]; exact scD (by omega))
theorem c_spec_IsValidAtom (rs : List (List UInt8 × Int × Bool)) (r : Int) (ts : List Int) (hrs : rs.length ≤ 4611686018427387904) (hts : ts.length ≤ 4611686018427387904) : Pu Tryz.prog 174 [.c (.t none (.sl 3 (enS3 encS encI encB) (rs))), .agg [.t none (.v (.int .i64 (r))), .t none (.sl 1 encI (ts))]] [] 0 (.c (.t none (.v (.bool (atomOk rs r ts))))) := by
 refine pu_enter Tryz.func174 rfl (Nat.le_of_ble_eq_true rfl) fun w S => ?_
 refine tsr ?_
 refine r_op (o_box 0 rfl rfl rfl rfl) ?_
 refine rA<|r_end<|t_seq<|t_seq ?_
 refine t_draw (fun _ => true) (by kernel_rfl) ?_
 refine dT 0 rfl pM ?_
 refine dO 1 rfl (o_call 1 1 false (en Tryz.func157) (c_spec_AreValidRelations (rs) (by omega)) rfl (.cons rfl (.c .t0) .nil) rfl rfl rfl) ?_
 refine dT 2 rfl (p_not rfl) ?_
 refine dT 3 rfl pM ?_
 refine dH 4 rfl (fun _ => pF 0) (fun g1 => ?_) (fun g1 => ?_)
 ·
  have g1' := (bnf g1)
  refine dH 5 rfl (fun _ => pL) (fun _ => ?_) (ncf g1)
  refine dH 6 rfl (fun _ => pM) (fun _ => ?_) (ncf g1)
  refine dH 7 rfl (fun _ => p_len rfl rfl) (fun _ => ?_) (ncf g1)
  refine dH 8 rfl (fun _ => pB) (fun _ => ?_) (ncf g1)
  refine d_onlyG 9 rfl rfl (by kernel_rfl) rfl rfl rfl (fun _ => (o_call 1 1 false (en Tryz.func96) (c_spec_l1In (r) (0) (IntKind.i64.wrap (((rs).length : Int) - 1))) rfl (.cons rfl (.c .t0) (.cons rfl (.c .t0) (.cons rfl (.c .t0) .nil))) rfl rfl rfl)) (fun _ => ?_) (ncf g1)
  refine dH 10 rfl (fun _ => p_not rfl) (fun _ => ?_) (ncf g1)
  refine dT 11 rfl (p_pickF rfl g1 rfl) ?_
  refine dT 12 rfl pM ?_
  refine dH 13 rfl (fun _ => pF 1) (fun g2 => ?_) (fun g2 => ?_)
  ·
   have g2' := of_decide_eq_true (bnf g2)
   refine dH 14 rfl (fun _ => pL) (fun _ => ?_) (ncf g2)
   refine dH 15 rfl (fun _ => p_len rfl rfl) (fun _ => ?_) (ncf g2)
   refine dH 16 rfl (fun _ => pM) (fun _ => ?_) (ncf g2)
   refine dH 17 rfl (fun _ => pF 0) (fun _ => ?_) (ncf g2)
   refine dH 18 rfl (fun _ => pL) (fun _ => ?_) (ncf g2)
   obtain ⟨z3, hz4, b5⟩ := at_get (xs := rs) (n := r) (by omega) (by (simp only [IntKind.wrap_i64] at *; omega))
   refine dH 19 rfl (fun _ => p_index (by kernel_rfl) rfl rfl b5 hz4) (fun _ => ?_) (ncf g2)
   refine dH 20 rfl (fun _ => p_field (off := 1) (by kernel_rfl) rfl) (fun _ => ?_) (ncf g2)
   refine dH 21 rfl (fun _ => p_load1 (by kernel_rfl) rfl rfl) (fun _ => ?_) (ncf g2)
   refine dH 22 rfl (fun _ => pB) (fun _ => ?_) (ncf g2)
   refine dT 23 rfl (p_pickF rfl g2 rfl) ?_
   refine d_end (by kernel_rfl) ?_
   refine t_cond rfl (fun h6 => ?_) (fun h6 => ?_)
   ·
    have h6' := of_decide_eq_true h6
    refine tsr<|rA<|r_end ?_
    refine tk Tryz.func174 (.tmp rfl .nil) ?_ <;> (try clear ih0)
    all_goals (refine scB ?_; (rw [atom_no3 (by assumption) (by assumption)]; done))
   ·
    have h6' := of_decide_eq_false h6
    refine t_skip<|t_seq<|tsr<|rA<|r_end<|t_block ?_
    refine t_loopL (fun m => ⟨[(3, some (.c (.ptr 0 0))), (5, some (.c (.t none (.v (.int .i64 ((m : Int)))))))], [(0, some (.box [.t none (.v (.int .i64 (r))), .t none (.sl 1 encI (ts))]))], 1⟩ : Nat → St) (fun m => m ≤ ts.length ∧ ∀ j z, j < m → ts[j]? = some z → (fun t => !termOk t) z = false) (fun m => ts.length - m) 0 ⟨⟨rfl, ⟨rfl, trivial⟩⟩, ⟨rfl, trivial⟩, rfl⟩ (by exact ⟨Nat.zero_le _, fun j z h => by omega⟩) ?_
    rintro m hI ih0
    try dsimp only at hI ih0
    obtain ⟨i1, i2⟩ := hI
    refine t_seq<|tsr<|rM ?_
    refine rF 1 ?_
    refine rL ?_
    refine r_op (o_len rfl rfl rfl) ?_
    refine rB<|r_end ?_
    refine t_cond rfl (fun h7 => ?_) (fun h7 => ?_)
    ·
     have h7' := of_decide_eq_true h7
     refine t_skip<|t_seq<|t_block<|tsr<|rF 1 ?_
     refine rL ?_
     refine rM ?_
     obtain ⟨z8, hz9, b10⟩ := at_get (xs := ts) (n := (m : Int)) (by omega) (by omega)
     refine r_op (o_index rfl (by kernel_rfl) rfl rfl b10 hz9) ?_
     refine r_op (o_load1 rfl (by kernel_rfl) rfl rfl) ?_
     refine r_op (o_call 1 1 false (en Tryz.func96) (c_spec_l1In (z8) (-10) (4)) rfl (.cons rfl (.c .t0) (.cons rfl (.c .t0) (.cons rfl (.c .t0) .nil))) rfl rfl rfl) ?_
     refine r_op (o_not rfl rfl) ?_
     refine r_end ?_
     refine t_cond rfl (fun h11 => ?_) (fun h11 => ?_)
     ·
      have h11' := of_decide_eq_false (bnt h11)
      refine tsr<|rA<|r_end ?_
      refine tk Tryz.func174 (.tmp rfl .nil) ?_ <;> (try clear ih0)
      all_goals (refine scB ?_; (rw [atom_yes (by assumption) (by simp only [IntKind.wrap_i64] at *; omega) (by assumption) (by omega), any_true (p := fun t => !termOk t) (by assumption) (by simp only [termOk, Bool.not_eq_true']; exact decide_eq_false (by assumption))]; rfl))
     ·
      have h11' := of_decide_eq_true (bnf h11)
      refine t_skip<|t_endblock<|t_region<|rM ?_
      refine rB ?_
      refine rA<|r_end ?_
      refine t_le ?_ (ih0 (m + 1) (by (try dsimp only); omega) (by (try dsimp only); exact ⟨by omega, no_step i2 (by assumption) rfl (by simp only [termOk, Bool.not_eq_false']; exact decide_eq_true (by assumption))⟩))
      exact ⟨⟨rfl, ⟨(eqI (wr64 (by omega) (by omega))), trivial⟩⟩, ⟨rfl, trivial⟩, rfl⟩
    ·
     have h7' := of_decide_eq_false h7
     refine t_exit rfl<|tsr<|rA<|r_end ?_
     refine tk Tryz.func174 (.tmp rfl .nil) ?_ <;> (try clear ih0)
     all_goals (refine scB ?_; (rw [atom_yes (by assumption) (by simp only [IntKind.wrap_i64] at *; omega) (by assumption) (by omega), any_false (p := fun t => !termOk t) i2 (by omega)]; rfl))
  ·
   have g2' := of_decide_eq_false (bnt g2)
   refine dG 14 (nc g2) (fun _ => ?_)
   refine dG 15 (nc g2) (fun _ => ?_)
   refine dG 16 (nc g2) (fun _ => ?_)
   refine dG 17 (nc g2) (fun _ => ?_)
   refine dG 18 (nc g2) (fun _ => ?_)
   refine dG 19 (nc g2) (fun _ => ?_)
   refine dG 20 (nc g2) (fun _ => ?_)
   refine dG 21 (nc g2) (fun _ => ?_)
   refine dG 22 (nc g2) (fun _ => ?_)
   refine dT 23 rfl (p_pickT rfl g2 rfl) ?_
   refine d_end (by kernel_rfl) ?_
   refine t_cond rfl (fun _ => ?_) (nc rfl)
   refine tsr<|rA<|r_end ?_
   refine tk Tryz.func174 (.tmp rfl .nil) ?_ <;> (try clear ih0)
   all_goals (refine scB ?_; (rw [atom_no2 (by simp only [IntKind.wrap_i64] at *; omega)]; done))
 ·
  have g1' := (bnt g1)
  refine dG 5 (nc g1) (fun _ => ?_)
  refine dG 6 (nc g1) (fun _ => ?_)
  refine dG 7 (nc g1) (fun _ => ?_)
  refine dG 8 (nc g1) (fun _ => ?_)
  refine dG 9 (nc g1) (fun _ => ?_)
  refine dG 10 (nc g1) (fun _ => ?_)
  refine dT 11 rfl (p_pickT rfl g1 rfl) ?_
  refine dT 12 rfl pM ?_
  refine dG 13 (nc rfl) (fun _ => ?_)
  refine dG 14 (nc rfl) (fun _ => ?_)
  refine dG 15 (nc rfl) (fun _ => ?_)
  refine dG 16 (nc rfl) (fun _ => ?_)
  refine dG 17 (nc rfl) (fun _ => ?_)
  refine dG 18 (nc rfl) (fun _ => ?_)
  refine dG 19 (nc rfl) (fun _ => ?_)
  refine dG 20 (nc rfl) (fun _ => ?_)
  refine dG 21 (nc rfl) (fun _ => ?_)
  refine dG 22 (nc rfl) (fun _ => ?_)
  refine dT 23 rfl (p_pickT rfl rfl rfl) ?_
  refine d_end (by kernel_rfl) ?_
  refine t_cond rfl (fun _ => ?_) (nc rfl)
  refine tsr<|rA<|r_end ?_
  refine tk Tryz.func174 (.tmp rfl .nil) ?_ <;> (try clear ih0)
  all_goals (refine scB ?_; (rw [atom_no1 (by assumption)]; done))
theorem c_spec_l4Put (U : Nat → Value) (l : List Int) (x : Int) (hl : l.length ≤ 1099511627776) : Mu Tryz.prog 159 [.c (.own 0), .c (.t none (.v (.int .i64 (x))))] [(0, some (.row (some (U 0)) 3 true 1 encI (l)))] 1 [(0, some (.row none 3 true 1 encI (putI l x)))] 1 (.c (.own 0)) := by
 refine mu_enter Tryz.func159 rfl (Nat.le_of_ble_eq_true rfl) fun w S M => ?_
 refine tsr<|rA<|etr ?_
 refine rA<|r_end<|t_seq<|t_block ?_
 refine t_loopL (fun m => ⟨[(0, some (.c (.own 0))), (1, some (.c (.t none (.v (.int .i64 (x)))))), (4, some (.c (.t none (.v (.slice none 0 0))))), (5, some (.c (.t none (.v (.int .i64 ((m : Int)))))))], [(0, some (.row (some (U 0)) 3 true 1 encI (l)))], 1⟩ : Nat → St) (fun m => m ≤ l.length ∧ ∀ j y, j < m → l[j]? = some y → y < x) (fun m => l.length - m) 0 ⟨⟨rfl, ⟨rfl, ⟨rfl, ⟨rfl, trivial⟩⟩⟩⟩, ⟨rfl, trivial⟩, rfl⟩ (by exact ⟨Nat.zero_le _, fun j z h => by omega⟩) ?_
 rintro m hI ih0
 try dsimp only at hI ih0
 obtain ⟨i1, i2⟩ := hI
 refine t_seq<|tsr<|rM ?_
 refine rM ?_
 refine r_op (o_leno rfl rfl rfl rfl) ?_
 refine rB ?_
 refine rM ?_
 refine rG (fun g1 => ?_) (fun g1 => ?_)
 ·
  have g1' := of_decide_eq_true g1
  refine rM ?_
  refine rG (fun _ => ?_) (nc g1)
  refine rM ?_
  refine rG (fun _ => ?_) (nc g1)
  obtain ⟨z2, hz3, b4⟩ := at_get (xs := l) (n := (m : Int)) (by omega) (by omega)
  refine r_op (o_indexo rfl (by kernel_rfl) rfl rfl rfl b4 (at_lt b4 hz3)) ?_
  refine rG (fun _ => ?_) (nc g1)
  refine r_op (o_load1o rfl (by kernel_rfl) rfl rfl rfl hz3) ?_
  refine rG (fun _ => ?_) (nc g1)
  refine rM ?_
  refine rG (fun _ => ?_) (nc g1)
  refine rB ?_
  refine r_op (o_pickT rfl rfl g1 rfl) ?_
  refine r_end ?_
  refine t_cond rfl (fun h5 => ?_) (fun h5 => ?_)
  ·
   have h5' := of_decide_eq_true h5
   refine t_skip<|t_block<|t_region<|rM ?_
   refine rB ?_
   refine rA<|r_end<|t_endblock ?_
   refine t_le ?_ (ih0 (m + 1) (by (try dsimp only); omega) (by (try dsimp only); exact ⟨by omega, lt_step i2 (by assumption) rfl (by omega)⟩))
   exact ⟨⟨rfl, ⟨rfl, ⟨rfl, ⟨(eqI (wr64 (by omega) (by omega))), trivial⟩⟩⟩⟩, ⟨rfl, trivial⟩, rfl⟩
  ·
   have h5' := of_decide_eq_false h5
   refine t_exit rfl<|t_seq<|tsr<|rM ?_
   refine rM ?_
   refine r_op (o_leno rfl rfl rfl rfl) ?_
   refine rB ?_
   refine rM ?_
   refine rG (fun g6 => ?_) (fun g6 => ?_)
   ·
    have g6' := of_decide_eq_true g6
    refine rM ?_
    refine rG (fun _ => ?_) (nc g6)
    refine rM ?_
    refine rG (fun _ => ?_) (nc g6)
    refine r_op (o_indexo rfl (by kernel_rfl) rfl rfl rfl b4 (at_lt b4 hz3)) ?_
    refine rG (fun _ => ?_) (nc g6)
    refine r_op (o_load1o rfl (by kernel_rfl) rfl rfl rfl hz3) ?_
    refine rG (fun _ => ?_) (nc g6)
    refine rM ?_
    refine rG (fun _ => ?_) (nc g6)
    refine rB ?_
    refine r_op (o_pickT rfl rfl g6 rfl) ?_
    refine r_end ?_
    refine t_cond rfl (fun h7 => ?_) (fun h7 => ?_)
    ·
     have h7' := of_decide_eq_true h7
     refine tsr<|rM ?_
     refine rA<|r_end ?_
     refine gt_unpin 0 rfl ?_
     refine tkM Tryz.func159 (.tmp rfl .nil) ?_ (hL := ⟨eqR ?_, trivial⟩) <;> (try clear ih0)
     all_goals first | rfl | ((rw [putI_there i2 (by assumption) (by omega)]; done))
    ·
     have h7' := of_decide_eq_false h7
     refine t_skip<|tsr<|rM ?_
     refine r_op (o_lit1 1 (e := 3) (sz := 1) (zs := [.int .i64 (0)]) (enc := encI) (x) rfl rfl (by kernel_rfl) rfl rfl rfl rfl rfl rfl (.cons .sc .nil)) ?_
     refine rM ?_
     refine rM ?_
     refine r_op (o_subo rfl (by kernel_rfl) rfl rfl (.l rfl (by omega) (by omega))) ?_
     refine r_op (o_appendS 1 (e := 3) (sz := 1) (by' := 8) rfl (by kernel_rfl) rfl rfl rfl rfl (fun _ _ => ⟨_, rfl⟩) (by (simp only [List.length_append, List.length_take, List.length_drop, List.length_cons, List.length_nil]; omega)) (by (simp only [List.length_append, List.length_take, List.length_drop, List.length_cons, List.length_nil]; omega))) ?_
     refine rA<|etr ?_
     refine r_op (o_lit0 2 (e := 3) (sz := 1) (zs := [.int .i64 (0)]) encI rfl rfl (by kernel_rfl) rfl) ?_
     refine rM ?_
     refine rM ?_
     refine r_op (o_subo rfl (by kernel_rfl) rfl rfl (.h rfl (by omega) (by omega))) ?_
     refine r_op (o_appendS 2 (e := 3) (sz := 1) (by' := 8) rfl (by kernel_rfl) rfl rfl rfl rfl (fun _ _ => ⟨_, rfl⟩) (by (simp only [List.length_append, List.length_take, List.length_drop, List.length_cons, List.length_nil]; omega)) (by (simp only [List.length_append, List.length_take, List.length_drop, List.length_cons, List.length_nil]; omega))) ?_
     refine rM ?_
     refine r_op (o_appendO 2 (e := 3) (sz := 1) (by' := 8) rfl (by kernel_rfl) rfl rfl rfl rfl rfl (by decide) (fun _ _ => ⟨_, rfl⟩) (by (simp only [List.length_append, List.length_take, List.length_drop, List.length_cons, List.length_nil]; omega)) (by (simp only [List.length_append, List.length_take, List.length_drop, List.length_cons, List.length_nil]; omega))) ?_
     refine rA<|r_end ?_
     refine gt_as0 4 2 rfl rfl ?_
     refine tkM Tryz.func159 (.tmp rfl .nil) ?_ (hL := ⟨eqR ?_, trivial⟩) <;> (try clear ih0)
     all_goals first | rfl | ((rw [putI_new i2 i1 (fun y hy => by (have e7 := Option.some.inj (hy.symm.trans hz3); omega))]; simp))
   ·
    have g6' := of_decide_eq_false g6
    refine rG (ncf g6) (fun _ => ?_)
    refine rG (ncf g6) (fun _ => ?_)
    refine rG (ncf g6) (fun _ => ?_)
    refine rG (ncf g6) (fun _ => ?_)
    refine rG (ncf g6) (fun _ => ?_)
    refine r_op (o_pickF rfl rfl g6 rfl) ?_
    refine r_end ?_
    refine t_cond rfl (ncf rfl) (fun _ => ?_)
    refine t_skip<|tsr<|rM ?_
    refine r_op (o_lit1 1 (e := 3) (sz := 1) (zs := [.int .i64 (0)]) (enc := encI) (x) rfl rfl (by kernel_rfl) rfl rfl rfl rfl rfl rfl (.cons .sc .nil)) ?_
    refine rM ?_
    refine rM ?_
    refine r_op (o_subo rfl (by kernel_rfl) rfl rfl (.l rfl (by omega) (by omega))) ?_
    refine r_op (o_appendS 1 (e := 3) (sz := 1) (by' := 8) rfl (by kernel_rfl) rfl rfl rfl rfl (fun _ _ => ⟨_, rfl⟩) (by omega) (by omega)) ?_
    refine rA<|etr ?_
    refine r_op (o_lit0 2 (e := 3) (sz := 1) (zs := [.int .i64 (0)]) encI rfl rfl (by kernel_rfl) rfl) ?_
    refine rM ?_
    refine rM ?_
    refine r_op (o_subo rfl (by kernel_rfl) rfl rfl (.h rfl (by omega) (by omega))) ?_
    refine r_op (o_appendS 2 (e := 3) (sz := 1) (by' := 8) rfl (by kernel_rfl) rfl rfl rfl rfl (fun _ _ => ⟨_, rfl⟩) (by omega) (by omega)) ?_
    refine rM ?_
    refine r_op (o_appendO 2 (e := 3) (sz := 1) (by' := 8) rfl (by kernel_rfl) rfl rfl rfl rfl rfl (by decide) (fun _ _ => ⟨_, rfl⟩) (by omega) (by omega)) ?_
    refine rA<|r_end ?_
    refine gt_as0 4 2 rfl rfl ?_
    refine tkM Tryz.func159 (.tmp rfl .nil) ?_ (hL := ⟨eqR ?_, trivial⟩) <;> (try clear ih0)
    all_goals first | rfl | ((rw [putI_new i2 i1 (fun y hy => by (have e7 := Option.some.inj (hy.symm.trans hz3); omega))]; simp))
 ·
  have g1' := of_decide_eq_false g1
  refine rG (ncf g1) (fun _ => ?_)
  refine rG (ncf g1) (fun _ => ?_)
  refine rG (ncf g1) (fun _ => ?_)
  refine rG (ncf g1) (fun _ => ?_)
  refine rG (ncf g1) (fun _ => ?_)
  refine r_op (o_pickF rfl rfl g1 rfl) ?_
  refine r_end ?_
  refine t_cond rfl (ncf rfl) (fun _ => ?_)
  refine t_exit rfl<|t_seq<|tsr<|rM ?_
  refine rM ?_
  refine r_op (o_leno rfl rfl rfl rfl) ?_
  refine rB ?_
  refine rM ?_
  refine rG (fun g8 => ?_) (fun g8 => ?_)
  ·
   have g8' := of_decide_eq_true g8
   refine rM ?_
   refine rG (fun _ => ?_) (nc g8)
   refine rM ?_
   refine rG (fun _ => ?_) (nc g8)
   obtain ⟨z9, hz10, b11⟩ := at_get (xs := l) (n := (m : Int)) (by omega) (by omega)
   refine r_op (o_indexo rfl (by kernel_rfl) rfl rfl rfl b11 (at_lt b11 hz10)) ?_
   refine rG (fun _ => ?_) (nc g8)
   refine r_op (o_load1o rfl (by kernel_rfl) rfl rfl rfl hz10) ?_
   refine rG (fun _ => ?_) (nc g8)
   refine rM ?_
   refine rG (fun _ => ?_) (nc g8)
   refine rB ?_
   refine r_op (o_pickT rfl rfl g8 rfl) ?_
   refine r_end ?_
   refine t_cond rfl (fun h12 => ?_) (fun h12 => ?_)
   ·
    have h12' := of_decide_eq_true h12
    refine tsr<|rM ?_
    refine rA<|r_end ?_
    refine gt_unpin 0 rfl ?_
    refine tkM Tryz.func159 (.tmp rfl .nil) ?_ (hL := ⟨eqR ?_, trivial⟩) <;> (try clear ih0)
    all_goals first | rfl | ((rw [putI_there i2 (by assumption) (by omega)]; done))
   ·
    have h12' := of_decide_eq_false h12
    refine t_skip<|tsr<|rM ?_
    refine r_op (o_lit1 1 (e := 3) (sz := 1) (zs := [.int .i64 (0)]) (enc := encI) (x) rfl rfl (by kernel_rfl) rfl rfl rfl rfl rfl rfl (.cons .sc .nil)) ?_
    refine rM ?_
    refine rM ?_
    refine r_op (o_subo rfl (by kernel_rfl) rfl rfl (.l rfl (by omega) (by omega))) ?_
    refine r_op (o_appendS 1 (e := 3) (sz := 1) (by' := 8) rfl (by kernel_rfl) rfl rfl rfl rfl (fun _ _ => ⟨_, rfl⟩) (by omega) (by omega)) ?_
    refine rA<|etr ?_
    refine r_op (o_lit0 2 (e := 3) (sz := 1) (zs := [.int .i64 (0)]) encI rfl rfl (by kernel_rfl) rfl) ?_
    refine rM ?_
    refine rM ?_
    refine r_op (o_subo rfl (by kernel_rfl) rfl rfl (.h rfl (by omega) (by omega))) ?_
    refine r_op (o_appendS 2 (e := 3) (sz := 1) (by' := 8) rfl (by kernel_rfl) rfl rfl rfl rfl (fun _ _ => ⟨_, rfl⟩) (by omega) (by omega)) ?_
    refine rM ?_
    refine r_op (o_appendO 2 (e := 3) (sz := 1) (by' := 8) rfl (by kernel_rfl) rfl rfl rfl rfl rfl (by decide) (fun _ _ => ⟨_, rfl⟩) (by omega) (by omega)) ?_
    refine rA<|r_end ?_
    refine gt_as0 4 2 rfl rfl ?_
    refine tkM Tryz.func159 (.tmp rfl .nil) ?_ (hL := ⟨eqR ?_, trivial⟩) <;> (try clear ih0)
    all_goals first | rfl | ((rw [putI_new i2 i1 (fun y hy => by (have e7 := Option.some.inj (hy.symm.trans hz10); omega))]; simp))
  ·
   have g8' := of_decide_eq_false g8
   refine rG (ncf g8) (fun _ => ?_)
   refine rG (ncf g8) (fun _ => ?_)
   refine rG (ncf g8) (fun _ => ?_)
   refine rG (ncf g8) (fun _ => ?_)
   refine rG (ncf g8) (fun _ => ?_)
   refine r_op (o_pickF rfl rfl g8 rfl) ?_
   refine r_end ?_
   refine t_cond rfl (ncf rfl) (fun _ => ?_)
   refine t_skip<|tsr<|rM ?_
   refine r_op (o_lit1 1 (e := 3) (sz := 1) (zs := [.int .i64 (0)]) (enc := encI) (x) rfl rfl (by kernel_rfl) rfl rfl rfl rfl rfl rfl (.cons .sc .nil)) ?_
   refine rM ?_
   refine rM ?_
   refine r_op (o_subo rfl (by kernel_rfl) rfl rfl (.l rfl (by omega) (by omega))) ?_
   refine r_op (o_appendS 1 (e := 3) (sz := 1) (by' := 8) rfl (by kernel_rfl) rfl rfl rfl rfl (fun _ _ => ⟨_, rfl⟩) (by (simp only [List.length_append, List.length_take, List.length_drop, List.length_cons, List.length_nil]; omega)) (by (simp only [List.length_append, List.length_take, List.length_drop, List.length_cons, List.length_nil]; omega))) ?_
   refine rA<|etr ?_
   refine r_op (o_lit0 2 (e := 3) (sz := 1) (zs := [.int .i64 (0)]) encI rfl rfl (by kernel_rfl) rfl) ?_
   refine rM ?_
   refine rM ?_
   refine r_op (o_subo rfl (by kernel_rfl) rfl rfl (.h rfl (by omega) (by omega))) ?_
   refine r_op (o_appendS 2 (e := 3) (sz := 1) (by' := 8) rfl (by kernel_rfl) rfl rfl rfl rfl (fun _ _ => ⟨_, rfl⟩) (by (simp only [List.length_append, List.length_take, List.length_drop, List.length_cons, List.length_nil]; omega)) (by (simp only [List.length_append, List.length_take, List.length_drop, List.length_cons, List.length_nil]; omega))) ?_
   refine rM ?_
   refine r_op (o_appendO 2 (e := 3) (sz := 1) (by' := 8) rfl (by kernel_rfl) rfl rfl rfl rfl rfl (by decide) (fun _ _ => ⟨_, rfl⟩) (by (simp only [List.length_append, List.length_take, List.length_drop, List.length_cons, List.length_nil]; omega)) (by (simp only [List.length_append, List.length_take, List.length_drop, List.length_cons, List.length_nil]; omega))) ?_
   refine rA<|r_end ?_
   refine gt_as0 4 2 rfl rfl ?_
   refine tkM Tryz.func159 (.tmp rfl .nil) ?_ (hL := ⟨eqR ?_, trivial⟩) <;> (try clear ih0)
   all_goals first | rfl | ((rw [putI_new i2 i1 (fun y hy => by (have e7 := (List.getElem?_eq_some_iff.1 hy).1; omega))]; simp))
theorem c_spec_Variables (l : List (Int × List Int)) (hl : szS (fun (x : Int × (List (Int))) => (x.2).length) l ≤ 1048576) : Pu Tryz.prog 100 [.c (.t none (.sl 2 (enS2 encI (enSl 1 encI)) (l)))] [(0, some (.row none 3 true 1 encI (setI (varsL l))))] 1 (.c (.own 0)) := by
 refine pu_enter Tryz.func100 rfl (Nat.le_of_ble_eq_true rfl) fun w S => ?_
 have gl := sz_len (f := (fun (x : Int × (List (Int))) => (x.2).length)) (l := l); have gv := varsL_size l
 refine tsr<|rA<|etr ?_
 refine r_op (o_lit0 0 (e := 3) (sz := 1) (zs := [.int .i64 (0)]) encI rfl rfl (by kernel_rfl) rfl) ?_
 refine rA<|r_end<|t_seq<|tsr ?_
 refine rA<|r_end<|t_block ?_
 refine t_loopL (fun m => ⟨[(0, some (.c (.t none (.sl 2 (enS2 encI (enSl 1 encI)) (l))))), (2, some (.c (.t none (.v (.slice none 0 0))))), (3, some (.c (.own 0))), (4, some (.c (.t none (.v (.int .i64 ((m : Int)))))))], [(0, some (.row none 3 true 1 encI (setI (varsL (l.take m)))))], 1⟩ : Nat → St) (fun m => m ≤ l.length) (fun m => l.length - m) 0 ⟨⟨rfl, ⟨rfl, ⟨rfl, ⟨rfl, trivial⟩⟩⟩⟩, ⟨rfl, trivial⟩, rfl⟩ (by exact Nat.zero_le _) ?_
 rintro m hI ih0
 try dsimp only at hI ih0
 have i1 := hI
 refine t_seq<|tsr<|rM ?_
 refine rM ?_
 refine r_op (o_len rfl rfl rfl) ?_
 refine rB<|r_end ?_
 refine t_cond rfl (fun h1 => ?_) (fun h1 => ?_)
 ·
  have h1' := of_decide_eq_true h1
  refine t_skip<|t_seq<|t_block<|tsr<|rA<|r_end<|t_block ?_
  refine t_loopL (fun n => ⟨[(0, some (.c (.t none (.sl 2 (enS2 encI (enSl 1 encI)) (l))))), (2, some (.c (.t none (.v (.slice none 0 0))))), (3, some (.c (.own 0))), (4, some (.c (.t none (.v (.int .i64 ((m : Int))))))), (5, some (.c (.t none (.v (.int .i64 ((n : Int)))))))], [(0, some (.row none 3 true 1 encI (setI (varsL (l.take m) ++ nonneg ((l.getD m (0, [])).2.take n)))))], 1⟩ : Nat → St) (fun n => n ≤ (l.getD m (0, [])).2.length) (fun n => (l.getD m (0, [])).2.length - n) 0 ⟨⟨rfl, ⟨rfl, ⟨rfl, ⟨rfl, ⟨rfl, trivial⟩⟩⟩⟩⟩, ⟨(eqR (by rw [nonneg_zero, List.append_nil])), trivial⟩, rfl⟩ (by exact Nat.zero_le _) ?_
  rintro n hI ih1
  try dsimp only at hI ih1
  have j1 := hI; have hzv := getA_get (l := l) (m := m) (by omega); have vp := varsL_part (n := n) hzv; (have e1 := sz_at (f := (fun (x : Int × (List (Int))) => (x.2).length)) (l := l) (m := m) hzv; (try dsimp only at e1)); have sl := setI_len (varsL (l.take m) ++ nonneg ((l.getD m (0, [])).2.take n)); rw [List.length_append] at sl
  refine t_seq<|tsr<|rM ?_
  refine rM ?_
  refine rM ?_
  obtain ⟨z2, hz3, b4⟩ := at_get (xs := l) (n := (m : Int)) (by omega) (by omega)
  refine r_op (o_index rfl (by kernel_rfl) rfl rfl b4 hz3) ?_
  refine r_op (o_field rfl (off := 1) (by kernel_rfl) rfl) ?_
  refine r_op (o_load1 rfl (by kernel_rfl) rfl rfl) ?_
  refine r_op (o_len rfl rfl rfl) ?_
  refine rB<|r_end ?_
  refine t_cond rfl (fun h5 => ?_) (fun h5 => ?_)
  ·
   have h5' := of_decide_eq_true h5
   refine t_skip<|t_seq<|t_block<|tsr<|rM ?_
   refine rM ?_
   refine r_op (o_index rfl (by kernel_rfl) rfl rfl b4 hz3) ?_
   refine r_op (o_field rfl (off := 1) (by kernel_rfl) rfl) ?_
   refine r_op (o_load1 rfl (by kernel_rfl) rfl rfl) ?_
   refine rM ?_
   obtain ⟨z6, hz7, b8⟩ := at_get (xs := z2.2) (n := (n : Int)) (by omega) (by omega)
   refine r_op (o_index rfl (by kernel_rfl) rfl rfl b8 hz7) ?_
   refine r_op (o_load1 rfl (by kernel_rfl) rfl rfl) ?_
   refine rB<|r_end ?_
   refine t_cond rfl (fun h9 => ?_) (fun h9 => ?_)
   ·
    have h9' := of_decide_eq_true h9
    refine t_region<|rM ?_
    refine rM ?_
    refine rM ?_
    refine r_op (o_index rfl (by kernel_rfl) rfl rfl b4 hz3) ?_
    refine r_op (o_field rfl (off := 1) (by kernel_rfl) rfl) ?_
    refine r_op (o_load1 rfl (by kernel_rfl) rfl rfl) ?_
    refine rM ?_
    refine r_op (o_index rfl (by kernel_rfl) rfl rfl b8 hz7) ?_
    refine r_op (o_load1 rfl (by kernel_rfl) rfl rfl) ?_
    refine r_op (o_callC 0 (l' := putI (setI (varsL (l.take m) ++ nonneg ((l.getD m (0, [])).2.take n))) (z6)) (en Tryz.func159) (fun U => c_spec_l4Put U  (setI (varsL (l.take m) ++ nonneg ((l.getD m (0, [])).2.take n))) (z6) (by omega)) rfl rfl (.cons rfl (.own rfl) (.cons rfl .t0 .nil))) ?_
    refine rA<|r_end<|t_endblock<|t_region ?_
    refine rM ?_
    refine rB ?_
    refine rA<|r_end ?_
    have gd3 := Option.some.inj (hzv.symm.trans hz3); have gd4 := congrArg (fun q => q.2.length) gd3; (try dsimp only at gd4); have hx9 : (l.getD m (0, [])).2[n]? = some z6 := by rw [gd3]; exact hz7
    refine t_le ?_ (ih1 (n + 1) (by (try dsimp only); omega) (by (try dsimp only); omega))
    exact ⟨⟨rfl, ⟨rfl, ⟨rfl, ⟨rfl, ⟨(eqI (wr64 (by omega) (by omega))), trivial⟩⟩⟩⟩⟩, ⟨(eqR (by (rw [nonneg_more hx9 (by omega), ← List.append_assoc, setI_snoc]; done))), trivial⟩, rfl⟩
   ·
    have h9' := of_decide_eq_false h9
    refine t_skip<|t_endblock<|t_region<|rM ?_
    refine rB ?_
    refine rA<|r_end ?_
    have gd3 := Option.some.inj (hzv.symm.trans hz3); have gd4 := congrArg (fun q => q.2.length) gd3; (try dsimp only at gd4); have hx9 : (l.getD m (0, [])).2[n]? = some z6 := by rw [gd3]; exact hz7
    refine t_le ?_ (ih1 (n + 1) (by (try dsimp only); omega) (by (try dsimp only); omega))
    exact ⟨⟨rfl, ⟨rfl, ⟨rfl, ⟨rfl, ⟨(eqI (wr64 (by omega) (by omega))), trivial⟩⟩⟩⟩⟩, ⟨(eqR (by (rw [nonneg_same hx9 (by omega)]; done))), trivial⟩, rfl⟩
  ·
   have h5' := of_decide_eq_false h5
   refine t_exit rfl<|t_endblock<|t_region<|rM ?_
   refine rB ?_
   refine rA<|r_end ?_
   have gd3 := Option.some.inj (hzv.symm.trans hz3)
   refine t_le ?_ (ih0 (m + 1) (by (try dsimp only); omega) (by (try dsimp only); omega))
   exact ⟨⟨rfl, ⟨rfl, ⟨rfl, ⟨(eqI (wr64 (by omega) (by omega))), trivial⟩⟩⟩⟩, ⟨(eqR (by rw [varsL_step hzv, gd3]; congr 3; exact List.take_of_length_le (by rw [gd3] at j1; omega))), trivial⟩, rfl⟩
 ·
  have h1' := of_decide_eq_false h1
  refine t_exit rfl<|tsr<|rM ?_
  refine rA<|r_end ?_
  refine tk Tryz.func100 (.tmp rfl .nil) ?_ (hL := ⟨eqR ?_, trivial⟩) <;> (try clear ih0) <;> (try clear ih1)
  all_goals first | rfl | ((rw [varsL_end (by omega)]))
theorem c_spec_l4Has (l : List Int) (v : Int) (hl : l.length ≤ 4611686018427387904) : Pu Tryz.prog 101 [.c (.t none (.sl 1 encI (l))), .c (.t none (.v (.int .i64 (v))))] [] 0 (.c (.t none (.v (.bool (hasI l v))))) := by
 refine pu_enter Tryz.func101 rfl (Nat.le_of_ble_eq_true rfl) fun w S => ?_
 refine tsr<|rA<|r_end<|t_seq<|tsr ?_
 refine rA<|r_end<|t_block ?_
 refine t_loopL (fun m => ⟨[(0, some (.c (.t none (.sl 1 encI (l))))), (1, some (.c (.t none (.v (.int .i64 (v)))))), (5, some (.c (.t none (.v (.int .i64 ((m : Int)))))))], [], 0⟩ : Nat → St) (fun m => m ≤ l.length ∧ ∀ j z, j < m → l[j]? = some z → (fun y => decide (y = v)) z = false) (fun m => l.length - m) 0 ⟨⟨rfl, ⟨rfl, ⟨rfl, trivial⟩⟩⟩, trivial, rfl⟩ (by exact ⟨Nat.zero_le _, fun j z h => by omega⟩) ?_
 rintro m hI ih0
 try dsimp only at hI ih0
 obtain ⟨i1, i2⟩ := hI
 refine t_seq<|tsr<|rM ?_
 refine rM ?_
 refine r_op (o_len rfl rfl rfl) ?_
 refine rB<|r_end ?_
 refine t_cond rfl (fun h1 => ?_) (fun h1 => ?_)
 ·
  have h1' := of_decide_eq_true h1
  refine t_skip<|t_seq<|t_block<|tsr<|rM ?_
  refine rM ?_
  obtain ⟨z2, hz3, b4⟩ := at_get (xs := l) (n := (m : Int)) (by omega) (by omega)
  refine r_op (o_index rfl (by kernel_rfl) rfl rfl b4 hz3) ?_
  refine r_op (o_load1 rfl (by kernel_rfl) rfl rfl) ?_
  refine rM ?_
  refine rB<|r_end ?_
  refine t_cond rfl (fun h5 => ?_) (fun h5 => ?_)
  ·
   have h5' := of_decide_eq_true h5
   refine tsr<|rA<|r_end ?_
   refine tk Tryz.func101 (.tmp rfl .nil) ?_ <;> (try clear ih0)
   all_goals (refine scB ?_; exact (any_true (p := fun y => decide (y = v)) (by assumption) (decide_eq_true (by omega))).symm)
  ·
   have h5' := of_decide_eq_false h5
   refine t_skip<|t_endblock<|t_region<|rM ?_
   refine rB ?_
   refine rA<|r_end ?_
   refine t_le ?_ (ih0 (m + 1) (by (try dsimp only); omega) (by (try dsimp only); exact ⟨by omega, no_step i2 (by assumption) rfl (decide_eq_false (by omega))⟩))
   exact ⟨⟨rfl, ⟨rfl, ⟨(eqI (wr64 (by omega) (by omega))), trivial⟩⟩⟩, trivial, rfl⟩
 ·
  have h1' := of_decide_eq_false h1
  refine t_exit rfl<|tsr<|rA<|r_end ?_
  refine tk Tryz.func101 (.tmp rfl .nil) ?_ <;> (try clear ih0)
  all_goals (refine scB ?_; exact (any_false (p := fun y => decide (y = v)) i2 (by omega)).symm)
theorem c_spec_IsValidDependency (rs : Rels) (a0 : List (Int × (List (Int)))) (a1 : List (Int × (List (Int)))) (a2 : Bool) (a3 : Int) (a4 : Int) (hrs : rs.length ≤ 4611686018427387904) (hs : szS (fun (x : Int × (List (Int))) => (x.2).length) a0 + szS (fun (x : Int × (List (Int))) => (x.2).length) a1 ≤ 1048576) : Pu Tryz.prog 129 [.c (.t none (.sl 3 (enS3 encS encI encB) (rs))), .agg [.t none (.sl 2 (enS2 encI (enSl 1 encI)) (a0)), .t none (.sl 2 (enS2 encI (enSl 1 encI)) (a1)), .t none (.v (.bool (a2))), .t none (.v (.int .i64 (a3))), .t none (.v (.int .i64 (a4)))]] [] 0 (.c (.t none (.v (.bool (depOk rs a0 a1 a2 a3 a4))))) := by
 refine pu_enter Tryz.func129 rfl (Nat.le_of_ble_eq_true rfl) fun w S => ?_
 have g0 := sz_len (f := (fun (x : Int × (List (Int))) => (x.2).length)) (l := a0); have g1 := sz_len (f := (fun (x : Int × (List (Int))) => (x.2).length)) (l := a1); have v0 := setI_len (varsL a0); have v1 := varsL_size a0
 refine tsr ?_
 refine r_op (o_box 0 rfl rfl rfl rfl) ?_
 refine rA<|r_end<|t_seq<|tsr ?_
 refine rF 0 ?_
 refine rL ?_
 refine r_op (o_len rfl rfl rfl) ?_
 refine r_op (o_call 1 1 false (en Tryz.func96) (c_spec_l1In (((a0).length : Int)) (1) (2)) rfl (.cons rfl (.c .t0) (.cons rfl (.c .t0) (.cons rfl (.c .t0) .nil))) rfl rfl rfl) ?_
 refine r_op (o_not rfl rfl) ?_
 refine r_end ?_
 refine t_cond rfl (fun h1 => ?_) (fun h1 => ?_)
 ·
  have h1' := of_decide_eq_false (bnt h1)
  refine tsr<|rA<|r_end ?_
  refine tk Tryz.func129 (.tmp rfl .nil) ?_ <;> (try clear ih0) <;> (try clear ih1)
  all_goals (refine scB ?_; (try (have qA := iA (by omega))); (try (have qK := kA (by omega))); (try (have qB := any_true (p := badA rs) (l := a0) (m := m) (by assumption) (by unfold badA; grind))); (try (have qC := any_true (p := badA rs) (l := a1) (m := n) (by assumption) (by unfold badA; grind))); (try (have qS := srcA_at (rs := rs) (r := (by assumption).1) (ts := (by assumption).2) (by assumption); have qD := any_true (p := srcA rs) (l := a1) (m := n) (by assumption) (by grind))); clear hs g0 g1 v0 v1; unfold depOk atomsOk; grind)
 ·
  have h1' := of_decide_eq_true (bnf h1)
  refine t_skip<|t_seq<|tsr<|rA<|r_end<|t_block ?_
  refine t_loopL (fun m => ⟨[(0, some (.c (.t none (.sl 3 (enS3 encS encI encB) (rs))))), (3, some (.c (.ptr 0 0))), (5, some (.c (.t none (.v (.int .i64 ((m : Int)))))))], [(0, some (.box [.t none (.sl 2 (enS2 encI (enSl 1 encI)) (a0)), .t none (.sl 2 (enS2 encI (enSl 1 encI)) (a1)), .t none (.v (.bool (a2))), .t none (.v (.int .i64 (a3))), .t none (.v (.int .i64 (a4)))]))], 1⟩ : Nat → St) (fun m => m ≤ a0.length ∧ ∀ j z, j < m → a0[j]? = some z → badA rs z = false) (fun m => a0.length - m) 0 ⟨⟨rfl, ⟨rfl, ⟨rfl, trivial⟩⟩⟩, ⟨rfl, trivial⟩, rfl⟩ (by exact ⟨Nat.zero_le _, fun j z h => by omega⟩) ?_
  rintro m hI ih0
  try dsimp only at hI ih0
  obtain ⟨i1, i2⟩ := hI; have iA : a0.length ≤ m → a0.any (badA rs) = false := fun e => any_false i2 e
  refine t_seq<|tsr<|rM ?_
  refine rF 0 ?_
  refine rL ?_
  refine r_op (o_len rfl rfl rfl) ?_
  refine rB<|r_end ?_
  refine t_cond rfl (fun h2 => ?_) (fun h2 => ?_)
  ·
   have h2' := of_decide_eq_true h2
   refine t_skip<|t_seq<|t_block<|tsr<|rM ?_
   refine rF 0 ?_
   refine rL ?_
   refine rM ?_
   obtain ⟨z3, hz4, b5⟩ := at_get (xs := a0) (n := (m : Int)) (by omega) (by omega)
   refine r_op (o_index rfl (by kernel_rfl) rfl rfl b5 hz4) ?_
   refine r_op (o_loadA rfl (n := 2) (by kernel_rfl) (by kernel_rfl) rfl rfl) ?_
   refine r_op (o_call 1 1 false (en Tryz.func174) (c_spec_IsValidAtom (rs) (z3.1) (z3.2) (by omega) (by (have e1 := sz_at (f := (fun (x : Int × (List (Int))) => (x.2).length)) (l := a0) (m := m) (by assumption); (try dsimp only at e1); omega))) rfl (.cons rfl (.c .t0) (.cons rfl (.agg (.cons .t0 (.cons .t0 .nil))) .nil)) rfl rfl rfl) ?_
   refine r_op (o_not rfl rfl) ?_
   refine r_end ?_
   refine t_cond rfl (fun h6 => ?_) (fun h6 => ?_)
   ·
    have h6' := (bnt h6)
    refine tsr<|rA<|r_end ?_
    refine tk Tryz.func129 (.tmp rfl .nil) ?_ <;> (try clear ih0) <;> (try clear ih1)
    all_goals (refine scB ?_; (try (have qA := iA (by omega))); (try (have qK := kA (by omega))); (try (have qB := any_true (p := badA rs) (l := a0) (m := m) hz4 (by unfold badA; grind))); (try (have qC := any_true (p := badA rs) (l := a1) (m := n) hz4 (by unfold badA; grind))); (try (have qS := srcA_at (rs := rs) (r := z3.1) (ts := z3.2) (by assumption); have qD := any_true (p := srcA rs) (l := a1) (m := n) hz4 (by grind))); clear hs g0 g1 v0 v1; unfold depOk atomsOk; grind)
   ·
    have h6' := (bnf h6)
    refine t_skip<|t_endblock<|t_region<|rM ?_
    refine rB ?_
    refine rA<|r_end ?_
    refine t_le ?_ (ih0 (m + 1) (by (try dsimp only); omega) (by (try dsimp only); exact ⟨by omega, no_step i2 (by assumption) rfl (by unfold badA; grind)⟩))
    exact ⟨⟨rfl, ⟨rfl, ⟨(eqI (wr64 (by omega) (by omega))), trivial⟩⟩⟩, ⟨rfl, trivial⟩, rfl⟩
  ·
   have h2' := of_decide_eq_false h2
   refine t_exit rfl<|t_seq<|tsr<|rF 2 ?_
   refine rL<|r_end ?_
   refine t_cond rfl (fun h7 => ?_) (fun h7 => ?_)
   ·
    have h7' := h7
    refine tsr<|rF 0 ?_
    refine rL ?_
    refine r_op (o_call 1 2 false (en Tryz.func100) (c_spec_Variables (a0) (by omega)) rfl (.cons rfl (.c .t0) .nil) rfl rfl rfl) ?_
    refine rA<|etr ?_
    refine rF 1 ?_
    refine rL ?_
    refine r_op (o_len rfl rfl rfl) ?_
    refine rB ?_
    refine rM ?_
    refine rG (fun g8 => ?_) (fun g8 => ?_)
    ·
     have g8' := of_decide_eq_true g8
     refine rM ?_
     refine rG (fun _ => ?_) (nc g8)
     refine rF 3 ?_
     refine rG (fun _ => ?_) (nc g8)
     refine rL ?_
     refine rG (fun _ => ?_) (nc g8)
     refine r_op (o_call 2 2 false (en Tryz.func101) (c_spec_l4Has (setI (varsL (a0))) (a3) (by omega)) rfl (.cons rfl (.c (.own rfl)) (.cons rfl (.c .t0) .nil)) rfl rfl rfl) ?_
     refine r_op (o_pickT rfl rfl g8 rfl) ?_
     refine rM ?_
     refine rG (fun g9 => ?_) (fun g9 => ?_)
     ·
      have g9' := g9
      refine rM ?_
      refine rG (fun _ => ?_) (nc g9)
      refine rF 4 ?_
      refine rG (fun _ => ?_) (nc g9)
      refine rL ?_
      refine rG (fun _ => ?_) (nc g9)
      refine r_op (o_call 2 2 false (en Tryz.func101) (c_spec_l4Has (setI (varsL (a0))) (a4) (by omega)) rfl (.cons rfl (.c (.own rfl)) (.cons rfl (.c .t0) .nil)) rfl rfl rfl) ?_
      refine r_op (o_pickT rfl rfl g9 rfl) ?_
      refine rM ?_
      refine rG (fun g10 => ?_) (fun g10 => ?_)
      ·
       have g10' := g10
       refine rF 3 ?_
       refine rG (fun _ => ?_) (nc g10)
       refine rL ?_
       refine rG (fun _ => ?_) (nc g10)
       refine rF 4 ?_
       refine rG (fun _ => ?_) (nc g10)
       refine rL ?_
       refine rG (fun _ => ?_) (nc g10)
       refine rB ?_
       refine r_op (o_pickT rfl rfl g10 rfl) ?_
       refine rA<|r_end ?_
       refine tk Tryz.func129 (.tmp rfl .nil) ?_ <;> (try clear ih0) <;> (try clear ih1)
       all_goals (refine scB ?_; (try (have qA := iA (by omega))); (try (have qK := kA (by omega))); (try (have qB := any_true (p := badA rs) (l := a0) (m := m) (by assumption) (by unfold badA; grind))); (try (have qC := any_true (p := badA rs) (l := a1) (m := n) (by assumption) (by unfold badA; grind))); (try (have qS := srcA_at (rs := rs) (r := (by assumption).1) (ts := (by assumption).2) (by assumption); have qD := any_true (p := srcA rs) (l := a1) (m := n) (by assumption) (by grind))); clear hs g0 g1 v0 v1; unfold depOk atomsOk; grind)
      ·
       have g10' := g10
       refine rG (ncf g10) (fun _ => ?_)
       refine rG (ncf g10) (fun _ => ?_)
       refine rG (ncf g10) (fun _ => ?_)
       refine rG (ncf g10) (fun _ => ?_)
       refine r_op (o_pickF rfl rfl g10 rfl) ?_
       refine rA<|r_end ?_
       refine tk Tryz.func129 (.tmp rfl .nil) ?_ <;> (try clear ih0) <;> (try clear ih1)
       all_goals (refine scB ?_; (try (have qA := iA (by omega))); (try (have qK := kA (by omega))); (try (have qB := any_true (p := badA rs) (l := a0) (m := m) (by assumption) (by unfold badA; grind))); (try (have qC := any_true (p := badA rs) (l := a1) (m := n) (by assumption) (by unfold badA; grind))); (try (have qS := srcA_at (rs := rs) (r := (by assumption).1) (ts := (by assumption).2) (by assumption); have qD := any_true (p := srcA rs) (l := a1) (m := n) (by assumption) (by grind))); clear hs g0 g1 v0 v1; unfold depOk atomsOk; grind)
     ·
      have g9' := g9
      refine rG (ncf g9) (fun _ => ?_)
      refine rG (ncf g9) (fun _ => ?_)
      refine rG (ncf g9) (fun _ => ?_)
      refine r_op (o_pickF rfl rfl g9 rfl) ?_
      refine rM ?_
      refine rG (ncf rfl) (fun _ => ?_)
      refine rG (ncf rfl) (fun _ => ?_)
      refine rG (ncf rfl) (fun _ => ?_)
      refine rG (ncf rfl) (fun _ => ?_)
      refine rG (ncf rfl) (fun _ => ?_)
      refine r_op (o_pickF rfl rfl rfl rfl) ?_
      refine rA<|r_end ?_
      refine tk Tryz.func129 (.tmp rfl .nil) ?_ <;> (try clear ih0) <;> (try clear ih1)
      all_goals (refine scB ?_; (try (have qA := iA (by omega))); (try (have qK := kA (by omega))); (try (have qB := any_true (p := badA rs) (l := a0) (m := m) (by assumption) (by unfold badA; grind))); (try (have qC := any_true (p := badA rs) (l := a1) (m := n) (by assumption) (by unfold badA; grind))); (try (have qS := srcA_at (rs := rs) (r := (by assumption).1) (ts := (by assumption).2) (by assumption); have qD := any_true (p := srcA rs) (l := a1) (m := n) (by assumption) (by grind))); clear hs g0 g1 v0 v1; unfold depOk atomsOk; grind)
    ·
     have g8' := of_decide_eq_false g8
     refine rG (ncf g8) (fun _ => ?_)
     refine rG (ncf g8) (fun _ => ?_)
     refine rG (ncf g8) (fun _ => ?_)
     refine r_op (o_pickF rfl rfl g8 rfl) ?_
     refine rM ?_
     refine rG (ncf rfl) (fun _ => ?_)
     refine rG (ncf rfl) (fun _ => ?_)
     refine rG (ncf rfl) (fun _ => ?_)
     refine rG (ncf rfl) (fun _ => ?_)
     refine r_op (o_pickF rfl rfl rfl rfl) ?_
     refine rM ?_
     refine rG (ncf rfl) (fun _ => ?_)
     refine rG (ncf rfl) (fun _ => ?_)
     refine rG (ncf rfl) (fun _ => ?_)
     refine rG (ncf rfl) (fun _ => ?_)
     refine rG (ncf rfl) (fun _ => ?_)
     refine r_op (o_pickF rfl rfl rfl rfl) ?_
     refine rA<|r_end ?_
     refine tk Tryz.func129 (.tmp rfl .nil) ?_ <;> (try clear ih0) <;> (try clear ih1)
     all_goals (refine scB ?_; (try (have qA := iA (by omega))); (try (have qK := kA (by omega))); (try (have qB := any_true (p := badA rs) (l := a0) (m := m) (by assumption) (by unfold badA; grind))); (try (have qC := any_true (p := badA rs) (l := a1) (m := n) (by assumption) (by unfold badA; grind))); (try (have qS := srcA_at (rs := rs) (r := (by assumption).1) (ts := (by assumption).2) (by assumption); have qD := any_true (p := srcA rs) (l := a1) (m := n) (by assumption) (by grind))); clear hs g0 g1 v0 v1; unfold depOk atomsOk; grind)
   ·
    have h7' := h7
    refine t_skip<|t_seq<|tsr<|rA<|r_end<|t_block ?_
    refine t_loopL (fun n => ⟨[(0, some (.c (.t none (.sl 3 (enS3 encS encI encB) (rs))))), (3, some (.c (.ptr 0 0))), (7, some (.c (.t none (.v (.int .i64 ((n : Int)))))))], [(0, some (.box [.t none (.sl 2 (enS2 encI (enSl 1 encI)) (a0)), .t none (.sl 2 (enS2 encI (enSl 1 encI)) (a1)), .t none (.v (.bool (a2))), .t none (.v (.int .i64 (a3))), .t none (.v (.int .i64 (a4)))]))], 1⟩ : Nat → St) (fun n => n ≤ a1.length ∧ ∀ j z, j < n → a1[j]? = some z → (badA rs z || srcA rs z) = false) (fun n => a1.length - n) 0 ⟨⟨rfl, ⟨rfl, ⟨rfl, trivial⟩⟩⟩, ⟨rfl, trivial⟩, rfl⟩ (by exact ⟨Nat.zero_le _, fun j z h => by omega⟩) ?_
    rintro n hI ih1
    try dsimp only at hI ih1
    obtain ⟨k1, k2⟩ := hI; (have kA : a1.length ≤ n → a1.any (badA rs) = false ∧ a1.any (srcA rs) = false := fun e => ⟨any_false (fun j z h h2 => by have := k2 j z h h2; simp_all) e, any_false (fun j z h h2 => by have := k2 j z h h2; simp_all) e⟩)
    refine t_seq<|tsr<|rM ?_
    refine rF 1 ?_
    refine rL ?_
    refine r_op (o_len rfl rfl rfl) ?_
    refine rB<|r_end ?_
    refine t_cond rfl (fun h11 => ?_) (fun h11 => ?_)
    ·
     have h11' := of_decide_eq_true h11
     refine t_skip<|t_seq<|t_block<|tsr<|rM ?_
     refine rF 1 ?_
     refine rL ?_
     refine rM ?_
     obtain ⟨z12, hz13, b14⟩ := at_get (xs := a1) (n := (n : Int)) (by omega) (by omega)
     refine r_op (o_index rfl (by kernel_rfl) rfl rfl b14 hz13) ?_
     refine r_op (o_loadA rfl (n := 2) (by kernel_rfl) (by kernel_rfl) rfl rfl) ?_
     refine r_op (o_call 1 1 false (en Tryz.func174) (c_spec_IsValidAtom (rs) (z12.1) (z12.2) (by omega) (by (have e1 := sz_at (f := (fun (x : Int × (List (Int))) => (x.2).length)) (l := a1) (m := n) (by assumption); (try dsimp only at e1); omega))) rfl (.cons rfl (.c .t0) (.cons rfl (.agg (.cons .t0 (.cons .t0 .nil))) .nil)) rfl rfl rfl) ?_
     refine r_op (o_not rfl rfl) ?_
     refine rM ?_
     refine rG (fun g15 => ?_) (fun g15 => ?_)
     ·
      have g15' := (bnf g15)
      refine rM ?_
      refine rG (fun _ => ?_) (ncf g15)
      refine rF 1 ?_
      refine rG (fun _ => ?_) (ncf g15)
      refine rL ?_
      refine rG (fun _ => ?_) (ncf g15)
      refine rM ?_
      refine rG (fun _ => ?_) (ncf g15)
      refine r_op (o_index rfl (by kernel_rfl) rfl rfl b14 hz13) ?_
      refine rG (fun _ => ?_) (ncf g15)
      refine r_op (o_field rfl (off := 0) (by kernel_rfl) rfl) ?_
      refine rG (fun _ => ?_) (ncf g15)
      refine r_op (o_load1 rfl (by kernel_rfl) rfl rfl) ?_
      refine rG (fun _ => ?_) (ncf g15)
      obtain ⟨z16, hz17, b18⟩ := at_get (xs := rs) (n := z12.1) (by exact (atom_idx (by assumption)).1) (by exact (atom_idx (by assumption)).2)
      refine r_op (o_index rfl (by kernel_rfl) rfl rfl b18 hz17) ?_
      refine rG (fun _ => ?_) (ncf g15)
      refine r_op (o_field rfl (off := 2) (by kernel_rfl) rfl) ?_
      refine rG (fun _ => ?_) (ncf g15)
      refine r_op (o_load1 rfl (by kernel_rfl) rfl rfl) ?_
      refine r_op (o_pickF rfl rfl g15 rfl) ?_
      refine r_end ?_
      refine t_cond rfl (fun h19 => ?_) (fun h19 => ?_)
      ·
       have h19' := h19
       refine tsr<|rA<|r_end ?_
       refine tk Tryz.func129 (.tmp rfl .nil) ?_ <;> (try clear ih0) <;> (try clear ih1)
       all_goals (refine scB ?_; (try (have qA := iA (by omega))); (try (have qK := kA (by omega))); (try (have qB := any_true (p := badA rs) (l := a0) (m := m) hz13 (by unfold badA; grind))); (try (have qC := any_true (p := badA rs) (l := a1) (m := n) hz13 (by unfold badA; grind))); (try (have qS := srcA_at (rs := rs) (r := z12.1) (ts := z12.2) hz17; have qD := any_true (p := srcA rs) (l := a1) (m := n) hz13 (by grind))); clear hs g0 g1 v0 v1; unfold depOk atomsOk; grind)
      ·
       have h19' := h19
       refine t_skip<|t_endblock<|t_region<|rM ?_
       refine rB ?_
       refine rA<|r_end ?_
       refine t_le ?_ (ih1 (n + 1) (by (try dsimp only); omega) (by (try dsimp only); exact ⟨by omega, no_step (p := fun z => badA rs z || srcA rs z) k2 (by assumption) rfl (by have q1 := srcA_at (rs := rs) (r := z12.1) (ts := z12.2) hz17; unfold badA; grind)⟩))
       exact ⟨⟨rfl, ⟨rfl, ⟨(eqI (wr64 (by omega) (by omega))), trivial⟩⟩⟩, ⟨rfl, trivial⟩, rfl⟩
     ·
      have g15' := (bnt g15)
      refine rG (nc g15) (fun _ => ?_)
      refine rG (nc g15) (fun _ => ?_)
      refine rG (nc g15) (fun _ => ?_)
      refine rG (nc g15) (fun _ => ?_)
      refine rG (nc g15) (fun _ => ?_)
      refine rG (nc g15) (fun _ => ?_)
      refine rG (nc g15) (fun _ => ?_)
      refine rG (nc g15) (fun _ => ?_)
      refine rG (nc g15) (fun _ => ?_)
      refine r_op (o_pickT rfl rfl g15 rfl) ?_
      refine r_end ?_
      refine t_cond rfl (fun _ => ?_) (nc rfl)
      refine tsr<|rA<|r_end ?_
      refine tk Tryz.func129 (.tmp rfl .nil) ?_ <;> (try clear ih0) <;> (try clear ih1)
      all_goals (refine scB ?_; (try (have qA := iA (by omega))); (try (have qK := kA (by omega))); (try (have qB := any_true (p := badA rs) (l := a0) (m := m) hz13 (by unfold badA; grind))); (try (have qC := any_true (p := badA rs) (l := a1) (m := n) hz13 (by unfold badA; grind))); (try (have qS := srcA_at (rs := rs) (r := z12.1) (ts := z12.2) (by assumption); have qD := any_true (p := srcA rs) (l := a1) (m := n) hz13 (by grind))); clear hs g0 g1 v0 v1; unfold depOk atomsOk; grind)
    ·
     have h11' := of_decide_eq_false h11
     refine t_exit rfl<|tsr<|rF 1 ?_
     refine rL ?_
     refine r_op (o_len rfl rfl rfl) ?_
     refine r_op (o_call 1 1 false (en Tryz.func96) (c_spec_l1In (((a1).length : Int)) (1) (2)) rfl (.cons rfl (.c .t0) (.cons rfl (.c .t0) (.cons rfl (.c .t0) .nil))) rfl rfl rfl) ?_
     refine rM ?_
     refine rG (fun g20 => ?_) (fun g20 => ?_)
     ·
      have g20' := of_decide_eq_true g20
      refine rF 3 ?_
      refine rG (fun _ => ?_) (nc g20)
      refine rL ?_
      refine rG (fun _ => ?_) (nc g20)
      refine rB ?_
      refine r_op (o_pickT rfl rfl g20 rfl) ?_
      refine rM ?_
      refine rG (fun g21 => ?_) (fun g21 => ?_)
      ·
       have g21' := of_decide_eq_true g21
       refine rF 4 ?_
       refine rG (fun _ => ?_) (nc g21)
       refine rL ?_
       refine rG (fun _ => ?_) (nc g21)
       refine rB ?_
       refine r_op (o_pickT rfl rfl g21 rfl) ?_
       refine rA<|r_end ?_
       refine tk Tryz.func129 (.tmp rfl .nil) ?_ <;> (try clear ih0) <;> (try clear ih1)
       all_goals (refine scB ?_; (try (have qA := iA (by omega))); (try (have qK := kA (by omega))); (try (have qB := any_true (p := badA rs) (l := a0) (m := m) (by assumption) (by unfold badA; grind))); (try (have qC := any_true (p := badA rs) (l := a1) (m := n) (by assumption) (by unfold badA; grind))); (try (have qS := srcA_at (rs := rs) (r := (by assumption).1) (ts := (by assumption).2) (by assumption); have qD := any_true (p := srcA rs) (l := a1) (m := n) (by assumption) (by grind))); clear hs g0 g1 v0 v1; unfold depOk atomsOk; grind)
      ·
       have g21' := of_decide_eq_false g21
       refine rG (ncf g21) (fun _ => ?_)
       refine rG (ncf g21) (fun _ => ?_)
       refine r_op (o_pickF rfl rfl g21 rfl) ?_
       refine rA<|r_end ?_
       refine tk Tryz.func129 (.tmp rfl .nil) ?_ <;> (try clear ih0) <;> (try clear ih1)
       all_goals (refine scB ?_; (try (have qA := iA (by omega))); (try (have qK := kA (by omega))); (try (have qB := any_true (p := badA rs) (l := a0) (m := m) (by assumption) (by unfold badA; grind))); (try (have qC := any_true (p := badA rs) (l := a1) (m := n) (by assumption) (by unfold badA; grind))); (try (have qS := srcA_at (rs := rs) (r := (by assumption).1) (ts := (by assumption).2) (by assumption); have qD := any_true (p := srcA rs) (l := a1) (m := n) (by assumption) (by grind))); clear hs g0 g1 v0 v1; unfold depOk atomsOk; grind)
     ·
      have g20' := of_decide_eq_false g20
      refine rG (ncf g20) (fun _ => ?_)
      refine rG (ncf g20) (fun _ => ?_)
      refine r_op (o_pickF rfl rfl g20 rfl) ?_
      refine rM ?_
      refine rG (ncf rfl) (fun _ => ?_)
      refine rG (ncf rfl) (fun _ => ?_)
      refine rG (ncf rfl) (fun _ => ?_)
      refine r_op (o_pickF rfl rfl rfl rfl) ?_
      refine rA<|r_end ?_
      refine tk Tryz.func129 (.tmp rfl .nil) ?_ <;> (try clear ih0) <;> (try clear ih1)
      all_goals (refine scB ?_; (try (have qA := iA (by omega))); (try (have qK := kA (by omega))); (try (have qB := any_true (p := badA rs) (l := a0) (m := m) (by assumption) (by unfold badA; grind))); (try (have qC := any_true (p := badA rs) (l := a1) (m := n) (by assumption) (by unfold badA; grind))); (try (have qS := srcA_at (rs := rs) (r := (by assumption).1) (ts := (by assumption).2) (by assumption); have qD := any_true (p := srcA rs) (l := a1) (m := n) (by assumption) (by grind))); clear hs g0 g1 v0 v1; unfold depOk atomsOk; grind)
theorem c_spec_AreValidDependencies (rs : Rels) (l : List Dep) (hrs : rs.length ≤ 4611686018427387904) (hs : szS (fun (x : (List (Int × (List (Int)))) × (List (Int × (List (Int)))) × Bool × Int × Int) => (szS (fun (x : Int × (List (Int))) => (x.2).length) (x.1)) + (szS (fun (x : Int × (List (Int))) => (x.2).length) (x.2.1))) l ≤ 1048576) : Pu Tryz.prog 121 [.c (.t none (.sl 3 (enS3 encS encI encB) (rs))), .c (.t none (.sl 5 (enS5 (enSl 2 (enS2 encI (enSl 1 encI))) (enSl 2 (enS2 encI (enSl 1 encI))) encB encI encI) (l)))] [] 0 (.c (.t none (.v (.bool (depsOk rs l))))) := by
 refine pu_enter Tryz.func121 rfl (Nat.le_of_ble_eq_true rfl) fun w S => ?_
 have gl := sz_len (f := (fun (x : (List (Int × (List (Int)))) × (List (Int × (List (Int)))) × Bool × Int × Int) => (szS (fun (x : Int × (List (Int))) => (x.2).length) (x.1)) + (szS (fun (x : Int × (List (Int))) => (x.2).length) (x.2.1)))) (l := l)
 refine tsr<|rA<|r_end<|t_seq<|tsr ?_
 refine rA<|r_end<|t_block ?_
 refine t_loopL (fun m => ⟨[(0, some (.c (.t none (.sl 3 (enS3 encS encI encB) (rs))))), (1, some (.c (.t none (.sl 5 (enS5 (enSl 2 (enS2 encI (enSl 1 encI))) (enSl 2 (enS2 encI (enSl 1 encI))) encB encI encI) (l))))), (5, some (.c (.t none (.v (.int .i64 ((m : Int)))))))], [], 0⟩ : Nat → St) (fun m => m ≤ l.length ∧ ∀ j z, j < m → l[j]? = some z → badD rs z = false) (fun m => l.length - m) 0 ⟨⟨rfl, ⟨rfl, ⟨rfl, trivial⟩⟩⟩, trivial, rfl⟩ (by exact ⟨Nat.zero_le _, fun j z h => by omega⟩) ?_
 rintro m hI ih0
 try dsimp only at hI ih0
 obtain ⟨i1, i2⟩ := hI; have iA : l.length ≤ m → l.any (badD rs) = false := fun e => any_false i2 e
 refine t_seq<|tsr<|rM ?_
 refine rM ?_
 refine r_op (o_len rfl rfl rfl) ?_
 refine rB<|r_end ?_
 refine t_cond rfl (fun h1 => ?_) (fun h1 => ?_)
 ·
  have h1' := of_decide_eq_true h1
  refine t_skip<|t_seq<|t_block<|tsr<|rM ?_
  refine rM ?_
  refine rM ?_
  obtain ⟨z2, hz3, b4⟩ := at_get (xs := l) (n := (m : Int)) (by omega) (by omega)
  refine r_op (o_index rfl (by kernel_rfl) rfl rfl b4 hz3) ?_
  refine r_op (o_loadA rfl (n := 5) (by kernel_rfl) (by kernel_rfl) rfl rfl) ?_
  refine r_op (o_call 0 0 false (en Tryz.func129) (c_spec_IsValidDependency (rs) (z2.1) (z2.2.1) (z2.2.2.1) (z2.2.2.2.1) (z2.2.2.2.2) (by omega) (by (have e1 := sz_at (f := (fun (x : (List (Int × (List (Int)))) × (List (Int × (List (Int)))) × Bool × Int × Int) => (szS (fun (x : Int × (List (Int))) => (x.2).length) (x.1)) + (szS (fun (x : Int × (List (Int))) => (x.2).length) (x.2.1)))) (l := l) (m := m) (by assumption); (try dsimp only at e1); omega))) rfl (.cons rfl (.c .t0) (.cons rfl (.agg (.cons .t0 (.cons .t0 (.cons .t0 (.cons .t0 (.cons .t0 .nil)))))) .nil)) rfl rfl rfl) ?_
  refine r_op (o_not rfl rfl) ?_
  refine r_end ?_
  refine t_cond rfl (fun h5 => ?_) (fun h5 => ?_)
  ·
   have h5' := (bnt h5)
   refine tsr<|rA<|r_end ?_
   refine tk Tryz.func121 (.tmp rfl .nil) ?_ <;> (try clear ih0)
   all_goals (refine scB ?_; (try (have qA := iA (by omega))); (try (have qB := any_true (p := badD rs) (l := l) (m := m) hz3 (by unfold badD; grind))); clear hs gl; unfold depsOk; grind)
  ·
   have h5' := (bnf h5)
   refine t_skip<|t_endblock<|t_region<|rM ?_
   refine rB ?_
   refine rA<|r_end ?_
   refine t_le ?_ (ih0 (m + 1) (by (try dsimp only); omega) (by (try dsimp only); exact ⟨by omega, no_step i2 (by assumption) rfl (by unfold badD; grind)⟩))
   exact ⟨⟨rfl, ⟨rfl, ⟨(eqI (wr64 (by omega) (by omega))), trivial⟩⟩⟩, trivial, rfl⟩
 ·
  have h1' := of_decide_eq_false h1
  refine t_exit rfl<|tsr<|rM ?_
  refine r_op (o_call 0 0 false (en Tryz.func157) (c_spec_AreValidRelations (rs) (by omega)) rfl (.cons rfl (.c .t0) .nil) rfl rfl rfl) ?_
  refine rM ?_
  refine rG (fun g6 => ?_) (fun g6 => ?_)
  ·
   have g6' := g6
   refine rM ?_
   refine rG (fun _ => ?_) (nc g6)
   refine r_op (o_len rfl rfl rfl) ?_
   refine rG (fun _ => ?_) (nc g6)
   refine rB ?_
   refine r_op (o_pickT rfl rfl g6 rfl) ?_
   refine rA<|r_end ?_
   refine tk Tryz.func121 (.tmp rfl .nil) ?_ <;> (try clear ih0)
   all_goals (refine scB ?_; (try (have qA := iA (by omega))); (try (have qB := any_true (p := badD rs) (l := l) (m := m) (by assumption) (by unfold badD; grind))); clear hs gl; unfold depsOk; grind)
  ·
   have g6' := g6
   refine rG (ncf g6) (fun _ => ?_)
   refine rG (ncf g6) (fun _ => ?_)
   refine r_op (o_pickF rfl rfl g6 rfl) ?_
   refine rA<|r_end ?_
   refine tk Tryz.func121 (.tmp rfl .nil) ?_ <;> (try clear ih0)
   all_goals (refine scB ?_; (try (have qA := iA (by omega))); (try (have qB := any_true (p := badD rs) (l := l) (m := m) (by assumption) (by unfold badD; grind))); clear hs gl; unfold depsOk; grind)
theorem c_spec_NullNumber (v : Int) (hv : -9223372036854775808 ≤ v) (hv2 : v ≤ 9223372036854775807) : Pu Tryz.prog 43 [.c (.t none (.v (.int .i64 (v))))] [] 0 (.tup [(false, [.t none (.v (.int .i64 (if -40 ≤ v ∧ v ≤ -1 then -1 - v else 0)))]), (false, [.t none (.v (.bool (decide (-40 ≤ v ∧ v ≤ -1))))])]) := by
 refine pu_enter Tryz.func43 rfl (Nat.le_of_ble_eq_true rfl) fun w S => ?_
 refine tsr<|rA ?_
 refine rA<|r_end<|t_seq<|tsr ?_
 refine rM ?_
 refine rB ?_
 refine rM ?_
 refine rG (fun g1 => ?_) (fun g1 => ?_)
 ·
  have g1' := of_decide_eq_false g1
  refine rM ?_
  refine rG (fun _ => ?_) (ncf g1)
  refine rB ?_
  refine rG (fun _ => ?_) (ncf g1)
  refine r_op (o_call 0 0 false (en Tryz.func96) (c_spec_l1In (IntKind.i64.wrap ((-1) - v)) (0) (39)) rfl (.cons rfl (.c .t0) (.cons rfl (.c .t0) (.cons rfl (.c .t0) .nil))) rfl rfl rfl) ?_
  refine rG (fun _ => ?_) (ncf g1)
  refine r_op (o_not rfl rfl) ?_
  refine r_op (o_pickF rfl rfl g1 rfl) ?_
  refine r_end ?_
  refine t_cond rfl (fun h2 => ?_) (fun h2 => ?_)
  ·
   have h2' := of_decide_eq_false (bnt h2)
   refine tsr<|rA ?_
   refine rA<|r_end ?_
   refine tk Tryz.func43 (.tmp rfl (.tmp rfl .nil)) ?_
   all_goals (((have hn : ¬(-40 ≤ v ∧ v ≤ -1) := by (simp only [IntKind.wrap_i64] at *; omega)); (simp [hn]; done)))
  ·
   have h2' := of_decide_eq_true (bnf h2)
   refine t_skip<|tsr<|rM ?_
   refine rB ?_
   refine rA ?_
   refine rA<|r_end ?_
   refine tk Tryz.func43 (.tmp rfl (.tmp rfl .nil)) ?_
   all_goals (((have hn : (-40 ≤ v ∧ v ≤ -1) := by (simp only [IntKind.wrap_i64] at *; omega)); (have e : IntKind.i64.wrap (-1 - v) = -1 - v := wr64 (by omega) (by omega)); (simp [hn, e]; done)))
 ·
  have g1' := of_decide_eq_true g1
  refine rG (nc g1) (fun _ => ?_)
  refine rG (nc g1) (fun _ => ?_)
  refine rG (nc g1) (fun _ => ?_)
  refine r_op (o_pickT rfl rfl g1 rfl) ?_
  refine r_end ?_
  refine t_cond rfl (fun _ => ?_) (nc rfl)
  refine tsr<|rA ?_
  refine rA<|r_end ?_
  refine tk Tryz.func43 (.tmp rfl (.tmp rfl .nil)) ?_
  all_goals (((have hn : ¬(-40 ≤ v ∧ v ≤ -1) := by (simp only [IntKind.wrap_i64] at *; omega)); (simp [hn]; done)))
theorem c_spec_IsValidValue (v : Int) (hv : -9223372036854775808 ≤ v) (hv2 : v ≤ 9223372036854775807) : Pu Tryz.prog 103 [.c (.t none (.v (.int .i64 (v))))] [] 0 (.c (.t none (.v (.bool (decide (-40 ≤ v ∧ v ≤ 9)))))) := by
 refine pu_enter Tryz.func103 rfl (Nat.le_of_ble_eq_true rfl) fun w S => ?_
 refine tsr<|rA<|etr ?_
 refine rM ?_
 refine r_op (o_call 0 0 false (en Tryz.func43) (c_spec_NullNumber (v) (by omega) (by omega)) rfl (.cons rfl (.c .t0) .nil) rfl rfl rfl) ?_
 refine rM ?_
 refine r_op (o_extract rfl rfl rfl rfl) ?_
 refine r_op (o_extract rfl rfl rfl rfl) ?_
 refine rA ?_
 refine rA<|etr ?_
 refine rM ?_
 refine rM ?_
 refine rG (fun g1 => ?_) (fun g1 => ?_)
 ·
  have g1' := of_decide_eq_false g1
  refine rM ?_
  refine rG (fun _ => ?_) (ncf g1)
  refine r_op (o_call 0 0 false (en Tryz.func96) (c_spec_l1In (v) (0) (9)) rfl (.cons rfl (.c .t0) (.cons rfl (.c .t0) (.cons rfl (.c .t0) .nil))) rfl rfl rfl) ?_
  refine r_op (o_pickF rfl rfl g1 rfl) ?_
  refine rA<|r_end ?_
  refine tk Tryz.func103 (.tmp rfl .nil) ?_
  all_goals ((exact scD (by omega)))
 ·
  have g1' := of_decide_eq_true g1
  refine rG (nc g1) (fun _ => ?_)
  refine r_op (o_pickT rfl rfl g1 rfl) ?_
  refine rA<|r_end ?_
  refine tk Tryz.func103 (.tmp rfl .nil) ?_
  all_goals ((exact scTrue (by omega)))
theorem c_spec_IsValidFact (rs : List (List UInt8 × Int × Bool)) (r : Int) (ts : List Int) (hrs : rs.length ≤ 4611686018427387904) (hts : ts.length ≤ 4611686018427387904) (ho : ∀ x ∈ ts, okI x) : Pu Tryz.prog 155 [.c (.t none (.sl 3 (enS3 encS encI encB) (rs))), .agg [.t none (.v (.int .i64 (r))), .t none (.sl 1 encI (ts))]] [] 0 (.c (.t none (.v (.bool (factOk rs r ts))))) := by
 refine pu_enter Tryz.func155 rfl (Nat.le_of_ble_eq_true rfl) fun w S => ?_
 refine tsr ?_
 refine r_op (o_box 0 rfl rfl rfl rfl) ?_
 refine rA<|r_end<|t_seq<|t_seq ?_
 refine t_draw (fun _ => true) (by kernel_rfl) ?_
 refine dT 0 rfl pM ?_
 refine dO 1 rfl (o_call 1 1 false (en Tryz.func157) (c_spec_AreValidRelations (rs) (by omega)) rfl (.cons rfl (.c .t0) .nil) rfl rfl rfl) ?_
 refine dT 2 rfl (p_not rfl) ?_
 refine dT 3 rfl pM ?_
 refine dH 4 rfl (fun _ => pF 0) (fun g1 => ?_) (fun g1 => ?_)
 ·
  have g1' := (bnf g1)
  refine dH 5 rfl (fun _ => pL) (fun _ => ?_) (ncf g1)
  refine dH 6 rfl (fun _ => pM) (fun _ => ?_) (ncf g1)
  refine dH 7 rfl (fun _ => p_len rfl rfl) (fun _ => ?_) (ncf g1)
  refine dH 8 rfl (fun _ => pB) (fun _ => ?_) (ncf g1)
  refine d_onlyG 9 rfl rfl (by kernel_rfl) rfl rfl rfl (fun _ => (o_call 1 1 false (en Tryz.func96) (c_spec_l1In (r) (0) (IntKind.i64.wrap (((rs).length : Int) - 1))) rfl (.cons rfl (.c .t0) (.cons rfl (.c .t0) (.cons rfl (.c .t0) .nil))) rfl rfl rfl)) (fun _ => ?_) (ncf g1)
  refine dH 10 rfl (fun _ => p_not rfl) (fun _ => ?_) (ncf g1)
  refine dT 11 rfl (p_pickF rfl g1 rfl) ?_
  refine dT 12 rfl pM ?_
  refine dH 13 rfl (fun _ => pF 1) (fun g2 => ?_) (fun g2 => ?_)
  ·
   have g2' := of_decide_eq_true (bnf g2)
   refine dH 14 rfl (fun _ => pL) (fun _ => ?_) (ncf g2)
   refine dH 15 rfl (fun _ => p_len rfl rfl) (fun _ => ?_) (ncf g2)
   refine dH 16 rfl (fun _ => pM) (fun _ => ?_) (ncf g2)
   refine dH 17 rfl (fun _ => pF 0) (fun _ => ?_) (ncf g2)
   refine dH 18 rfl (fun _ => pL) (fun _ => ?_) (ncf g2)
   obtain ⟨z3, hz4, b5⟩ := at_get (xs := rs) (n := r) (by omega) (by (simp only [IntKind.wrap_i64] at *; omega))
   refine dH 19 rfl (fun _ => p_index (by kernel_rfl) rfl rfl b5 hz4) (fun _ => ?_) (ncf g2)
   refine dH 20 rfl (fun _ => p_field (off := 1) (by kernel_rfl) rfl) (fun _ => ?_) (ncf g2)
   refine dH 21 rfl (fun _ => p_load1 (by kernel_rfl) rfl rfl) (fun _ => ?_) (ncf g2)
   refine dH 22 rfl (fun _ => pB) (fun _ => ?_) (ncf g2)
   refine dT 23 rfl (p_pickF rfl g2 rfl) ?_
   refine d_end (by kernel_rfl) ?_
   refine t_cond rfl (fun h6 => ?_) (fun h6 => ?_)
   ·
    have h6' := of_decide_eq_true h6
    refine tsr<|rA<|r_end ?_
    refine tk Tryz.func155 (.tmp rfl .nil) ?_ <;> (try clear ih0)
    all_goals (refine scB ?_; (rw [fact_no3 (by assumption) (by assumption)]; done))
   ·
    have h6' := of_decide_eq_false h6
    refine t_skip<|t_seq<|tsr<|rA<|r_end<|t_block ?_
    refine t_loopL (fun m => ⟨[(3, some (.c (.ptr 0 0))), (5, some (.c (.t none (.v (.int .i64 ((m : Int)))))))], [(0, some (.box [.t none (.v (.int .i64 (r))), .t none (.sl 1 encI (ts))]))], 1⟩ : Nat → St) (fun m => m ≤ ts.length ∧ ∀ j z, j < m → ts[j]? = some z → (fun t => !valOk t) z = false) (fun m => ts.length - m) 0 ⟨⟨rfl, ⟨rfl, trivial⟩⟩, ⟨rfl, trivial⟩, rfl⟩ (by exact ⟨Nat.zero_le _, fun j z h => by omega⟩) ?_
    rintro m hI ih0
    try dsimp only at hI ih0
    obtain ⟨i1, i2⟩ := hI
    refine t_seq<|tsr<|rM ?_
    refine rF 1 ?_
    refine rL ?_
    refine r_op (o_len rfl rfl rfl) ?_
    refine rB<|r_end ?_
    refine t_cond rfl (fun h7 => ?_) (fun h7 => ?_)
    ·
     have h7' := of_decide_eq_true h7
     refine t_skip<|t_seq<|t_block<|tsr<|rF 1 ?_
     refine rL ?_
     refine rM ?_
     obtain ⟨z8, hz9, b10⟩ := at_get (xs := ts) (n := (m : Int)) (by omega) (by omega)
     refine r_op (o_index rfl (by kernel_rfl) rfl rfl b10 hz9) ?_
     refine r_op (o_load1 rfl (by kernel_rfl) rfl rfl) ?_
     refine r_op (o_call 1 1 false (en Tryz.func103) (c_spec_IsValidValue (z8) (by exact (ho _ (List.mem_of_getElem? (by assumption))).1) (by exact (ho _ (List.mem_of_getElem? (by assumption))).2)) rfl (.cons rfl (.c .t0) .nil) rfl rfl rfl) ?_
     refine r_op (o_not rfl rfl) ?_
     refine r_end ?_
     refine t_cond rfl (fun h11 => ?_) (fun h11 => ?_)
     ·
      have h11' := of_decide_eq_false (bnt h11)
      refine tsr<|rA<|r_end ?_
      refine tk Tryz.func155 (.tmp rfl .nil) ?_ <;> (try clear ih0)
      all_goals (refine scB ?_; (rw [fact_yes (by assumption) (by simp only [IntKind.wrap_i64] at *; omega) (by assumption) (by omega), any_true (p := fun t => !valOk t) (by assumption) (by simp only [valOk, Bool.not_eq_true']; exact decide_eq_false (by assumption))]; rfl))
     ·
      have h11' := of_decide_eq_true (bnf h11)
      refine t_skip<|t_endblock<|t_region<|rM ?_
      refine rB ?_
      refine rA<|r_end ?_
      refine t_le ?_ (ih0 (m + 1) (by (try dsimp only); omega) (by (try dsimp only); exact ⟨by omega, no_step i2 (by assumption) rfl (by simp only [valOk, Bool.not_eq_false']; exact decide_eq_true (by assumption))⟩))
      exact ⟨⟨rfl, ⟨(eqI (wr64 (by omega) (by omega))), trivial⟩⟩, ⟨rfl, trivial⟩, rfl⟩
    ·
     have h7' := of_decide_eq_false h7
     refine t_exit rfl<|tsr<|rA<|r_end ?_
     refine tk Tryz.func155 (.tmp rfl .nil) ?_ <;> (try clear ih0)
     all_goals (refine scB ?_; (rw [fact_yes (by assumption) (by simp only [IntKind.wrap_i64] at *; omega) (by assumption) (by omega), any_false (p := fun t => !valOk t) i2 (by omega)]; rfl))
  ·
   have g2' := of_decide_eq_false (bnt g2)
   refine dG 14 (nc g2) (fun _ => ?_)
   refine dG 15 (nc g2) (fun _ => ?_)
   refine dG 16 (nc g2) (fun _ => ?_)
   refine dG 17 (nc g2) (fun _ => ?_)
   refine dG 18 (nc g2) (fun _ => ?_)
   refine dG 19 (nc g2) (fun _ => ?_)
   refine dG 20 (nc g2) (fun _ => ?_)
   refine dG 21 (nc g2) (fun _ => ?_)
   refine dG 22 (nc g2) (fun _ => ?_)
   refine dT 23 rfl (p_pickT rfl g2 rfl) ?_
   refine d_end (by kernel_rfl) ?_
   refine t_cond rfl (fun _ => ?_) (nc rfl)
   refine tsr<|rA<|r_end ?_
   refine tk Tryz.func155 (.tmp rfl .nil) ?_ <;> (try clear ih0)
   all_goals (refine scB ?_; (rw [fact_no2 (by simp only [IntKind.wrap_i64] at *; omega)]; done))
 ·
  have g1' := (bnt g1)
  refine dG 5 (nc g1) (fun _ => ?_)
  refine dG 6 (nc g1) (fun _ => ?_)
  refine dG 7 (nc g1) (fun _ => ?_)
  refine dG 8 (nc g1) (fun _ => ?_)
  refine dG 9 (nc g1) (fun _ => ?_)
  refine dG 10 (nc g1) (fun _ => ?_)
  refine dT 11 rfl (p_pickT rfl g1 rfl) ?_
  refine dT 12 rfl pM ?_
  refine dG 13 (nc rfl) (fun _ => ?_)
  refine dG 14 (nc rfl) (fun _ => ?_)
  refine dG 15 (nc rfl) (fun _ => ?_)
  refine dG 16 (nc rfl) (fun _ => ?_)
  refine dG 17 (nc rfl) (fun _ => ?_)
  refine dG 18 (nc rfl) (fun _ => ?_)
  refine dG 19 (nc rfl) (fun _ => ?_)
  refine dG 20 (nc rfl) (fun _ => ?_)
  refine dG 21 (nc rfl) (fun _ => ?_)
  refine dG 22 (nc rfl) (fun _ => ?_)
  refine dT 23 rfl (p_pickT rfl rfl rfl) ?_
  refine d_end (by kernel_rfl) ?_
  refine t_cond rfl (fun _ => ?_) (nc rfl)
  refine tsr<|rA<|r_end ?_
  refine tk Tryz.func155 (.tmp rfl .nil) ?_ <;> (try clear ih0)
  all_goals (refine scB ?_; (rw [fact_no1 (by assumption)]; done))
theorem c_spec_l4Ints (a b : List Int) (ha : a.length ≤ 4611686018427387904) (hb : b.length ≤ 4611686018427387904) : Pu Tryz.prog 133 [.c (.t none (.sl 1 encI (a))), .c (.t none (.sl 1 encI (b)))] [] 0 (.c (.t none (.v (.int .i64 (cmpL a b))))) := by
 refine pu_enter Tryz.func133 rfl (Nat.le_of_ble_eq_true rfl) fun w S => ?_
 refine tsr<|rA<|r_end<|t_seq<|tsr ?_
 refine rA<|r_end<|t_block ?_
 refine t_loopL (fun m => ⟨[(0, some (.c (.t none (.sl 1 encI (a))))), (1, some (.c (.t none (.sl 1 encI (b))))), (5, some (.c (.t none (.v (.int .i64 ((m : Int)))))))], [], 0⟩ : Nat → St) (fun m => m ≤ a.length ∧ m ≤ b.length ∧ a.take m = b.take m) (fun m => a.length - m) 0 ⟨⟨rfl, ⟨rfl, ⟨rfl, trivial⟩⟩⟩, trivial, rfl⟩ (by exact ⟨Nat.zero_le _, Nat.zero_le _, rfl⟩) ?_
 rintro m hI ih0
 try dsimp only at hI ih0
 obtain ⟨i1, i2, i3⟩ := hI
 refine t_seq<|tsr<|rM ?_
 refine rM ?_
 refine r_op (o_len rfl rfl rfl) ?_
 refine rB ?_
 refine rM ?_
 refine rG (fun g1 => ?_) (fun g1 => ?_)
 ·
  have g1' := of_decide_eq_true g1
  refine rM ?_
  refine rG (fun _ => ?_) (nc g1)
  refine rM ?_
  refine rG (fun _ => ?_) (nc g1)
  refine r_op (o_len rfl rfl rfl) ?_
  refine rG (fun _ => ?_) (nc g1)
  refine rB ?_
  refine r_op (o_pickT rfl rfl g1 rfl) ?_
  refine r_end ?_
  refine t_cond rfl (fun h2 => ?_) (fun h2 => ?_)
  ·
   have h2' := of_decide_eq_true h2
   refine t_skip<|t_seq<|t_block<|t_seq<|t_seq ?_
   refine t_draw (fun _ => true) (by kernel_rfl) ?_
   refine dT 0 rfl pM ?_
   refine dT 1 rfl pM ?_
   obtain ⟨z3, hz4, b5⟩ := at_get (xs := a) (n := (m : Int)) (by omega) (by omega)
   refine dT 2 rfl (p_index (by kernel_rfl) rfl rfl b5 hz4) ?_
   refine dT 3 rfl (p_load1 (by kernel_rfl) rfl rfl) ?_
   refine dT 4 rfl pM ?_
   refine dT 5 rfl pM ?_
   obtain ⟨z6, hz7, b8⟩ := at_get (xs := b) (n := (m : Int)) (by omega) (by omega)
   refine dT 6 rfl (p_index (by kernel_rfl) rfl rfl b8 hz7) ?_
   refine dT 7 rfl (p_load1 (by kernel_rfl) rfl rfl) ?_
   refine dT 8 rfl pB ?_
   refine d_end (by kernel_rfl) ?_
   refine t_cond rfl (fun h9 => ?_) (fun h9 => ?_)
   ·
    have h9' := of_decide_eq_true h9
    refine tsr<|rA<|r_end ?_
    refine tk Tryz.func133 (.tmp rfl .nil) ?_ <;> (try clear ih0)
    all_goals (refine scI ?_; (rw [(cmpL_at i3 (by assumption) (by assumption)).1 (by omega)]; done))
   ·
    have h9' := of_decide_eq_false h9
    refine t_skip<|t_seq ?_
    refine t_draw (fun _ => true) (by kernel_rfl) ?_
    refine dT 0 rfl pM ?_
    refine dT 1 rfl pM ?_
    refine dT 2 rfl (p_index (by kernel_rfl) rfl rfl b5 hz4) ?_
    refine dT 3 rfl (p_load1 (by kernel_rfl) rfl rfl) ?_
    refine dT 4 rfl pM ?_
    refine dT 5 rfl pM ?_
    refine dT 6 rfl (p_index (by kernel_rfl) rfl rfl b8 hz7) ?_
    refine dT 7 rfl (p_load1 (by kernel_rfl) rfl rfl) ?_
    refine dT 8 rfl pB ?_
    refine d_end (by kernel_rfl) ?_
    refine t_cond rfl (fun h10 => ?_) (fun h10 => ?_)
    ·
     have h10' := of_decide_eq_true h10
     refine tsr<|rA<|r_end ?_
     refine tk Tryz.func133 (.tmp rfl .nil) ?_ <;> (try clear ih0)
     all_goals (refine scI ?_; (rw [(cmpL_at i3 (by assumption) (by assumption)).2 (by omega)]; done))
    ·
     have h10' := of_decide_eq_false h10
     refine t_skip<|t_endblock<|t_region<|rM ?_
     refine rB ?_
     refine rA<|r_end ?_
     refine t_le ?_ (ih0 (m + 1) (by (try dsimp only); omega) (by (try dsimp only); exact ⟨by omega, by omega, take_same i3 (same_at (by assumption) (by assumption) (by omega))⟩))
     exact ⟨⟨rfl, ⟨rfl, ⟨(eqI (wr64 (by omega) (by omega))), trivial⟩⟩⟩, trivial, rfl⟩
  ·
   have h2' := of_decide_eq_false h2
   refine t_exit rfl<|t_seq<|tsr<|rM ?_
   refine r_op (o_len rfl rfl rfl) ?_
   refine rM ?_
   refine r_op (o_len rfl rfl rfl) ?_
   refine rB<|r_end ?_
   refine t_cond rfl (fun h11 => ?_) (fun h11 => ?_)
   ·
    have h11' := of_decide_eq_true h11
    refine tsr<|rA<|r_end ?_
    refine tk Tryz.func133 (.tmp rfl .nil) ?_ <;> (try clear ih0)
    all_goals (refine scI ?_; (rw [(cmpL_end i3 i1 i2).1 (by omega) (by omega)]; done))
   ·
    have h11' := of_decide_eq_false h11
    refine t_skip<|t_seq<|tsr<|rM ?_
    refine r_op (o_len rfl rfl rfl) ?_
    refine rM ?_
    refine r_op (o_len rfl rfl rfl) ?_
    refine rB<|r_end ?_
    refine t_cond rfl (fun h12 => ?_) (fun h12 => ?_)
    ·
     have h12' := of_decide_eq_true h12
     refine tsr<|rA<|r_end ?_
     refine tk Tryz.func133 (.tmp rfl .nil) ?_ <;> (try clear ih0)
     all_goals (refine scI ?_; (rw [(cmpL_end i3 i1 i2).2.1 (by omega) (by omega)]; done))
    ·
     have h12' := of_decide_eq_false h12
     refine t_skip<|tsr<|rA<|r_end ?_
     refine tk Tryz.func133 (.tmp rfl .nil) ?_ <;> (try clear ih0)
     all_goals (refine scI ?_; (rw [(cmpL_end i3 i1 i2).2.2 (by omega) (by omega)]; done))
 ·
  have g1' := of_decide_eq_false g1
  refine rG (ncf g1) (fun _ => ?_)
  refine rG (ncf g1) (fun _ => ?_)
  refine rG (ncf g1) (fun _ => ?_)
  refine r_op (o_pickF rfl rfl g1 rfl) ?_
  refine r_end ?_
  refine t_cond rfl (ncf rfl) (fun _ => ?_)
  refine t_exit rfl<|t_seq<|tsr<|rM ?_
  refine r_op (o_len rfl rfl rfl) ?_
  refine rM ?_
  refine r_op (o_len rfl rfl rfl) ?_
  refine rB<|r_end ?_
  refine t_cond rfl (fun h13 => ?_) (fun h13 => ?_)
  ·
   have h13' := of_decide_eq_true h13
   refine tsr<|rA<|r_end ?_
   refine tk Tryz.func133 (.tmp rfl .nil) ?_ <;> (try clear ih0)
   all_goals (refine scI ?_; (rw [(cmpL_end i3 i1 i2).1 (by omega) (by omega)]; done))
  ·
   have h13' := of_decide_eq_false h13
   refine t_skip<|t_seq<|tsr<|rM ?_
   refine r_op (o_len rfl rfl rfl) ?_
   refine rM ?_
   refine r_op (o_len rfl rfl rfl) ?_
   refine rB<|r_end ?_
   refine t_cond rfl (fun h14 => ?_) (fun h14 => ?_)
   ·
    have h14' := of_decide_eq_true h14
    refine tsr<|rA<|r_end ?_
    refine tk Tryz.func133 (.tmp rfl .nil) ?_ <;> (try clear ih0)
    all_goals (refine scI ?_; (rw [(cmpL_end i3 i1 i2).2.1 (by omega) (by omega)]; done))
   ·
    have h14' := of_decide_eq_false h14
    refine t_skip<|tsr<|rA<|r_end ?_
    refine tk Tryz.func133 (.tmp rfl .nil) ?_ <;> (try clear ih0)
    all_goals (refine scI ?_; (rw [(cmpL_end i3 i1 i2).2.2 (by omega) (by omega)]; done))
theorem c_spec_CompareFacts (r : Int) (l : List Int) (r2 : Int) (l2 : List Int) (hl : l.length ≤ 1048576) (hl2 : l2.length ≤ 1048576) : Pu Tryz.prog 77 [.agg [.t none (.v (.int .i64 (r))), .t none (.sl 1 encI (l))], .agg [.t none (.v (.int .i64 (r2))), .t none (.sl 1 encI (l2))]] [] 0 (.c (.t none (.v (.int .i64 (cmpF (r, l) (r2, l2)))))) := by
 refine pu_enter Tryz.func77 rfl (Nat.le_of_ble_eq_true rfl) fun w S => ?_
 refine tsr ?_
 refine r_op (o_box 0 rfl rfl rfl rfl) ?_
 refine r_op (o_box 1 rfl rfl rfl rfl) ?_
 refine rA<|r_end<|t_seq<|tsr ?_
 refine rF 0 ?_
 refine rL ?_
 refine rF 0 ?_
 refine rL ?_
 refine rB<|r_end ?_
 refine t_cond rfl (fun h1 => ?_) (fun h1 => ?_)
 ·
  have h1' := of_decide_eq_true h1
  refine tsr<|rA<|r_end ?_
  refine tk Tryz.func77 (.tmp rfl .nil) ?_
  all_goals (refine scI ?_; unfold cmpF; (rw [if_pos (by assumption)]; done))
 ·
  have h1' := of_decide_eq_false h1
  refine t_skip<|t_seq<|tsr<|rF 0 ?_
  refine rL ?_
  refine rF 0 ?_
  refine rL ?_
  refine rB<|r_end ?_
  refine t_cond rfl (fun h2 => ?_) (fun h2 => ?_)
  ·
   have h2' := of_decide_eq_true h2
   refine tsr<|rA<|r_end ?_
   refine tk Tryz.func77 (.tmp rfl .nil) ?_
   all_goals (refine scI ?_; unfold cmpF; (rw [if_neg (by assumption), if_pos (by assumption)]; done))
  ·
   have h2' := of_decide_eq_false h2
   refine t_skip<|tsr<|rF 1 ?_
   refine rL ?_
   refine rF 1 ?_
   refine rL ?_
   refine r_op (o_call 2 2 false (en Tryz.func133) (c_spec_l4Ints (l) (l2) (by omega) (by omega)) rfl (.cons rfl (.c .t0) (.cons rfl (.c .t0) .nil)) rfl rfl rfl) ?_
   refine rA<|r_end ?_
   refine tk Tryz.func77 (.tmp rfl .nil) ?_
   all_goals (refine scI ?_; unfold cmpF; (rw [if_neg (by assumption), if_neg (by assumption)]; done))
theorem c_spec_NullsOfFact (r : Int) (l : List Int) (hl : l.length ≤ 1048576) (ho : ∀ x ∈ l, okI x) : Pu Tryz.prog 156 [.agg [.t none (.v (.int .i64 (r))), .t none (.sl 1 encI (l))]] [(1, some (.row none 3 true 1 encI (setI (nulV l))))] 2 (.c (.own 1)) := by
 refine pu_enter Tryz.func156 rfl (Nat.le_of_ble_eq_true rfl) fun w S => ?_
 refine tsr ?_
 refine r_op (o_box 0 rfl rfl rfl rfl) ?_
 refine rA<|etr ?_
 refine r_op (o_lit0 1 (e := 3) (sz := 1) (zs := [.int .i64 (0)]) encI rfl rfl (by kernel_rfl) rfl) ?_
 refine rA<|r_end<|t_seq<|tsr ?_
 refine rA<|r_end<|t_block ?_
 refine t_loopL (fun m => ⟨[(1, some (.c (.ptr 0 0))), (2, some (.c (.t none (.v (.slice none 0 0))))), (3, some (.c (.own 1))), (4, some (.c (.t none (.v (.int .i64 ((m : Int)))))))], [(0, some (.box [.t none (.v (.int .i64 (r))), .t none (.sl 1 encI (l))])), (1, some (.row none 3 true 1 encI (setI (nulV (l.take m)))))], 2⟩ : Nat → St) (fun m => m ≤ l.length) (fun m => l.length - m) 0 ⟨⟨rfl, ⟨rfl, ⟨rfl, ⟨rfl, trivial⟩⟩⟩⟩, ⟨rfl, ⟨rfl, trivial⟩⟩, rfl⟩ (by exact Nat.zero_le _) ?_
 rintro m hI ih0
 try dsimp only at hI ih0
 have i1 := hI; have q1 := setI_len (nulV (l.take m)); have q2 := nulV_part l m
 refine t_seq<|tsr<|rM ?_
 refine rF 1 ?_
 refine rL ?_
 refine r_op (o_len rfl rfl rfl) ?_
 refine rB<|r_end ?_
 refine t_cond rfl (fun h1 => ?_) (fun h1 => ?_)
 ·
  have h1' := of_decide_eq_true h1
  refine t_skip<|t_seq<|t_block<|tsr<|rF 1 ?_
  refine rL ?_
  refine rM ?_
  obtain ⟨z2, hz3, b4⟩ := at_get (xs := l) (n := (m : Int)) (by omega) (by omega)
  refine r_op (o_index rfl (by kernel_rfl) rfl rfl b4 hz3) ?_
  refine r_op (o_load1 rfl (by kernel_rfl) rfl rfl) ?_
  refine r_op (o_call 2 2 false (en Tryz.func43) (c_spec_NullNumber (z2) (by exact (ho _ (List.mem_of_getElem? (by assumption))).1) (by exact (ho _ (List.mem_of_getElem? (by assumption))).2)) rfl (.cons rfl (.c .t0) .nil) rfl rfl rfl) ?_
  refine rM ?_
  refine r_op (o_extract rfl rfl rfl rfl) ?_
  refine r_op (o_extract rfl rfl rfl rfl) ?_
  refine rA ?_
  refine rA<|etr ?_
  refine rM<|r_end ?_
  refine t_cond rfl (fun h5 => ?_) (fun h5 => ?_)
  ·
   have h5' := of_decide_eq_true h5
   refine t_region<|rM ?_
   refine rM ?_
   refine r_op (o_callC 1 (l' := putI (setI (nulV (l.take m))) (if -40 ≤ (z2) ∧ (z2) ≤ -1 then -1 - (z2) else 0)) (en Tryz.func159) (fun U => c_spec_l4Put U  (setI (nulV (l.take m))) (if -40 ≤ (z2) ∧ (z2) ≤ -1 then -1 - (z2) else 0) (by omega)) rfl rfl (.cons rfl (.own rfl) (.cons rfl .t0 .nil))) ?_
   refine rA<|r_end<|t_endblock<|t_region ?_
   refine rM ?_
   refine rB ?_
   refine rA<|r_end ?_
   refine t_le ?_ (ih0 (m + 1) (by (try dsimp only); omega) (by (try dsimp only); omega))
   exact ⟨⟨rfl, ⟨rfl, ⟨rfl, ⟨(eqI (wr64 (by omega) (by omega))), trivial⟩⟩⟩⟩, ⟨rfl, ⟨(eqR (by (rw [nulV_more (by assumption) (by assumption), setI_snoc]; done))), trivial⟩⟩, rfl⟩
  ·
   have h5' := of_decide_eq_false h5
   refine t_skip<|t_endblock<|t_region<|rM ?_
   refine rB ?_
   refine rA<|r_end ?_
   refine t_le ?_ (ih0 (m + 1) (by (try dsimp only); omega) (by (try dsimp only); omega))
   exact ⟨⟨rfl, ⟨rfl, ⟨rfl, ⟨(eqI (wr64 (by omega) (by omega))), trivial⟩⟩⟩⟩, ⟨rfl, ⟨(eqR (by (rw [nulV_same (by assumption) (by assumption)]; done))), trivial⟩⟩, rfl⟩
 ·
  have h1' := of_decide_eq_false h1
  refine t_exit rfl<|tsr<|rM ?_
  refine rA<|r_end ?_
  refine tk Tryz.func156 (.tmp rfl .nil) ?_ (hL := ⟨eqR ?_, trivial⟩) <;> (try clear ih0)
  all_goals first | rfl | ((rw [nulV_end (by omega)]))
theorem c_spec_IsValidInstance (rs : Rels) (l : Atoms) (hrs : rs.length ≤ 4611686018427387904) (hl : szS (fun (x : Int × (List (Int))) => (x.2).length) l ≤ 1048576) (ho : ∀ z ∈ l, ∀ x ∈ z.2, okI x) : Pu Tryz.prog 98 [.agg [.t none (.sl 3 (enS3 encS encI encB) (rs)), .t none (.sl 2 (enS2 encI (enSl 1 encI)) (l))]] [] 0 (.c (.t none (.v (.bool (instOk rs l))))) := by
 refine pu_enter Tryz.func98 rfl (Nat.le_of_ble_eq_true rfl) fun w S => ?_
 have gl := sz_len (f := (fun (x : Int × (List (Int))) => (x.2).length)) (l := l)
 refine tsr ?_
 refine r_op (o_box 0 rfl rfl rfl rfl) ?_
 refine rA<|r_end<|t_seq<|tsr ?_
 refine rA<|r_end<|t_block ?_
 refine t_loopL (fun m => ⟨[(1, some (.c (.ptr 0 0))), (3, some (.c (.t none (.v (.int .i64 ((m : Int)))))))], [(0, some (.box [.t none (.sl 3 (enS3 encS encI encB) (rs)), .t none (.sl 2 (enS2 encI (enSl 1 encI)) (l))]))], 1⟩ : Nat → St) (fun m => m ≤ l.length ∧ ∀ j, j < m → instStep rs l j = true) (fun m => l.length - m) 0 ⟨⟨rfl, ⟨rfl, trivial⟩⟩, ⟨rfl, trivial⟩, rfl⟩ (by exact ⟨Nat.zero_le _, fun j h => by omega⟩) ?_
 rintro m hI ih0
 try dsimp only at hI ih0
 obtain ⟨i1, i2⟩ := hI
 refine t_seq<|tsr<|rM ?_
 refine rF 1 ?_
 refine rL ?_
 refine r_op (o_len rfl rfl rfl) ?_
 refine rB<|r_end ?_
 refine t_cond rfl (fun h1 => ?_) (fun h1 => ?_)
 ·
  have h1' := of_decide_eq_true h1
  refine t_skip<|t_seq<|t_block<|tsr<|rF 1 ?_
  refine rL ?_
  refine rM ?_
  obtain ⟨z2, hz3, b4⟩ := at_get (xs := l) (n := (m : Int)) (by omega) (by omega)
  refine r_op (o_index rfl (by kernel_rfl) rfl rfl b4 hz3) ?_
  refine r_op (o_loadA rfl (n := 2) (by kernel_rfl) (by kernel_rfl) rfl rfl) ?_
  refine r_op (o_alloc 1 (zs := [.int .i64 (0), .slice none 0 0]) rfl rfl (by kernel_rfl) rfl) ?_
  refine rS 2<|r_end<|t_seq ?_
  refine t_draw (fun _ => true) (by kernel_rfl) ?_
  refine dT 0 rfl (pF 0) ?_
  refine dT 1 rfl pL ?_
  refine dT 2 rfl (pC 2) ?_
  refine dO 3 rfl (o_call 2 2 false (en Tryz.func155) (c_spec_IsValidFact (rs) (z2.1) (z2.2) (by omega) (by (have e1 := sz_at (f := (fun (x : Int × (List (Int))) => (x.2).length)) (l := l) (m := m) (by assumption); (try dsimp only at e1); omega)) (by exact ho _ (List.mem_of_getElem? (by assumption)))) rfl (.cons rfl (.c .t0) (.cons rfl (.agg (.cons .t0 (.cons .t0 .nil))) .nil)) rfl rfl rfl) ?_
  refine dT 4 rfl (p_not rfl) ?_
  refine dT 5 rfl pM ?_
  refine dH 6 rfl (fun _ => pM) (fun g5 => ?_) (fun g5 => ?_)
  ·
   have g5' := (bnf g5)
   refine dH 7 rfl (fun _ => pB) (fun _ => ?_) (ncf g5)
   refine dH 8 rfl (fun _ => pM) (fun _ => ?_) (ncf g5)
   refine dH 9 rfl (fun _ => pF 1) (fun g6 => ?_) (fun g6 => ?_)
   ·
    have g6' := of_decide_eq_true g6
    refine dH 10 rfl (fun _ => pL) (fun _ => ?_) (nc g6)
    refine dH 11 rfl (fun _ => pM) (fun _ => ?_) (nc g6)
    refine dH 12 rfl (fun _ => pB) (fun _ => ?_) (nc g6)
    obtain ⟨z7, hz8, b9⟩ := at_get (xs := l) (n := IntKind.i64.wrap ((m : Int) - 1)) (by (simp only [IntKind.wrap_i64] at *; omega)) (by (simp only [IntKind.wrap_i64] at *; omega))
    refine dH 13 rfl (fun _ => p_index (by kernel_rfl) rfl rfl b9 hz8) (fun _ => ?_) (nc g6)
    refine dH 14 rfl (fun _ => p_loadA (n := 2) (by kernel_rfl) (by kernel_rfl) rfl rfl) (fun _ => ?_) (nc g6)
    refine dH 15 rfl (fun _ => pC 2) (fun _ => ?_) (nc g6)
    refine d_onlyG 16 rfl rfl (by kernel_rfl) rfl rfl rfl (fun _ => (o_call 2 2 false (en Tryz.func77) (c_spec_CompareFacts (z7.1) (z7.2) (z2.1) (z2.2) (by (have e1 := sz_at (f := (fun (x : Int × (List (Int))) => (x.2).length)) (l := l) (m := (IntKind.i64.wrap ((m : Int) - 1)).toNat) (by assumption); (try dsimp only at e1); omega)) (by (have e1 := sz_at (f := (fun (x : Int × (List (Int))) => (x.2).length)) (l := l) (m := m) (by assumption); (try dsimp only at e1); omega))) rfl (.cons rfl (.agg (.cons .t0 (.cons .t0 .nil))) (.cons rfl (.agg (.cons .t0 (.cons .t0 .nil))) .nil)) rfl rfl rfl)) (fun _ => ?_) (nc g6)
    refine dH 17 rfl (fun _ => pB) (fun _ => ?_) (nc g6)
    refine dH 18 rfl (fun _ => p_pickT rfl g6 rfl) (fun _ => ?_) (ncf g5)
    refine dT 19 rfl (p_pickF rfl g5 rfl) ?_
    refine dT 20 rfl pM ?_
    refine dH 21 rfl (fun _ => pF 0) (fun g10 => ?_) (fun g10 => ?_)
    ·
     have g10' := of_decide_eq_false g10
     refine dH 22 rfl (fun _ => pL) (fun _ => ?_) (ncf g10)
     refine dH 23 rfl (fun _ => pF 0) (fun _ => ?_) (ncf g10)
     refine dH 24 rfl (fun _ => pL) (fun _ => ?_) (ncf g10)
     obtain ⟨z11, hz12, b13⟩ := at_get (xs := rs) (n := z2.1) (by exact (fact_idx (by assumption)).1) (by exact (fact_idx (by assumption)).2)
     refine dH 25 rfl (fun _ => p_index (by kernel_rfl) rfl rfl b13 hz12) (fun _ => ?_) (ncf g10)
     refine dH 26 rfl (fun _ => p_field (off := 2) (by kernel_rfl) rfl) (fun _ => ?_) (ncf g10)
     refine dH 27 rfl (fun _ => p_load1 (by kernel_rfl) rfl rfl) (fun _ => ?_) (ncf g10)
     refine dH 28 rfl (fun _ => pM) (fun _ => ?_) (ncf g10)
     refine dH 29 rfl (fun _ => pC 2) (fun g14 => ?_) (fun g14 => ?_)
     ·
      have g14' := g14
      refine d_onlyG 30 rfl rfl (by kernel_rfl) rfl rfl rfl (fun _ => (o_call 2 4 false (en Tryz.func156) (c_spec_NullsOfFact (z2.1) (z2.2) (by (have e1 := sz_at (f := (fun (x : Int × (List (Int))) => (x.2).length)) (l := l) (m := m) (by assumption); (try dsimp only at e1); omega)) (by exact ho _ (List.mem_of_getElem? (by assumption)))) rfl (.cons rfl (.agg (.cons .t0 (.cons .t0 .nil))) .nil) rfl rfl rfl)) (fun _ => ?_) (nc g14)
      refine dH 31 rfl (fun _ => p_leno rfl rfl rfl) (fun _ => ?_) (nc g14)
      refine dH 32 rfl (fun _ => pB) (fun _ => ?_) (nc g14)
      refine dH 33 rfl (fun _ => p_pickT rfl g14 rfl) (fun _ => ?_) (ncf g10)
      refine dT 34 rfl (p_pickF rfl g10 rfl) ?_
      refine d_end (by kernel_rfl) ?_
      refine t_cond rfl (fun h15 => ?_) (fun h15 => ?_)
      ·
       have h15' := of_decide_eq_true h15
       refine tsr<|rA<|r_end ?_
       refine tk Tryz.func98 (.tmp rfl .nil) ?_ <;> (try clear ih0)
       all_goals (refine scB ?_; (rw [instOk_not (rs := rs) (l := l) (m := m) (by omega) (by (try (have qb := instStep_bad (rs := rs) (l := l) (m := m) hz3 (by assumption))); (try (have qz := instStep_zero (rs := rs) (l := l) (m := m) hz3 (by omega))); (try (have qp := instStep_pos (rs := rs) (l := l) (m := m) hz3 (by omega) hz8 (by simp only [IntKind.wrap_i64]; omega))); (try (have qS := srcA_at (rs := rs) (r := z2.1) (ts := z2.2) hz8)); (try (have qT := srcA_at (rs := rs) (r := z2.1) (ts := z2.2) hz12)); clear hl gl ho hrs; grind)]; done))
      ·
       have h15' := of_decide_eq_false h15
       refine t_skip<|t_endblock<|t_region<|rM ?_
       refine rB ?_
       refine rA<|r_end ?_
       refine t_le ?_ (ih0 (m + 1) (by (try dsimp only); omega) (by (try dsimp only); exact ⟨by omega, step_all i2 (by (try (have qb := instStep_bad (rs := rs) (l := l) (m := m) hz3 (by assumption))); (try (have qz := instStep_zero (rs := rs) (l := l) (m := m) hz3 (by omega))); (try (have qp := instStep_pos (rs := rs) (l := l) (m := m) hz3 (by omega) hz8 (by simp only [IntKind.wrap_i64]; omega))); (try (have qS := srcA_at (rs := rs) (r := z2.1) (ts := z2.2) hz8)); (try (have qT := srcA_at (rs := rs) (r := z2.1) (ts := z2.2) hz12)); clear hl gl ho hrs; grind)⟩))
       exact ⟨⟨rfl, ⟨(eqI (wr64 (by omega) (by omega))), trivial⟩⟩, ⟨rfl, trivial⟩, rfl⟩
     ·
      have g14' := g14
      refine dG 30 (ncf g14) (fun _ => ?_)
      refine dG 31 (ncf g14) (fun _ => ?_)
      refine dG 32 (ncf g14) (fun _ => ?_)
      refine dH 33 rfl (fun _ => p_pickF rfl g14 rfl) (fun _ => ?_) (ncf g10)
      refine dT 34 rfl (p_pickF rfl g10 rfl) ?_
      refine d_end (by kernel_rfl) ?_
      refine t_cond rfl (ncf rfl) (fun _ => ?_)
      refine t_skip<|t_endblock<|t_region<|rM ?_
      refine rB ?_
      refine rA<|r_end ?_
      refine t_le ?_ (ih0 (m + 1) (by (try dsimp only); omega) (by (try dsimp only); exact ⟨by omega, step_all i2 (by (try (have qb := instStep_bad (rs := rs) (l := l) (m := m) hz3 (by assumption))); (try (have qz := instStep_zero (rs := rs) (l := l) (m := m) hz3 (by omega))); (try (have qp := instStep_pos (rs := rs) (l := l) (m := m) hz3 (by omega) hz8 (by simp only [IntKind.wrap_i64]; omega))); (try (have qS := srcA_at (rs := rs) (r := z2.1) (ts := z2.2) hz8)); (try (have qT := srcA_at (rs := rs) (r := z2.1) (ts := z2.2) hz12)); clear hl gl ho hrs; grind)⟩))
      exact ⟨⟨rfl, ⟨(eqI (wr64 (by omega) (by omega))), trivial⟩⟩, ⟨rfl, trivial⟩, rfl⟩
    ·
     have g10' := of_decide_eq_true g10
     refine dG 22 (nc g10) (fun _ => ?_)
     refine dG 23 (nc g10) (fun _ => ?_)
     refine dG 24 (nc g10) (fun _ => ?_)
     refine dG 25 (nc g10) (fun _ => ?_)
     refine dG 26 (nc g10) (fun _ => ?_)
     refine dG 27 (nc g10) (fun _ => ?_)
     refine dG 28 (nc g10) (fun _ => ?_)
     refine dK 29 ?_
     refine dK 30 ?_
     refine dK 31 ?_
     refine dK 32 ?_
     refine dG 33 (nc g10) (fun _ => ?_)
     refine dT 34 rfl (p_pickT rfl g10 rfl) ?_
     refine d_end (by kernel_rfl) ?_
     refine t_cond rfl (fun _ => ?_) (nc rfl)
     refine tsr<|rA<|r_end ?_
     refine tk Tryz.func98 (.tmp rfl .nil) ?_ <;> (try clear ih0)
     all_goals (refine scB ?_; (rw [instOk_not (rs := rs) (l := l) (m := m) (by omega) (by (try (have qb := instStep_bad (rs := rs) (l := l) (m := m) hz3 (by assumption))); (try (have qz := instStep_zero (rs := rs) (l := l) (m := m) hz3 (by omega))); (try (have qp := instStep_pos (rs := rs) (l := l) (m := m) hz3 (by omega) hz8 (by simp only [IntKind.wrap_i64]; omega))); (try (have qS := srcA_at (rs := rs) (r := z2.1) (ts := z2.2) hz8)); (try (have qT := srcA_at (rs := rs) (r := z2.1) (ts := z2.2) (by assumption))); clear hl gl ho hrs; grind)]; done))
   ·
    have g6' := of_decide_eq_false g6
    refine dG 10 (ncf g6) (fun _ => ?_)
    refine dG 11 (ncf g6) (fun _ => ?_)
    refine dG 12 (ncf g6) (fun _ => ?_)
    refine dG 13 (ncf g6) (fun _ => ?_)
    refine dG 14 (ncf g6) (fun _ => ?_)
    refine dG 15 (ncf g6) (fun _ => ?_)
    refine dG 16 (ncf g6) (fun _ => ?_)
    refine dG 17 (ncf g6) (fun _ => ?_)
    refine dH 18 rfl (fun _ => p_pickF rfl g6 rfl) (fun _ => ?_) (ncf g5)
    refine dT 19 rfl (p_pickF rfl g5 rfl) ?_
    refine dT 20 rfl pM ?_
    refine dH 21 rfl (fun _ => pF 0) (fun _ => ?_) (ncf rfl)
    refine dH 22 rfl (fun _ => pL) (fun _ => ?_) (ncf rfl)
    refine dH 23 rfl (fun _ => pF 0) (fun _ => ?_) (ncf rfl)
    refine dH 24 rfl (fun _ => pL) (fun _ => ?_) (ncf rfl)
    obtain ⟨z16, hz17, b18⟩ := at_get (xs := rs) (n := z2.1) (by exact (fact_idx (by assumption)).1) (by exact (fact_idx (by assumption)).2)
    refine dH 25 rfl (fun _ => p_index (by kernel_rfl) rfl rfl b18 hz17) (fun _ => ?_) (ncf rfl)
    refine dH 26 rfl (fun _ => p_field (off := 2) (by kernel_rfl) rfl) (fun _ => ?_) (ncf rfl)
    refine dH 27 rfl (fun _ => p_load1 (by kernel_rfl) rfl rfl) (fun _ => ?_) (ncf rfl)
    refine dH 28 rfl (fun _ => pM) (fun _ => ?_) (ncf rfl)
    refine dH 29 rfl (fun _ => pC 2) (fun g19 => ?_) (fun g19 => ?_)
    ·
     have g19' := g19
     refine d_onlyG 30 rfl rfl (by kernel_rfl) rfl rfl rfl (fun _ => (o_call 2 4 false (en Tryz.func156) (c_spec_NullsOfFact (z2.1) (z2.2) (by (have e1 := sz_at (f := (fun (x : Int × (List (Int))) => (x.2).length)) (l := l) (m := m) (by assumption); (try dsimp only at e1); omega)) (by exact ho _ (List.mem_of_getElem? (by assumption)))) rfl (.cons rfl (.agg (.cons .t0 (.cons .t0 .nil))) .nil) rfl rfl rfl)) (fun _ => ?_) (nc g19)
     refine dH 31 rfl (fun _ => p_leno rfl rfl rfl) (fun _ => ?_) (nc g19)
     refine dH 32 rfl (fun _ => pB) (fun _ => ?_) (nc g19)
     refine dH 33 rfl (fun _ => p_pickT rfl g19 rfl) (fun _ => ?_) (ncf rfl)
     refine dT 34 rfl (p_pickF rfl rfl rfl) ?_
     refine d_end (by kernel_rfl) ?_
     refine t_cond rfl (fun h20 => ?_) (fun h20 => ?_)
     ·
      have h20' := of_decide_eq_true h20
      refine tsr<|rA<|r_end ?_
      refine tk Tryz.func98 (.tmp rfl .nil) ?_ <;> (try clear ih0)
      all_goals (refine scB ?_; (rw [instOk_not (rs := rs) (l := l) (m := m) (by omega) (by (try (have qb := instStep_bad (rs := rs) (l := l) (m := m) hz3 (by assumption))); (try (have qz := instStep_zero (rs := rs) (l := l) (m := m) hz3 (by omega))); (try (have qp := instStep_pos (rs := rs) (l := l) (m := m) hz3 (by omega) hz17 (by simp only [IntKind.wrap_i64]; omega))); (try (have qS := srcA_at (rs := rs) (r := z2.1) (ts := z2.2) hz17)); (try (have qT := srcA_at (rs := rs) (r := z2.1) (ts := z2.2) (by assumption))); clear hl gl ho hrs; grind)]; done))
     ·
      have h20' := of_decide_eq_false h20
      refine t_skip<|t_endblock<|t_region<|rM ?_
      refine rB ?_
      refine rA<|r_end ?_
      refine t_le ?_ (ih0 (m + 1) (by (try dsimp only); omega) (by (try dsimp only); exact ⟨by omega, step_all i2 (by (try (have qb := instStep_bad (rs := rs) (l := l) (m := m) hz3 (by assumption))); (try (have qz := instStep_zero (rs := rs) (l := l) (m := m) hz3 (by omega))); (try (have qp := instStep_pos (rs := rs) (l := l) (m := m) hz3 (by omega) hz17 (by simp only [IntKind.wrap_i64]; omega))); (try (have qS := srcA_at (rs := rs) (r := z2.1) (ts := z2.2) hz17)); (try (have qT := srcA_at (rs := rs) (r := z2.1) (ts := z2.2) (by assumption))); clear hl gl ho hrs; grind)⟩))
      exact ⟨⟨rfl, ⟨(eqI (wr64 (by omega) (by omega))), trivial⟩⟩, ⟨rfl, trivial⟩, rfl⟩
    ·
     have g19' := g19
     refine dG 30 (ncf g19) (fun _ => ?_)
     refine dG 31 (ncf g19) (fun _ => ?_)
     refine dG 32 (ncf g19) (fun _ => ?_)
     refine dH 33 rfl (fun _ => p_pickF rfl g19 rfl) (fun _ => ?_) (ncf rfl)
     refine dT 34 rfl (p_pickF rfl rfl rfl) ?_
     refine d_end (by kernel_rfl) ?_
     refine t_cond rfl (ncf rfl) (fun _ => ?_)
     refine t_skip<|t_endblock<|t_region<|rM ?_
     refine rB ?_
     refine rA<|r_end ?_
     refine t_le ?_ (ih0 (m + 1) (by (try dsimp only); omega) (by (try dsimp only); exact ⟨by omega, step_all i2 (by (try (have qb := instStep_bad (rs := rs) (l := l) (m := m) hz3 (by assumption))); (try (have qz := instStep_zero (rs := rs) (l := l) (m := m) hz3 (by omega))); (try (have qp := instStep_pos (rs := rs) (l := l) (m := m) hz3 (by omega) hz17 (by simp only [IntKind.wrap_i64]; omega))); (try (have qS := srcA_at (rs := rs) (r := z2.1) (ts := z2.2) hz17)); (try (have qT := srcA_at (rs := rs) (r := z2.1) (ts := z2.2) (by assumption))); clear hl gl ho hrs; grind)⟩))
     exact ⟨⟨rfl, ⟨(eqI (wr64 (by omega) (by omega))), trivial⟩⟩, ⟨rfl, trivial⟩, rfl⟩
  ·
   have g5' := (bnt g5)
   refine dG 7 (nc g5) (fun _ => ?_)
   refine dG 8 (nc g5) (fun _ => ?_)
   refine dK 9 ?_
   refine dK 10 ?_
   refine dK 11 ?_
   refine dK 12 ?_
   refine dK 13 ?_
   refine dK 14 ?_
   refine dK 15 ?_
   refine dK 16 ?_
   refine dK 17 ?_
   refine dG 18 (nc g5) (fun _ => ?_)
   refine dT 19 rfl (p_pickT rfl g5 rfl) ?_
   refine dT 20 rfl pM ?_
   refine dG 21 (nc rfl) (fun _ => ?_)
   refine dG 22 (nc rfl) (fun _ => ?_)
   refine dG 23 (nc rfl) (fun _ => ?_)
   refine dG 24 (nc rfl) (fun _ => ?_)
   refine dG 25 (nc rfl) (fun _ => ?_)
   refine dG 26 (nc rfl) (fun _ => ?_)
   refine dG 27 (nc rfl) (fun _ => ?_)
   refine dG 28 (nc rfl) (fun _ => ?_)
   refine dK 29 ?_
   refine dK 30 ?_
   refine dK 31 ?_
   refine dK 32 ?_
   refine dG 33 (nc rfl) (fun _ => ?_)
   refine dT 34 rfl (p_pickT rfl rfl rfl) ?_
   refine d_end (by kernel_rfl) ?_
   refine t_cond rfl (fun _ => ?_) (nc rfl)
   refine tsr<|rA<|r_end ?_
   refine tk Tryz.func98 (.tmp rfl .nil) ?_ <;> (try clear ih0)
   all_goals (refine scB ?_; (rw [instOk_not (rs := rs) (l := l) (m := m) (by omega) (by (try (have qb := instStep_bad (rs := rs) (l := l) (m := m) hz3 (by assumption))); (try (have qz := instStep_zero (rs := rs) (l := l) (m := m) hz3 (by omega))); (try (have qp := instStep_pos (rs := rs) (l := l) (m := m) hz3 (by omega) (by assumption) (by simp only [IntKind.wrap_i64]; omega))); (try (have qS := srcA_at (rs := rs) (r := z2.1) (ts := z2.2) (by assumption))); (try (have qT := srcA_at (rs := rs) (r := z2.1) (ts := z2.2) (by assumption))); clear hl gl ho hrs; grind)]; done))
 ·
  have h1' := of_decide_eq_false h1
  refine t_exit rfl<|tsr<|rF 0 ?_
  refine rL ?_
  refine r_op (o_call 1 1 false (en Tryz.func157) (c_spec_AreValidRelations (rs) (by omega)) rfl (.cons rfl (.c .t0) .nil) rfl rfl rfl) ?_
  refine rM ?_
  refine rG (fun g21 => ?_) (fun g21 => ?_)
  ·
   have g21' := g21
   refine rF 1 ?_
   refine rG (fun _ => ?_) (nc g21)
   refine rL ?_
   refine rG (fun _ => ?_) (nc g21)
   refine r_op (o_len rfl rfl rfl) ?_
   refine rG (fun _ => ?_) (nc g21)
   refine rB ?_
   refine r_op (o_pickT rfl rfl g21 rfl) ?_
   refine rA<|r_end ?_
   refine tk Tryz.func98 (.tmp rfl .nil) ?_ <;> (try clear ih0)
   all_goals (refine scB ?_; (rw [instOk_end (m := m) i2 (by omega)]; clear hl gl ho hrs; grind))
  ·
   have g21' := g21
   refine rG (ncf g21) (fun _ => ?_)
   refine rG (ncf g21) (fun _ => ?_)
   refine rG (ncf g21) (fun _ => ?_)
   refine r_op (o_pickF rfl rfl g21 rfl) ?_
   refine rA<|r_end ?_
   refine tk Tryz.func98 (.tmp rfl .nil) ?_ <;> (try clear ih0)
   all_goals (refine scB ?_; (rw [instOk_end (m := m) i2 (by omega)]; clear hl gl ho hrs; grind))
theorem c_spec_l11Ok (rs : Rels) (fs l : Atoms) (hrs : rs.length ≤ 4611686018427387904) (hfs : szS (fun (x : Int × (List (Int))) => (x.2).length) fs ≤ 1048576) (hll : szS (fun (x : Int × (List (Int))) => (x.2).length) l ≤ 1048576) (ho : ∀ z ∈ fs, ∀ x ∈ z.2, okI x) : Pu Tryz.prog 135 [.agg [.t none (.sl 3 (enS3 encS encI encB) (rs)), .t none (.sl 2 (enS2 encI (enSl 1 encI)) (fs))], .c (.t none (.sl 2 (enS2 encI (enSl 1 encI)) (l)))] [] 0 (.c (.t none (.v (.bool (mtOk rs fs l))))) := by
 refine pu_enter Tryz.func135 rfl (Nat.le_of_ble_eq_true rfl) fun w S => ?_
 have gl := sz_len (f := (fun (x : Int × (List (Int))) => (x.2).length)) (l := l)
 refine tsr ?_
 refine r_op (o_box 0 rfl rfl rfl rfl) ?_
 refine rA<|r_end<|t_seq<|tsr ?_
 refine rA<|r_end<|t_block ?_
 refine t_loopL (fun m => ⟨[(1, some (.c (.t none (.sl 2 (enS2 encI (enSl 1 encI)) (l))))), (2, some (.c (.ptr 0 0))), (5, some (.c (.t none (.v (.int .i64 ((m : Int)))))))], [(0, some (.box [.t none (.sl 3 (enS3 encS encI encB) (rs)), .t none (.sl 2 (enS2 encI (enSl 1 encI)) (fs))]))], 1⟩ : Nat → St) (fun m => m ≤ l.length ∧ ∀ j z, j < m → l[j]? = some z → badA rs z = false) (fun m => l.length - m) 0 ⟨⟨rfl, ⟨rfl, ⟨rfl, trivial⟩⟩⟩, ⟨rfl, trivial⟩, rfl⟩ (by exact ⟨Nat.zero_le _, fun j z h => by omega⟩) ?_
 rintro m hI ih0
 try dsimp only at hI ih0
 obtain ⟨i1, i2⟩ := hI; have iA : l.length ≤ m → l.any (badA rs) = false := fun e => any_false i2 e
 refine t_seq<|tsr<|rM ?_
 refine rM ?_
 refine r_op (o_len rfl rfl rfl) ?_
 refine rB<|r_end ?_
 refine t_cond rfl (fun h1 => ?_) (fun h1 => ?_)
 ·
  have h1' := of_decide_eq_true h1
  refine t_skip<|t_seq<|t_block<|t_seq ?_
  refine t_draw (fun _ => true) (by kernel_rfl) ?_
  refine dT 0 rfl (pF 0) ?_
  refine dT 1 rfl pL ?_
  refine dT 2 rfl pM ?_
  refine dT 3 rfl pM ?_
  obtain ⟨z2, hz3, b4⟩ := at_get (xs := l) (n := (m : Int)) (by omega) (by omega)
  refine dT 4 rfl (p_index (by kernel_rfl) rfl rfl b4 hz3) ?_
  refine dT 5 rfl (p_loadA (n := 2) (by kernel_rfl) (by kernel_rfl) rfl rfl) ?_
  refine dO 6 rfl (o_call 1 1 false (en Tryz.func174) (c_spec_IsValidAtom (rs) (z2.1) (z2.2) (by omega) (by (have e1 := sz_at (f := (fun (x : Int × (List (Int))) => (x.2).length)) (l := l) (m := m) (by assumption); (try dsimp only at e1); omega))) rfl (.cons rfl (.c .t0) (.cons rfl (.agg (.cons .t0 (.cons .t0 .nil))) .nil)) rfl rfl rfl) ?_
  refine dT 7 rfl (p_not rfl) ?_
  refine d_end (by kernel_rfl) ?_
  refine t_cond rfl (fun h5 => ?_) (fun h5 => ?_)
  ·
   have h5' := (bnt h5)
   refine tsr<|rA<|r_end ?_
   refine tk Tryz.func135 (.tmp rfl .nil) ?_ <;> (try clear ih0)
   all_goals (refine scB ?_; (try (have qA := iA (by omega))); (try (have qB := any_true (p := badA rs) (l := l) (m := m) hz3 (by unfold badA; grind))); clear hrs hfs hll ho gl; unfold mtOk; grind)
  ·
   have h5' := (bnf h5)
   refine t_skip<|t_endblock<|t_region<|rM ?_
   refine rB ?_
   refine rA<|r_end ?_
   refine t_le ?_ (ih0 (m + 1) (by (try dsimp only); omega) (by (try dsimp only); exact ⟨by omega, no_step i2 (by assumption) rfl (by unfold badA; grind)⟩))
   exact ⟨⟨rfl, ⟨rfl, ⟨(eqI (wr64 (by omega) (by omega))), trivial⟩⟩⟩, ⟨rfl, trivial⟩, rfl⟩
 ·
  have h1' := of_decide_eq_false h1
  refine t_exit rfl<|tsr<|rC 2 ?_
  refine r_op (o_call 1 1 false (en Tryz.func98) (c_spec_IsValidInstance (rs) (fs) (by omega) (by omega) (by omega)) rfl (.cons rfl (.agg (.cons .t0 (.cons .t0 .nil))) .nil) rfl rfl rfl) ?_
  refine rM ?_
  refine rG (fun g6 => ?_) (fun g6 => ?_)
  ·
   have g6' := g6
   refine rM ?_
   refine rG (fun _ => ?_) (nc g6)
   refine r_op (o_len rfl rfl rfl) ?_
   refine rG (fun _ => ?_) (nc g6)
   refine rB ?_
   refine r_op (o_pickT rfl rfl g6 rfl) ?_
   refine rA<|r_end ?_
   refine tk Tryz.func135 (.tmp rfl .nil) ?_ <;> (try clear ih0)
   all_goals (refine scB ?_; (try (have qA := iA (by omega))); (try (have qB := any_true (p := badA rs) (l := l) (m := m) (by assumption) (by unfold badA; grind))); clear hrs hfs hll ho gl; unfold mtOk; grind)
  ·
   have g6' := g6
   refine rG (ncf g6) (fun _ => ?_)
   refine rG (ncf g6) (fun _ => ?_)
   refine r_op (o_pickF rfl rfl g6 rfl) ?_
   refine rA<|r_end ?_
   refine tk Tryz.func135 (.tmp rfl .nil) ?_ <;> (try clear ih0)
   all_goals (refine scB ?_; (try (have qA := iA (by omega))); (try (have qB := any_true (p := badA rs) (l := l) (m := m) (by assumption) (by unfold badA; grind))); clear hrs hfs hll ho gl; unfold mtOk; grind)
theorem c_spec_l11None  : Pu Tryz.prog 134 [] [] 0 (.c (.t none (.v (.int .i64 (10))))) := by
 refine pu_enter Tryz.func134 rfl (Nat.le_of_ble_eq_true rfl) fun w S => ?_
 refine tsr<|rA<|etr ?_
 refine rA<|r_end ?_
 refine tk Tryz.func134 (.tmp rfl .nil) ?_
 all_goals (rfl)
theorem c_spec_l11Blank  : Pu Tryz.prog 175 [] [(0, some (.row none 3 true 1 encI (freeB)))] 1 (.c (.own 0)) := by
 refine pu_enter Tryz.func175 rfl (Nat.le_of_ble_eq_true rfl) fun w S => ?_
 refine tsr<|rA<|etr ?_
 refine r_op (o_lit0 0 (e := 3) (sz := 1) (zs := [.int .i64 (0)]) encI rfl rfl (by kernel_rfl) rfl) ?_
 refine rA<|r_end<|t_seq<|t_block ?_
 refine t_loopL (fun m => ⟨[(0, some (.c (.t none (.v (.slice none 0 0))))), (1, some (.c (.own 0)))], [(0, some (.row none 3 true 1 encI (List.replicate m 10)))], 1⟩ : Nat → St) (fun m => m ≤ 5) (fun m => 5 - m) 0 ⟨⟨rfl, ⟨rfl, trivial⟩⟩, ⟨rfl, trivial⟩, rfl⟩ (by omega) ?_
 rintro m hI ih0
 try dsimp only at hI ih0
 have i1 := hI; have rl : (List.replicate m (10 : Int)).length = m := List.length_replicate
 refine t_seq<|tsr<|rM ?_
 refine r_op (o_leno rfl rfl rfl rfl) ?_
 refine rB<|r_end ?_
 refine t_cond rfl (fun h1 => ?_) (fun h1 => ?_)
 ·
  have h1' := of_decide_eq_true h1
  refine t_skip<|t_block<|t_region<|rM ?_
  refine r_op (o_call 1 1 false (en Tryz.func134) (c_spec_l11None ) rfl .nil rfl rfl rfl) ?_
  refine r_op (o_litS 1 (e := 3) (sz := 1) (zs := [.int .i64 (0)]) rfl rfl (by kernel_rfl) rfl rfl rfl rfl rfl) ?_
  refine r_op (o_append 0 (e := 3) (sz := 1) (by' := 8) (10) rfl (by kernel_rfl) rfl rfl rfl rfl rfl rfl (.cons .sc .nil) rfl (by omega) (by omega)) ?_
  refine rA<|r_end<|t_endblock ?_
  refine t_le ?_ (ih0 (m + 1) (by (try dsimp only); omega) (by (try dsimp only); omega))
  exact ⟨⟨rfl, ⟨rfl, trivial⟩⟩, ⟨(eqR (List.replicate_succ').symm), trivial⟩, rfl⟩
 ·
  have h1' := of_decide_eq_false h1
  refine t_exit rfl<|tsr<|rM ?_
  refine rA<|r_end ?_
  refine tk Tryz.func175 (.tmp rfl .nil) ?_ (hL := ⟨eqR ?_, trivial⟩) <;> (try clear ih0)
  all_goals first | rfl | ((obtain rfl : m = 5 := by omega); rfl)
theorem c_spec_l11Fit (b : List Int) (r : Int) (ts : List Int) (r2 : Int) (vs : List Int) (hb : b.length = 5) (ha : ts.length ≤ 4611686018427387904) (ht : ∀ t ∈ ts, -10 ≤ t ∧ t ≤ 4) (hv : r = r2 → ts.length = vs.length) : Pu Tryz.prog 176 [.agg [.t none (.v (.int .i64 (r))), .t none (.sl 1 encI (ts))], .agg [.t none (.v (.int .i64 (r2))), .t none (.sl 1 encI (vs))], .c (.t none (.sl 1 encI (b)))] [(0, some (.row none 3 true 1 encI ((fitF (r, ts) (r2, vs) b).1)))] 1 (.tup [(false, [.own 0]), (false, [.t none (.v (.bool ((fitF (r, ts) (r2, vs) b).2)))])]) := by
 refine pu_enter Tryz.func176 rfl (Nat.le_of_ble_eq_true rfl) fun w S => ?_
 refine tsr ?_
 refine r_op (o_box 0 rfl rfl rfl rfl) ?_
 refine r_op (o_box 1 rfl rfl rfl rfl) ?_
 refine rA ?_
 refine rA<|etr ?_
 refine r_op (o_lit0 2 (e := 3) (sz := 1) (zs := [.int .i64 (0)]) encI rfl rfl (by kernel_rfl) rfl) ?_
 refine rM ?_
 refine r_op (o_appendS 2 (e := 3) (sz := 1) (by' := 8) rfl (by kernel_rfl) rfl rfl rfl rfl (fun _ _ => ⟨_, rfl⟩) (by (simp; omega)) (by (simp; omega))) ?_
 refine rA<|r_end<|t_seq<|tsr ?_
 refine rF 0 ?_
 refine rL ?_
 refine rF 0 ?_
 refine rL ?_
 refine rB ?_
 refine rM ?_
 refine rG (fun g1 => ?_) (fun g1 => ?_)
 ·
  have g1' := of_decide_eq_false g1
  refine rF 1 ?_
  refine rG (fun _ => ?_) (ncf g1)
  refine rL ?_
  refine rG (fun _ => ?_) (ncf g1)
  refine r_op (o_len rfl rfl rfl) ?_
  refine rG (fun _ => ?_) (ncf g1)
  refine rF 1 ?_
  refine rG (fun _ => ?_) (ncf g1)
  refine rL ?_
  refine rG (fun _ => ?_) (ncf g1)
  refine r_op (o_len rfl rfl rfl) ?_
  refine rG (fun _ => ?_) (ncf g1)
  refine rB ?_
  refine r_op (o_pickF rfl rfl g1 rfl) ?_
  refine r_end ?_
  refine t_cond rfl (fun h2 => ?_) (fun h2 => ?_)
  ·
   have h2' := of_decide_eq_true h2
   refine tsr<|rM ?_
   refine rA ?_
   refine rA<|r_end ?_
   refine gt_as0b 6 2 7 rfl rfl rfl rfl ?_
   refine tk Tryz.func176 (.tmp rfl (.tmp rfl .nil)) ?_ (hL := ⟨eqR ?_, trivial⟩) <;> (try clear ih0)
   all_goals ((exfalso; have e9 := hv (by omega); omega))
  ·
   have h2' := of_decide_eq_false h2
   refine t_skip<|t_seq<|tsr<|rA<|r_end<|t_block ?_
   refine t_loopL (fun (m, q) => ⟨[(3, some (.c (.ptr 0 0))), (4, some (.c (.ptr 1 0))), (8, some (.c (.own 2))), (9, some (.c (.t none (.v (.int .i64 ((m : Int)))))))], [(0, some (.box [.t none (.v (.int .i64 (r))), .t none (.sl 1 encI (ts))])), (1, some (.box [.t none (.v (.int .i64 (r2))), .t none (.sl 1 encI (vs))])), (2, some (.row none 3 true 1 encI (q)))], 3⟩ : Nat × List Int → St) (fun (m, q) => m ≤ ts.length ∧ q.length = 5 ∧ fitP b ((ts.zip vs).take m) = (q, true)) (fun (m, q) => ts.length - m) (0, b) ⟨⟨rfl, ⟨rfl, ⟨rfl, ⟨rfl, trivial⟩⟩⟩⟩, ⟨rfl, ⟨rfl, ⟨(eqR rfl), trivial⟩⟩⟩, rfl⟩ (by exact ⟨Nat.zero_le _, hb, rfl⟩) ?_
   rintro ⟨m, q⟩ hI ih0
   try dsimp only at hI ih0
   obtain ⟨i1, i2, i3⟩ := hI
   refine t_seq<|tsr<|rM ?_
   refine rF 1 ?_
   refine rL ?_
   refine r_op (o_len rfl rfl rfl) ?_
   refine rB<|r_end ?_
   refine t_cond rfl (fun h3 => ?_) (fun h3 => ?_)
   ·
    have h3' := of_decide_eq_true h3
    refine t_skip<|t_seq<|t_block<|tsr<|rF 1 ?_
    refine rL ?_
    refine rM ?_
    obtain ⟨z4, hz5, b6⟩ := at_get (xs := ts) (n := (m : Int)) (by omega) (by omega)
    refine r_op (o_index rfl (by kernel_rfl) rfl rfl b6 hz5) ?_
    refine r_op (o_load1 rfl (by kernel_rfl) rfl rfl) ?_
    refine rA<|r_end<|t_seq<|tsr ?_
    refine rM ?_
    refine rB<|r_end ?_
    refine t_cond rfl (fun h7 => ?_) (fun h7 => ?_)
    ·
     have h7' := of_decide_eq_true h7
     refine t_seq<|tsr<|rM ?_
     refine rB ?_
     refine rF 1 ?_
     refine rL ?_
     refine rM ?_
     obtain ⟨z8, hz9, b10⟩ := at_get (xs := vs) (n := (m : Int)) (by omega) (by omega)
     refine r_op (o_index rfl (by kernel_rfl) rfl rfl b10 hz9) ?_
     refine r_op (o_load1 rfl (by kernel_rfl) rfl rfl) ?_
     refine rB<|r_end ?_
     refine t_cond rfl (fun h11 => ?_) (fun h11 => ?_)
     ·
      have h11' := of_decide_eq_true h11
      refine tsr<|rM ?_
      refine rA ?_
      refine rA<|r_end ?_
      refine gt_as0b 6 2 7 rfl rfl rfl rfl ?_
      refine tk Tryz.func176 (.tmp rfl (.tmp rfl .nil)) ?_ (hL := ⟨eqR ?_, trivial⟩) <;> (try clear ih0)
      all_goals (first | (exfalso; have e9 := hv (by omega); omega) | (have e : fitF (r, ts) (r2, vs) b = _ := (by exact fitF_yes (by omega) (fit_bad i3 (zip_at hz5 hz9 rfl rfl) (fs_neg_bad (by omega) (by (have o1 := ht _ (List.mem_of_getElem? hz5); have o2 : IntKind.i64.wrap (-1 - z4) = -1 - z4 := wr64 (by omega) (by omega); omega)))))); (rw [e]; done))
     ·
      have h11' := of_decide_eq_false h11
      refine t_skip<|t_exit rfl<|t_region<|rM ?_
      refine rB ?_
      refine rA<|r_end ?_
      refine t_le ?_ (ih0 (m + 1, q) (by (try dsimp only); omega) (by (try dsimp only); exact ⟨by omega, (by exact i2), by (exact fit_more i3 (zip_at hz5 hz9 rfl rfl) (fs_neg (by omega) (by (have o1 := ht _ (List.mem_of_getElem? hz5); have o2 : IntKind.i64.wrap (-1 - z4) = -1 - z4 := wr64 (by omega) (by omega); omega))))⟩))
      exact ⟨⟨rfl, ⟨rfl, ⟨rfl, ⟨(eqI (wr64 (by omega) (by omega))), trivial⟩⟩⟩⟩, ⟨rfl, ⟨rfl, ⟨rfl, trivial⟩⟩⟩, rfl⟩
    ·
     have h7' := of_decide_eq_false h7
     refine t_skip<|t_seq<|t_seq ?_
     refine t_draw (fun _ => true) (by kernel_rfl) ?_
     refine dT 0 rfl pM ?_
     refine dT 1 rfl pM ?_
     obtain ⟨z12, hz13, b14⟩ := at_get (xs := q) (n := z4) (by omega) (by (have o1 := ht _ (List.mem_of_getElem? (by assumption)); omega))
     refine dT 2 rfl (p_indexo (by kernel_rfl) rfl rfl rfl b14 (at_lt b14 hz13)) ?_
     refine dT 3 rfl (p_load1o (by kernel_rfl) rfl rfl rfl hz13) ?_
     refine dO 4 rfl (o_call 3 3 false (en Tryz.func134) (c_spec_l11None ) rfl .nil rfl rfl rfl) ?_
     refine dT 5 rfl pB ?_
     refine dT 6 rfl pM ?_
     refine dH 7 rfl (fun _ => pM) (fun g15 => ?_) (fun g15 => ?_)
     ·
      have g15' := of_decide_eq_true g15
      refine dH 8 rfl (fun _ => pM) (fun _ => ?_) (nc g15)
      refine dH 9 rfl (fun _ => p_indexo (by kernel_rfl) rfl rfl rfl b14 (at_lt b14 hz13)) (fun _ => ?_) (nc g15)
      refine dH 10 rfl (fun _ => p_load1o (by kernel_rfl) rfl rfl rfl hz13) (fun _ => ?_) (nc g15)
      refine dH 11 rfl (fun _ => pF 1) (fun _ => ?_) (nc g15)
      refine dH 12 rfl (fun _ => pL) (fun _ => ?_) (nc g15)
      refine dH 13 rfl (fun _ => pM) (fun _ => ?_) (nc g15)
      obtain ⟨z16, hz17, b18⟩ := at_get (xs := vs) (n := (m : Int)) (by omega) (by omega)
      refine dH 14 rfl (fun _ => p_index (by kernel_rfl) rfl rfl b18 hz17) (fun _ => ?_) (nc g15)
      refine dH 15 rfl (fun _ => p_load1 (by kernel_rfl) rfl rfl) (fun _ => ?_) (nc g15)
      refine dH 16 rfl (fun _ => pB) (fun _ => ?_) (nc g15)
      refine dT 17 rfl (p_pickT rfl g15 rfl) ?_
      refine d_end (by kernel_rfl) ?_
      refine t_cond rfl (fun h19 => ?_) (fun h19 => ?_)
      ·
       have h19' := of_decide_eq_true h19
       refine tsr<|rM ?_
       refine rA ?_
       refine rA<|r_end ?_
       refine gt_as0b 6 2 7 rfl rfl rfl rfl ?_
       refine tk Tryz.func176 (.tmp rfl (.tmp rfl .nil)) ?_ (hL := ⟨eqR ?_, trivial⟩) <;> (try clear ih0)
       all_goals (first | (exfalso; have e9 := hv (by omega); omega) | (have e : fitF (r, ts) (r2, vs) b = _ := (by exact fitF_yes (by omega) (fit_bad i3 (zip_at hz5 hz17 rfl rfl) (fs_bad (by omega) hz13 (by omega) (by omega))))); (rw [e]; done))
      ·
       have h19' := of_decide_eq_false h19
       refine t_skip<|t_region<|rM ?_
       refine rM ?_
       refine rF 1 ?_
       refine rL ?_
       refine rM ?_
       refine r_op (o_index rfl (by kernel_rfl) rfl rfl b18 hz17) ?_
       refine r_op (o_load1 rfl (by kernel_rfl) rfl rfl) ?_
       refine r_op (o_indexo rfl (by kernel_rfl) rfl rfl rfl b14 (at_lt b14 hz13)) ?_
       refine r_op (o_storeo (z16) (n := 1) (by kernel_rfl) rfl rfl hz13 rfl rfl rfl rfl (.cons .sc .nil) rfl (fun j h1 h2 => by (simp at h1 h2; omega))) ?_
       refine r_end<|t_endblock<|t_region<|rM ?_
       refine rB ?_
       refine rA<|r_end ?_
       refine t_le ?_ (ih0 (m + 1, (q).set (z4).toNat (z16)) (by (try dsimp only); omega) (by (try dsimp only); exact ⟨by omega, (by (rw [List.length_set]; exact i2)), by (exact fit_more i3 (zip_at hz5 hz17 rfl rfl) (fs_set (by omega) hz13 (by omega)))⟩))
       exact ⟨⟨rfl, ⟨rfl, ⟨rfl, ⟨(eqI (wr64 (by omega) (by omega))), trivial⟩⟩⟩⟩, ⟨rfl, ⟨rfl, ⟨rfl, trivial⟩⟩⟩, rfl⟩
     ·
      have g15' := of_decide_eq_false g15
      refine dG 8 (ncf g15) (fun _ => ?_)
      refine dG 9 (ncf g15) (fun _ => ?_)
      refine dG 10 (ncf g15) (fun _ => ?_)
      refine dG 11 (ncf g15) (fun _ => ?_)
      refine dG 12 (ncf g15) (fun _ => ?_)
      refine dG 13 (ncf g15) (fun _ => ?_)
      refine dG 14 (ncf g15) (fun _ => ?_)
      refine dG 15 (ncf g15) (fun _ => ?_)
      refine dG 16 (ncf g15) (fun _ => ?_)
      refine dT 17 rfl (p_pickF rfl g15 rfl) ?_
      refine d_end (by kernel_rfl) ?_
      refine t_cond rfl (ncf rfl) (fun _ => ?_)
      refine t_skip<|t_region<|rM ?_
      refine rM ?_
      refine rF 1 ?_
      refine rL ?_
      refine rM ?_
      obtain ⟨z20, hz21, b22⟩ := at_get (xs := vs) (n := (m : Int)) (by omega) (by omega)
      refine r_op (o_index rfl (by kernel_rfl) rfl rfl b22 hz21) ?_
      refine r_op (o_load1 rfl (by kernel_rfl) rfl rfl) ?_
      refine r_op (o_indexo rfl (by kernel_rfl) rfl rfl rfl b14 (at_lt b14 hz13)) ?_
      refine r_op (o_storeo (z20) (n := 1) (by kernel_rfl) rfl rfl hz13 rfl rfl rfl rfl (.cons .sc .nil) rfl (fun j h1 h2 => by (simp at h1 h2; omega))) ?_
      refine r_end<|t_endblock<|t_region<|rM ?_
      refine rB ?_
      refine rA<|r_end ?_
      refine t_le ?_ (ih0 (m + 1, (q).set (z4).toNat (z20)) (by (try dsimp only); omega) (by (try dsimp only); exact ⟨by omega, (by (rw [List.length_set]; exact i2)), by (exact fit_more i3 (zip_at hz5 hz21 rfl rfl) (fs_set (by omega) hz13 (by omega)))⟩))
      exact ⟨⟨rfl, ⟨rfl, ⟨rfl, ⟨(eqI (wr64 (by omega) (by omega))), trivial⟩⟩⟩⟩, ⟨rfl, ⟨rfl, ⟨rfl, trivial⟩⟩⟩, rfl⟩
   ·
    have h3' := of_decide_eq_false h3
    refine t_exit rfl<|tsr<|rM ?_
    refine rA ?_
    refine rA<|r_end ?_
    refine gt_as0b 6 2 7 rfl rfl rfl rfl ?_
    refine tk Tryz.func176 (.tmp rfl (.tmp rfl .nil)) ?_ (hL := ⟨eqR ?_, trivial⟩) <;> (try clear ih0)
    all_goals (first | (exfalso; have e9 := hv (by omega); omega) | (have e : fitF (r, ts) (r2, vs) b = _ := (by exact fitF_yes (by omega) (fit_end i3 (by omega)))); (rw [e]; done))
 ·
  have g1' := of_decide_eq_true g1
  refine rG (nc g1) (fun _ => ?_)
  refine rG (nc g1) (fun _ => ?_)
  refine rG (nc g1) (fun _ => ?_)
  refine rG (nc g1) (fun _ => ?_)
  refine rG (nc g1) (fun _ => ?_)
  refine rG (nc g1) (fun _ => ?_)
  refine r_op (o_pickT rfl rfl g1 rfl) ?_
  refine r_end ?_
  refine t_cond rfl (fun _ => ?_) (nc rfl)
  refine tsr<|rM ?_
  refine rA ?_
  refine rA<|r_end ?_
  refine gt_as0b 6 2 7 rfl rfl rfl rfl ?_
  refine tk Tryz.func176 (.tmp rfl (.tmp rfl .nil)) ?_ (hL := ⟨eqR ?_, trivial⟩) <;> (try clear ih0)
  all_goals (first | (exfalso; have e9 := hv (by omega); omega) | (have e : fitF (r, ts) (r2, vs) b = _ := (by exact fitF_no (by omega))); first | (rw [e]; done) | (rw [e]; rfl))
theorem c_spec_l11Walk_n : ∀ (n : Nat) (rs : Rels) (fs l : Atoms) (k : Int) (b : List Int) (hf : fs.length ≤ 30) (hl : l.length ≤ 3) (hb : b.length = 5) (hv : ∀ a ∈ l, ∀ f ∈ fs, a.1 = f.1 → a.2.length = f.2.length) (ht : ∀ a ∈ l, (∀ t ∈ a.2, -10 ≤ t ∧ t ≤ 4) ∧ a.2.length ≤ 4611686018427387904) (hk : 0 ≤ k ∧ k ≤ l.length) (hn : l.length - k.toNat = n), Pu Tryz.prog 136 [.agg [.t none (.sl 3 (enS3 encS encI encB) (rs)), .t none (.sl 2 (enS2 encI (enSl 1 encI)) (fs))], .c (.t none (.sl 2 (enS2 encI (enSl 1 encI)) (l))), .c (.t none (.v (.int .i64 (k)))), .c (.t none (.sl 1 encI (b)))] [(0, some (.row none 29 true 1 (enSl 1 encI) (matchL fs (l.drop k.toNat) b)))] 1 (.c (.own 0)) := by
 refine rec_on fun n ih => ?_
 intro rs fs l k b hf hl hb hv ht hk hn
 have rec_ : ∀ (rs : Rels) (fs l : Atoms) (k : Int) (b : List Int) (hdec : l.length - k.toNat < n) (hf : fs.length ≤ 30) (hl : l.length ≤ 3) (hb : b.length = 5) (hv : ∀ a ∈ l, ∀ f ∈ fs, a.1 = f.1 → a.2.length = f.2.length) (ht : ∀ a ∈ l, (∀ t ∈ a.2, -10 ≤ t ∧ t ≤ 4) ∧ a.2.length ≤ 4611686018427387904) (hk : 0 ≤ k ∧ k ≤ l.length), Pu Tryz.prog 136 [.agg [.t none (.sl 3 (enS3 encS encI encB) (rs)), .t none (.sl 2 (enS2 encI (enSl 1 encI)) (fs))], .c (.t none (.sl 2 (enS2 encI (enSl 1 encI)) (l))), .c (.t none (.v (.int .i64 (k)))), .c (.t none (.sl 1 encI (b)))] [(0, some (.row none 29 true 1 (enSl 1 encI) (matchL fs (l.drop k.toNat) b)))] 1 (.c (.own 0)) := fun rs fs l k b hdec hf hl hb hv ht hk => ih _ hdec rs fs l k b hf hl hb hv ht hk rfl
 refine pu_enter Tryz.func136 rfl (Nat.le_of_ble_eq_true rfl) fun w S => ?_
 refine tsr ?_
 refine r_op (o_box 0 rfl rfl rfl rfl) ?_
 refine rA<|r_end<|t_seq<|tsr ?_
 refine rM ?_
 refine rM ?_
 refine r_op (o_len rfl rfl rfl) ?_
 refine rB<|r_end ?_
 refine t_cond rfl (fun h1 => ?_) (fun h1 => ?_)
 ·
  have h1' := of_decide_eq_true h1
  refine tsr ?_
  refine r_op (o_lit0 1 (e := 3) (sz := 1) (zs := [.int .i64 (0)]) encI rfl rfl (by kernel_rfl) rfl) ?_
  refine rM ?_
  refine r_op (o_appendS 1 (e := 3) (sz := 1) (by' := 8) rfl (by kernel_rfl) rfl rfl rfl rfl (fun _ _ => ⟨_, rfl⟩) (by (simp; omega)) (by (simp; omega))) ?_
  refine r_op (o_lit2 2 (e := 29) (sz := 1) (zs := [.slice none 0 0]) (enc := (enSl 1 encI)) (([]) ++ b) rfl rfl (by kernel_rfl) rfl rfl rfl rfl rfl rfl (.take (.own rfl) rfl .nil) rfl) ?_
  refine rA<|r_end ?_
  refine gt_as0 8 2 rfl rfl ?_
  refine tk Tryz.func136 (.tmp rfl .nil) ?_ (hL := ⟨eqR ?_, trivial⟩) <;> (try clear ih0)
  all_goals first | rfl | ((exact (walk_nil (by assumption)).symm))
 ·
  have h1' := of_decide_eq_false h1
  refine t_skip<|tsr ?_
  refine r_op (o_lit0 1 (e := 29) (sz := 1) (zs := [.slice none 0 0]) (enSl 1 encI) rfl rfl (by kernel_rfl) rfl) ?_
  refine rA<|r_end<|t_seq<|tsr ?_
  refine rA<|r_end<|t_block ?_
  refine t_loopL (fun m => ⟨[(1, some (.c (.t none (.sl 2 (enS2 encI (enSl 1 encI)) (l))))), (2, some (.c (.t none (.v (.int .i64 (k)))))), (3, some (.c (.t none (.sl 1 encI (b))))), (4, some (.c (.ptr 0 0))), (8, some (.c (.t none (.v (.slice none 0 0))))), (9, some (.c (.own 1))), (10, some (.c (.t none (.v (.int .i64 ((m : Int)))))))], [(0, some (.box [.t none (.sl 3 (enS3 encS encI encB) (rs)), .t none (.sl 2 (enS2 encI (enSl 1 encI)) (fs))])), (1, some (.row none 29 true 1 (enSl 1 encI) (matchM fs (l.drop k.toNat) b m)))], 2⟩ : Nat → St) (fun m => m ≤ fs.length) (fun m => fs.length - m) 0 ⟨⟨rfl, ⟨rfl, ⟨rfl, ⟨rfl, ⟨rfl, ⟨rfl, ⟨rfl, trivial⟩⟩⟩⟩⟩⟩⟩, ⟨rfl, ⟨(eqR (walk_z (by assumption) hk).symm), trivial⟩⟩, rfl⟩ (by exact Nat.zero_le _) ?_
  rintro m hI ih0
  try dsimp only at hI ih0
  have i1 := hI
  refine t_seq<|tsr<|rM ?_
  refine rF 1 ?_
  refine rL ?_
  refine r_op (o_len rfl rfl rfl) ?_
  refine rB<|r_end ?_
  refine t_cond rfl (fun h2 => ?_) (fun h2 => ?_)
  ·
   have h2' := of_decide_eq_true h2
   refine t_skip<|t_seq<|t_block<|t_seq ?_
   refine t_draw (fun _ => true) (by kernel_rfl) ?_
   refine dT 0 rfl pM ?_
   refine dT 1 rfl pM ?_
   obtain ⟨z3, hz4, b5⟩ := at_get (xs := l) (n := k) (by omega) (by omega)
   refine dT 2 rfl (p_index (by kernel_rfl) rfl rfl b5 hz4) ?_
   refine dT 3 rfl (p_loadA (n := 2) (by kernel_rfl) (by kernel_rfl) rfl rfl) ?_
   refine dT 4 rfl (pF 1) ?_
   refine dT 5 rfl pL ?_
   refine dT 6 rfl pM ?_
   obtain ⟨z6, hz7, b8⟩ := at_get (xs := fs) (n := (m : Int)) (by omega) (by omega)
   refine dT 7 rfl (p_index (by kernel_rfl) rfl rfl b8 hz7) ?_
   refine dT 8 rfl (p_loadA (n := 2) (by kernel_rfl) (by kernel_rfl) rfl rfl) ?_
   refine dT 9 rfl pM ?_
   refine dO 10 rfl (o_call 2 3 false (en Tryz.func176) (c_spec_l11Fit (b) (z3.1) (z3.2) (z6.1) (z6.2) (by omega) (by exact (ht _ (List.mem_of_getElem? (by assumption))).2) (by exact (ht _ (List.mem_of_getElem? (by assumption))).1) (by exact hv _ (List.mem_of_getElem? (by assumption)) _ (List.mem_of_getElem? (by assumption)))) rfl (.cons rfl (.agg (.cons .t0 (.cons .t0 .nil))) (.cons rfl (.agg (.cons .t0 (.cons .t0 .nil))) (.cons rfl (.c .t0) .nil))) rfl rfl rfl) ?_
   refine dT 11 rfl pM ?_
   refine dT 12 rfl (p_extract rfl rfl rfl) ?_
   refine dT 13 rfl (p_extract rfl rfl rfl) ?_
   refine dT 14 rfl pA ?_
   refine dT 15 rfl pA ?_
   refine d_end (by kernel_rfl) ?_
   refine tsr<|rM<|r_end ?_
   refine t_cond rfl (fun h9 => ?_) (fun h9 => ?_)
   ·
    have h9' := h9
    refine t_region<|rM ?_
    refine rC 2 ?_
    refine rM ?_
    refine rM ?_
    refine rB ?_
    refine rM ?_
    refine r_op (o_call 3 4 false (en Tryz.func136) (rec_ (rs) (fs) (l) (IntKind.i64.wrap (k + 1)) ((fitF ((z3.1), (z3.2)) ((z6.1), (z6.2)) (b)).1) (by (rw [wr64 (by omega) (by omega)]; omega)) (by omega) (by omega) (by exact (fitF_len _ _ _).trans hb) (by omega) (by omega) (by (rw [wr64 (by omega) (by omega)]; omega))) rfl (.cons rfl (.agg (.cons .t0 (.cons .t0 .nil))) (.cons rfl (.c .t0) (.cons rfl (.c .t0) (.cons rfl (.c (.own rfl)) .nil)))) rfl rfl rfl) ?_
    refine r_op (o_appendD 1 (e := 29) (sz := 1) (by' := 24) rfl (by kernel_rfl) rfl rfl rfl rfl rfl rfl (by (refine Nat.le_trans (Nat.mul_le_mul_right _ (room_w hf hl (by assumption) hk (by simp only [List.length_drop]; omega))) (by decide))) (by exact Nat.le_trans (room_w hf hl (by assumption) hk (by simp only [List.length_drop]; omega)) (by decide))) ?_
    refine rA<|r_end<|t_endblock<|t_region ?_
    refine rM ?_
    refine rB ?_
    refine rA<|r_end ?_
    refine t_le ?_ (ih0 (m + 1) (by (try dsimp only); omega) (by (try dsimp only); omega))
    exact ⟨⟨rfl, ⟨rfl, ⟨rfl, ⟨rfl, ⟨rfl, ⟨rfl, ⟨(eqI (wr64 (by omega) (by omega))), trivial⟩⟩⟩⟩⟩⟩⟩, ⟨rfl, ⟨(eqR (by exact walk_yes hz4 hz7 rfl (by assumption) (by rw [wr64 (by omega) (by omega)]; omega) rfl)), trivial⟩⟩, rfl⟩
   ·
    have h9' := h9
    refine t_skip<|t_endblock<|t_region<|rM ?_
    refine rB ?_
    refine rA<|r_end ?_
    refine t_le ?_ (ih0 (m + 1) (by (try dsimp only); omega) (by (try dsimp only); omega))
    exact ⟨⟨rfl, ⟨rfl, ⟨rfl, ⟨rfl, ⟨rfl, ⟨rfl, ⟨(eqI (wr64 (by omega) (by omega))), trivial⟩⟩⟩⟩⟩⟩⟩, ⟨rfl, ⟨(eqR (by exact walk_no hz4 hz7 rfl (by assumption))), trivial⟩⟩, rfl⟩
  ·
   have h2' := of_decide_eq_false h2
   refine t_exit rfl<|tsr<|rM ?_
   refine rA<|r_end ?_
   refine gt_as0 8 1 rfl rfl ?_
   refine tk Tryz.func136 (.tmp rfl .nil) ?_ (hL := ⟨eqR ?_, trivial⟩) <;> (try clear ih0)
   all_goals first | rfl | ((exact matchM_end (drop_ne (by assumption) hk) (by omega)))
theorem c_spec_l11Walk (rs : Rels) (fs l : Atoms) (k : Int) (b : List Int) (hf : fs.length ≤ 30) (hl : l.length ≤ 3) (hb : b.length = 5) (hv : ∀ a ∈ l, ∀ f ∈ fs, a.1 = f.1 → a.2.length = f.2.length) (ht : ∀ a ∈ l, (∀ t ∈ a.2, -10 ≤ t ∧ t ≤ 4) ∧ a.2.length ≤ 4611686018427387904) (hk : 0 ≤ k ∧ k ≤ l.length) : Pu Tryz.prog 136 [.agg [.t none (.sl 3 (enS3 encS encI encB) (rs)), .t none (.sl 2 (enS2 encI (enSl 1 encI)) (fs))], .c (.t none (.sl 2 (enS2 encI (enSl 1 encI)) (l))), .c (.t none (.v (.int .i64 (k)))), .c (.t none (.sl 1 encI (b)))] [(0, some (.row none 29 true 1 (enSl 1 encI) (matchL fs (l.drop k.toNat) b)))] 1 (.c (.own 0)) := c_spec_l11Walk_n _ rs fs l k b hf hl hb hv ht hk rfl
theorem c_spec_FindMatches (rs : Rels) (fs l : Atoms) (hrs : rs.length ≤ 4611686018427387904) (hfs : szS (fun (x : Int × (List (Int))) => (x.2).length) fs ≤ 1048576) (hll : szS (fun (x : Int × (List (Int))) => (x.2).length) l ≤ 1048576) (ho : ∀ z ∈ fs, ∀ x ∈ z.2, okI x) : Pu Tryz.prog 130 [.agg [.t none (.sl 3 (enS3 encS encI encB) (rs)), .t none (.sl 2 (enS2 encI (enSl 1 encI)) (fs))], .c (.t none (.sl 2 (enS2 encI (enSl 1 encI)) (l)))] [(1, some (.row none 29 true 1 (enSl 1 encI) (findL rs fs l)))] 2 (.c (.own 1)) := by
 refine pu_enter Tryz.func130 rfl (Nat.le_of_ble_eq_true rfl) fun w S => ?_
 refine tsr ?_
 refine r_op (o_box 0 rfl rfl rfl rfl) ?_
 refine rA<|etr ?_
 refine r_op (o_lit0 1 (e := 29) (sz := 1) (zs := [.slice none 0 0]) (enSl 1 encI) rfl rfl (by kernel_rfl) rfl) ?_
 refine rA<|r_end<|t_seq<|tsr ?_
 refine rC 2 ?_
 refine rM ?_
 refine r_op (o_call 2 2 false (en Tryz.func135) (c_spec_l11Ok (rs) (fs) (l) (by omega) (by omega) (by omega) (by omega)) rfl (.cons rfl (.agg (.cons .t0 (.cons .t0 .nil))) (.cons rfl (.c .t0) .nil)) rfl rfl rfl) ?_
 refine r_op (o_not rfl rfl) ?_
 refine r_end ?_
 refine t_cond rfl (fun h1 => ?_) (fun h1 => ?_)
 ·
  have h1' := (bnt h1)
  refine tsr<|rM ?_
  refine rA<|r_end ?_
  refine tk Tryz.func130 (.tmp rfl .nil) ?_ (hL := ⟨eqR ?_, trivial⟩) <;> (try clear ih0) <;> (try clear ih1)
  all_goals first | rfl | ((exact findL_no (by simp_all; done)))
 ·
  have h1' := (bnf h1)
  refine t_skip<|t_seq ?_
  refine t_draw (fun _ => true) (by kernel_rfl) ?_
  refine dT 0 rfl (pC 2) ?_
  refine dT 1 rfl pM ?_
  refine dO 2 rfl (o_call 2 3 false (en Tryz.func175) (c_spec_l11Blank ) rfl .nil rfl rfl rfl) ?_
  refine dO 3 rfl (o_call 3 4 false (en Tryz.func136) (c_spec_l11Walk (rs) (fs) (l) (0) (freeB) (by exact (mt_pre (by assumption)).1) (by exact (mt_pre (by assumption)).2.1) (by rfl) (by exact (mt_pre (by assumption)).2.2.1) (by exact (mt_pre (by assumption)).2.2.2) (by omega)) rfl (.cons rfl (.agg (.cons .t0 (.cons .t0 .nil))) (.cons rfl (.c .t0) (.cons rfl (.c .t0) (.cons rfl (.c (.own rfl)) .nil)))) rfl rfl rfl) ?_
  refine dT 4 rfl pA ?_
  refine d_end (by kernel_rfl) ?_
  refine t_seq<|tsr<|rA<|r_end<|t_block ?_
  refine gt_sum 3 rfl ?_
  refine t_loopL (fun (vs, m) => ⟨[(4, some (.c (.t none (.v (.slice none 0 0))))), (5, some (.c (.own 1))), (6, some (.c (.own 3))), (7, some (.c (.t none (.v (.int .i64 ((m : Int)))))))], [(0, some (.box [.t none (.sl 3 (enS3 encS encI encB) (rs)), .t none (.sl 2 (enS2 encI (enSl 1 encI)) (fs))])), (1, some (.row none 29 true 1 (enSl 1 encI) (dedL ((matchL fs l freeB).take m)))), (2, some (.row none 3 true 1 encI (freeB))), (3, some (.row none 29 true 1 (encK (enSl 1 encI)) (tkL vs (matchL fs l freeB))))], 4⟩ : List Value × Nat → St) (fun (vs, m) => vs.length = m ∧ m ≤ (matchL fs l freeB).length) (fun (vs, m) => (matchL fs l freeB).length - m) ([], 0) ⟨⟨rfl, ⟨rfl, ⟨rfl, ⟨rfl, trivial⟩⟩⟩⟩, ⟨rfl, ⟨rfl, ⟨rfl, ⟨rfl, trivial⟩⟩⟩⟩, rfl⟩ (by exact ⟨rfl, Nat.zero_le _⟩) ?_
  rintro ⟨vs, m⟩ hI ih0
  try dsimp only at hI ih0
  obtain ⟨i0, i1⟩ := hI; have mp := mt_pre (rs := rs) (fs := fs) (l := l) (by assumption); have dr := ded_room (m := m) mp.1 mp.2.1; have tl := tkL_len (vs := vs) (L := matchL fs l freeB) (by omega); have mm := matchL_most mp.1 mp.2.1 freeB
  refine t_seq<|tsr<|rM ?_
  refine rM ?_
  refine r_op (o_leno rfl rfl rfl rfl) ?_
  refine rB<|r_end ?_
  refine t_cond rfl (fun h2 => ?_) (fun h2 => ?_)
  ·
   have h2' := of_decide_eq_true h2
   refine t_skip<|t_seq<|t_block<|t_seq ?_
   obtain ⟨z3, hz4, b5⟩ := at_get (xs := matchL fs l freeB) (n := (m : Int)) (by omega) (by omega)
   refine gt_take0 4 3 rfl rfl (tkL_at (by omega) hz4) fun e6 v7 => ?_
   refine t_region<|rA<|r_end<|t_seq<|tsr ?_
   refine rA<|r_end<|t_block ?_
   refine t_loopL (fun n => ⟨[(4, some (.c (.t none (.v (.slice none 0 0))))), (5, some (.c (.own 1))), (6, some (.c (.own 3))), (7, some (.c (.t none (.v (.int .i64 ((m : Int))))))), (8, some (.c (.t none (.v (.bool (hasR ((dedL ((matchL fs l freeB).take m)).take n) z3)))))), (9, some (.c (.t none (.v (.int .i64 ((n : Int)))))))], [(0, some (.box [.t none (.sl 3 (enS3 encS encI encB) (rs)), .t none (.sl 2 (enS2 encI (enSl 1 encI)) (fs))])), (1, some (.row none 29 true 1 (enSl 1 encI) (dedL ((matchL fs l freeB).take m)))), (2, some (.row none 3 true 1 encI (freeB))), (3, some (.row none 29 true 1 (encK (enSl 1 encI)) ((tkL vs (matchL fs l freeB)).set (m : Int).toNat (.inl v7)))), (4, some (.row (some v7) e6 true 1 encI (z3)))], 5⟩ : Nat → St) (fun n => n ≤ (dedL ((matchL fs l freeB).take m)).length) (fun n => (dedL ((matchL fs l freeB).take m)).length - n) 0 ⟨⟨rfl, ⟨rfl, ⟨rfl, ⟨rfl, ⟨(eqBo hasR_zero.symm), ⟨rfl, trivial⟩⟩⟩⟩⟩⟩, ⟨rfl, ⟨rfl, ⟨rfl, ⟨rfl, ⟨rfl, trivial⟩⟩⟩⟩⟩, rfl⟩ (by exact Nat.zero_le _) ?_
   rintro n hI ih1
   try dsimp only at hI ih1
   have j1 := hI
   refine t_seq<|tsr<|rM ?_
   refine rM ?_
   refine r_op (o_leno rfl rfl rfl rfl) ?_
   refine rB<|r_end ?_
   refine t_cond rfl (fun h8 => ?_) (fun h8 => ?_)
   ·
    have h8' := of_decide_eq_true h8
    refine t_skip<|t_seq<|t_block ?_
    refine t_draw (fun _ => true) (by kernel_rfl) ?_
    refine dT 0 rfl pM ?_
    refine dT 1 rfl pM ?_
    refine dH 2 rfl (fun _ => pM) (fun g9 => ?_) (fun g9 => ?_)
    ·
     have g9' := g9
     refine dH 3 rfl (fun _ => pM) (fun _ => ?_) (ncf g9)
     obtain ⟨z10, hz11, b12⟩ := at_get (xs := dedL ((matchL fs l freeB).take m)) (n := (n : Int)) (by omega) (by omega)
     refine dH 4 rfl (fun _ => p_indexo (by kernel_rfl) rfl rfl rfl b12 (at_lt b12 hz11)) (fun _ => ?_) (ncf g9)
     refine dH 5 rfl (fun _ => p_load1o (by kernel_rfl) rfl rfl rfl hz11) (fun _ => ?_) (ncf g9)
     refine dH 6 rfl (fun _ => pM) (fun _ => ?_) (ncf g9)
     refine dH 7 rfl (fun _ => pM) (fun _ => ?_) (ncf g9)
     obtain ⟨z13, hz14, b15⟩ := at_get (xs := (tkL vs (matchL fs l freeB)).set (m : Int).toNat (.inl v7)) (n := (m : Int)) (by omega) (by (rw [List.length_set]; omega))
     refine dH 8 rfl (fun _ => p_indexo (by kernel_rfl) rfl rfl rfl b15 (at_lt b15 hz14)) (fun _ => ?_) (ncf g9)
     refine dH 9 rfl (fun _ => p_loadpin (k := 4) (o := 0) (by kernel_rfl) rfl rfl (tk_got (by omega) (by omega)) rfl) (fun _ => ?_) (ncf g9)
     refine d_onlyG 10 rfl rfl (by kernel_rfl) rfl rfl rfl (fun _ => (o_call 5 5 false (en Tryz.func133) (c_spec_l4Ints (z10) (z3) (by (have e5 := ded_five (List.mem_of_getElem? (by assumption)); omega)) (by (have e5 := matchL_five fs l freeB _ (List.mem_of_getElem? (by assumption)); have e6 : freeB.length = 5 := rfl; omega))) rfl (.cons rfl (.c .t1) (.cons rfl (.c (.own rfl)) .nil)) rfl rfl rfl)) (fun _ => ?_) (ncf g9)
     refine dH 11 rfl (fun _ => pB) (fun _ => ?_) (ncf g9)
     refine dT 12 rfl (p_pickF rfl g9 rfl) ?_
     refine dT 13 rfl pA ?_
     refine d_end (by kernel_rfl) ?_
     refine t_endblock<|t_region<|rM ?_
     refine rB ?_
     refine rA<|r_end ?_
     refine t_le ?_ (ih1 (n + 1) (by (try dsimp only); omega) (by (try dsimp only); omega))
     exact ⟨⟨rfl, ⟨rfl, ⟨rfl, ⟨rfl, ⟨(eqBo (by exact hasR_new (by assumption) hz11 rfl)), ⟨(eqI (wr64 (by omega) (by omega))), trivial⟩⟩⟩⟩⟩⟩, ⟨rfl, ⟨rfl, ⟨rfl, ⟨rfl, ⟨rfl, trivial⟩⟩⟩⟩⟩, rfl⟩
    ·
     have g9' := g9
     refine dG 3 (nc g9) (fun _ => ?_)
     refine dG 4 (nc g9) (fun _ => ?_)
     refine dG 5 (nc g9) (fun _ => ?_)
     refine dG 6 (nc g9) (fun _ => ?_)
     refine dG 7 (nc g9) (fun _ => ?_)
     refine dG 8 (nc g9) (fun _ => ?_)
     refine dG 9 (nc g9) (fun _ => ?_)
     refine dG 10 (nc g9) (fun _ => ?_)
     refine dG 11 (nc g9) (fun _ => ?_)
     refine dT 12 rfl (p_pickT rfl g9 rfl) ?_
     refine dT 13 rfl pA ?_
     refine d_end (by kernel_rfl) ?_
     refine t_endblock<|t_region<|rM ?_
     refine rB ?_
     refine rA<|r_end ?_
     refine t_le ?_ (ih1 (n + 1) (by (try dsimp only); omega) (by (try dsimp only); omega))
     exact ⟨⟨rfl, ⟨rfl, ⟨rfl, ⟨rfl, ⟨(eqBo (by exact hasR_more (by assumption))), ⟨(eqI (wr64 (by omega) (by omega))), trivial⟩⟩⟩⟩⟩⟩, ⟨rfl, ⟨rfl, ⟨rfl, ⟨rfl, ⟨rfl, trivial⟩⟩⟩⟩⟩, rfl⟩
   ·
    have h8' := of_decide_eq_false h8
    refine t_exit rfl<|tsr<|rM ?_
    refine r_op (o_not rfl rfl) ?_
    refine r_end ?_
    refine t_cond rfl (fun h16 => ?_) (fun h16 => ?_)
    ·
     have h16' := (bnt h16)
     refine t_region<|rM ?_
     refine rM ?_
     refine rM ?_
     obtain ⟨z17, hz18, b19⟩ := at_get (xs := (tkL vs (matchL fs l freeB)).set (m : Int).toNat (.inl v7)) (n := (m : Int)) (by omega) (by (rw [List.length_set]; omega))
     refine r_op (o_indexo rfl (by kernel_rfl) rfl rfl rfl b19 (at_lt b19 hz18)) ?_
     refine r_op (o_loadpin rfl (k := 4) (o := 0) (by kernel_rfl) rfl rfl (tk_got (by omega) (by omega)) rfl) ?_
     refine r_op (o_litS 5 (e := 29) (sz := 1) (zs := [.slice none 0 0]) rfl rfl (by kernel_rfl) rfl rfl rfl rfl rfl) ?_
     refine r_op (o_append 1 (e := 29) (sz := 1) (by' := 24) (z3) rfl (by kernel_rfl) rfl rfl rfl rfl rfl rfl (.take (.own rfl) rfl .nil) rfl (by omega) (by omega)) ?_
     refine rA<|r_end<|t_endblock<|t_region ?_
     refine rM ?_
     refine rB ?_
     refine rA<|r_end ?_
     have he := hasR_end (q := dedL ((matchL fs l freeB).take m)) (x := z3) (k := n) (by omega)
     refine t_le ?_ (ih0 (vs ++ [v7], m + 1) (by (try dsimp only); omega) (by (try dsimp only); exact ⟨by simp; omega, by omega⟩))
     exact ⟨⟨rfl, ⟨rfl, ⟨rfl, ⟨(eqI (wr64 (by omega) (by omega))), trivial⟩⟩⟩⟩, ⟨rfl, ⟨(eqR (by exact (ded_more hz4 rfl (he.symm.trans (by assumption))).symm)), ⟨rfl, ⟨(eqR (tkL_set i0 (by omega))), trivial⟩⟩⟩⟩, rfl⟩
    ·
     have h16' := (bnf h16)
     refine t_skip<|t_endblock<|t_region<|rM ?_
     refine rB ?_
     refine rA<|r_end ?_
     have he := hasR_end (q := dedL ((matchL fs l freeB).take m)) (x := z3) (k := n) (by omega)
     refine t_le ?_ (ih0 (vs ++ [v7], m + 1) (by (try dsimp only); omega) (by (try dsimp only); exact ⟨by simp; omega, by omega⟩))
     exact ⟨⟨rfl, ⟨rfl, ⟨rfl, ⟨(eqI (wr64 (by omega) (by omega))), trivial⟩⟩⟩⟩, ⟨rfl, ⟨(eqR (by exact (ded_same hz4 rfl (he.symm.trans (by assumption))).symm)), ⟨rfl, ⟨(eqR (tkL_set i0 (by omega))), trivial⟩⟩⟩⟩, rfl⟩
  ·
   have h2' := of_decide_eq_false h2
   refine t_exit rfl<|tsr<|rM ?_
   refine rA<|r_end ?_
   refine tk Tryz.func130 (.tmp rfl .nil) ?_ (hL := ⟨eqR ?_, trivial⟩) <;> (try clear ih0) <;> (try clear ih1)
   all_goals first | rfl | ((exact findL_yes (by assumption) (by omega)))
def ob_c_spec_Instantiate : Option (List Int) → List (Nat × Option Ob)
 | none => []
 | some q => [(3, some (.row none 3 true 1 encI (q)))]
def res_c_spec_Instantiate (r : Int) (ts : List Int) (b : List Int) : Option (List Int) → AV
 | none => .tup [(true, [.t none (.v (.int .i64 (0))), .t none (.v (.slice none 0 0))]), (false, [.t none (.v (.bool (false)))])]
 | some q => .tup [(true, [.t none (.v (.int .i64 (r))), .own 3]), (false, [.t none (.v (.bool (true)))])]
theorem c_spec_Instantiate (r : Int) (ts : List Int) (b : List Int) (hl : ts.length ≤ 1048576) (ho : ∀ x ∈ ts, okI x) (hob : ∀ x ∈ b, okI x) (mo : Option (List Int)) (hm : instV b ts = mo) : Pu Tryz.prog 48 [.agg [.t none (.v (.int .i64 (r))), .t none (.sl 1 encI (ts))], .c (.t none (.sl 1 encI (b)))] (ob_c_spec_Instantiate mo) 4 (res_c_spec_Instantiate r ts b mo) := by
 refine pu_enter Tryz.func48 rfl (Nat.le_of_ble_eq_true rfl) fun w S => ?_
 refine tsr ?_
 refine r_op (o_box 0 rfl rfl rfl rfl) ?_
 refine r_op (o_alloc 1 (zs := [.int .i64 (0), .slice none 0 0]) rfl rfl (by kernel_rfl) rfl) ?_
 refine rA<|etr ?_
 refine rF 0 ?_
 refine rL ?_
 refine r_op (o_build rfl (pl := [(0, 1), (1, 1)]) (zs := [.int .i64 (0), .slice none 0 0]) (by kernel_rfl) (by kernel_rfl) rfl rfl rfl) ?_
 refine r_op (o_alloc 2 (zs := [.int .i64 (0), .slice none 0 0]) rfl rfl (by kernel_rfl) rfl) ?_
 refine rS 2<|r_end<|t_seq<|tsr ?_
 refine rA<|r_end<|t_block ?_
 refine gt_nilb 3 (b := 2) (o := 1) (et := 3) (sz := 1) true encI rfl rfl rfl ?_
 refine t_loopL (fun (m, acc) => ⟨[(1, some (.c (.t none (.sl 1 encI (b))))), (2, some (.c (.ptr 0 0))), (4, some (.c (.ptr 1 0))), (6, some (.c (.ptr 2 0))), (7, some (.c (.t none (.v (.int .i64 ((m : Int)))))))], [(0, some (.box [.t none (.v (.int .i64 (r))), .t none (.sl 1 encI (ts))])), (1, some (.box [.t none (.v (.int .i64 (0))), .t none (.v (.slice none 0 0))])), (2, some (.box [.t none (.v (.int .i64 (r))), .own 3])), (3, some (.row none 3 true 1 encI (acc)))], 4⟩ : Nat × List Int → St) (fun (m, acc) => m ≤ ts.length ∧ instV b (ts.take m) = some acc) (fun (m, acc) => ts.length - m) (0, []) ⟨⟨rfl, ⟨rfl, ⟨rfl, ⟨rfl, ⟨rfl, trivial⟩⟩⟩⟩⟩, ⟨rfl, ⟨rfl, ⟨rfl, ⟨rfl, trivial⟩⟩⟩⟩, rfl⟩ (by exact ⟨Nat.zero_le _, rfl⟩) ?_
 rintro ⟨m, acc⟩ hI ih0
 try dsimp only at hI ih0
 obtain ⟨i1, i2⟩ := hI
 refine t_seq<|tsr<|rM ?_
 refine rF 1 ?_
 refine rL ?_
 refine r_op (o_len rfl rfl rfl) ?_
 refine rB<|r_end ?_
 refine t_cond rfl (fun h1 => ?_) (fun h1 => ?_)
 ·
  have h1' := of_decide_eq_true h1
  refine t_skip<|t_seq<|t_block<|tsr<|rF 1 ?_
  refine rL ?_
  refine rM ?_
  obtain ⟨z2, hz3, b4⟩ := at_get (xs := ts) (n := (m : Int)) (by omega) (by omega)
  refine r_op (o_index rfl (by kernel_rfl) rfl rfl b4 hz3) ?_
  refine r_op (o_load1 rfl (by kernel_rfl) rfl rfl) ?_
  refine rB ?_
  refine rA<|r_end<|t_seq<|tsr ?_
  refine rF 1 ?_
  refine rL ?_
  refine rM ?_
  refine r_op (o_index rfl (by kernel_rfl) rfl rfl b4 hz3) ?_
  refine r_op (o_load1 rfl (by kernel_rfl) rfl rfl) ?_
  refine rB<|r_end ?_
  refine t_cond rfl (fun h5 => ?_) (fun h5 => ?_)
  ·
   have h5' := of_decide_eq_true h5
   refine t_seq<|tsr<|rF 1 ?_
   refine rL ?_
   refine rM ?_
   refine r_op (o_index rfl (by kernel_rfl) rfl rfl b4 hz3) ?_
   refine r_op (o_load1 rfl (by kernel_rfl) rfl rfl) ?_
   refine rM ?_
   refine r_op (o_len rfl rfl rfl) ?_
   refine rB<|r_end ?_
   refine t_cond rfl (fun h6 => ?_) (fun h6 => ?_)
   ·
    have h6' := of_decide_eq_true h6
    refine tsr ?_
    refine r_op (o_build rfl (pl := [(0, 1), (1, 1)]) (zs := [.int .i64 (0), .slice none 0 0]) (by kernel_rfl) (by kernel_rfl) rfl rfl rfl) ?_
    refine rS 2 ?_
    refine rA<|r_end ?_
    refine t_ret Tryz.func48 (.cells (n := 2) (by kernel_rfl) (by kernel_rfl) rfl rfl rfl (.tmp rfl .nil)) rfl fun E S w u hI hd => ?_
    obtain rfl : mo = none := by rw [← hm]; exact inst_none i2 (by assumption) rfl (inst_far (by assumption) (by assumption))
    refine post_mk hI hd ?_ trivial rfl rfl rfl <;> clear hI hd <;> (try clear ih0)
    all_goals (rfl)
   ·
    have h6' := of_decide_eq_false h6
    refine t_skip<|t_region<|rM ?_
    refine rF 1 ?_
    refine rL ?_
    refine rM ?_
    refine r_op (o_index rfl (by kernel_rfl) rfl rfl b4 hz3) ?_
    refine r_op (o_load1 rfl (by kernel_rfl) rfl rfl) ?_
    obtain ⟨z7, hz8, b9⟩ := at_get (xs := b) (n := z2) (by omega) (by omega)
    refine r_op (o_index rfl (by kernel_rfl) rfl rfl b9 hz8) ?_
    refine r_op (o_load1 rfl (by kernel_rfl) rfl rfl) ?_
    refine rA<|r_end<|t_seq<|tsr ?_
    refine rM ?_
    refine r_op (o_call 4 4 false (en Tryz.func103) (c_spec_IsValidValue (z7) (by exact (hob _ (List.mem_of_getElem? (by assumption))).1) (by exact (hob _ (List.mem_of_getElem? (by assumption))).2)) rfl (.cons rfl (.c .t0) .nil) rfl rfl rfl) ?_
    refine r_op (o_not rfl rfl) ?_
    refine rM ?_
    refine rG (fun g10 => ?_) (fun g10 => ?_)
    ·
     have g10' := of_decide_eq_true (bnf g10)
     refine rF 1 ?_
     refine rG (fun _ => ?_) (ncf g10)
     refine rL ?_
     refine rG (fun _ => ?_) (ncf g10)
     refine rM ?_
     refine rG (fun _ => ?_) (ncf g10)
     refine r_op (o_index rfl (by kernel_rfl) rfl rfl b4 hz3) ?_
     refine rG (fun _ => ?_) (ncf g10)
     refine r_op (o_load1 rfl (by kernel_rfl) rfl rfl) ?_
     refine rG (fun _ => ?_) (ncf g10)
     refine rB ?_
     refine rG (fun _ => ?_) (ncf g10)
     refine rM ?_
     refine rG (fun g11 => ?_) (fun g11 => ?_)
     ·
      have g11' := of_decide_eq_true g11
      refine rM ?_
      refine rG (fun _ => ?_) (nc g11)
      refine rB ?_
      refine rG (fun _ => ?_) (ncf g10)
      refine r_op (o_pickT rfl rfl g11 rfl) ?_
      refine r_op (o_pickF rfl rfl g10 rfl) ?_
      refine r_end ?_
      refine t_cond rfl (fun h12 => ?_) (fun h12 => ?_)
      ·
       have h12' := of_decide_eq_true h12
       refine tsr ?_
       refine r_op (o_build rfl (pl := [(0, 1), (1, 1)]) (zs := [.int .i64 (0), .slice none 0 0]) (by kernel_rfl) (by kernel_rfl) rfl rfl rfl) ?_
       refine rS 2 ?_
       refine rA<|r_end ?_
       refine t_ret Tryz.func48 (.cells (n := 2) (by kernel_rfl) (by kernel_rfl) rfl rfl rfl (.tmp rfl .nil)) rfl fun E S w u hI hd => ?_
       obtain rfl : mo = none := by exfalso; have e := ho _ (List.mem_of_getElem? (l := ts) (by assumption)); unfold okI at e; simp only [IntKind.wrap_i64] at *; omega
       refine post_mk hI hd ?_ trivial rfl rfl rfl <;> clear hI hd <;> (try clear ih0)
       all_goals (rfl)
      ·
       have h12' := of_decide_eq_false h12
       refine t_skip<|t_region<|rF 1 ?_
       refine rL ?_
       refine rM ?_
       refine r_op (o_litS 4 (e := 3) (sz := 1) (zs := [.int .i64 (0)]) rfl rfl (by kernel_rfl) rfl rfl rfl rfl rfl) ?_
       refine r_op (o_append 3 (e := 3) (sz := 1) (by' := 8) (z7) rfl (by kernel_rfl) rfl rfl rfl rfl rfl rfl (.cons .sc .nil) rfl (by omega) (by omega)) ?_
       refine rF 1 ?_
       refine rS 1<|r_end<|t_endblock<|t_region ?_
       refine rM ?_
       refine rB ?_
       refine rA<|r_end ?_
       refine t_le ?_ (ih0 (m + 1, acc ++ [z7]) (by (try dsimp only); omega) (by (try dsimp only); exact ⟨by omega, by exfalso; omega⟩))
       exact ⟨⟨rfl, ⟨rfl, ⟨rfl, ⟨rfl, ⟨(eqI (wrS (by omega))), trivial⟩⟩⟩⟩⟩, ⟨rfl, ⟨rfl, ⟨rfl, ⟨rfl, trivial⟩⟩⟩⟩, rfl⟩
     ·
      have g11' := of_decide_eq_false g11
      refine rG (ncf g11) (fun _ => ?_)
      refine rG (fun _ => ?_) (ncf g10)
      refine r_op (o_pickF rfl rfl g11 rfl) ?_
      refine r_op (o_pickF rfl rfl g10 rfl) ?_
      refine r_end ?_
      refine t_cond rfl (ncf rfl) (fun _ => ?_)
      refine t_skip<|t_region<|rF 1 ?_
      refine rL ?_
      refine rM ?_
      refine r_op (o_litS 4 (e := 3) (sz := 1) (zs := [.int .i64 (0)]) rfl rfl (by kernel_rfl) rfl rfl rfl rfl rfl) ?_
      refine r_op (o_append 3 (e := 3) (sz := 1) (by' := 8) (z7) rfl (by kernel_rfl) rfl rfl rfl rfl rfl rfl (.cons .sc .nil) rfl (by (have := instV_len i2; simp at this; omega)) (by (have := instV_len i2; simp at this; omega))) ?_
      refine rF 1 ?_
      refine rS 1<|r_end<|t_endblock<|t_region ?_
      refine rM ?_
      refine rB ?_
      refine rA<|r_end ?_
      refine t_le ?_ (ih0 (m + 1, acc ++ [z7]) (by (try dsimp only); omega) (by (try dsimp only); exact ⟨by omega, inst_step i2 (by assumption) rfl (inst_good (by assumption) (by assumption) (by assumption))⟩))
      exact ⟨⟨rfl, ⟨rfl, ⟨rfl, ⟨rfl, ⟨(eqI (wrS (by omega))), trivial⟩⟩⟩⟩⟩, ⟨rfl, ⟨rfl, ⟨rfl, ⟨rfl, trivial⟩⟩⟩⟩, rfl⟩
    ·
     have g10' := of_decide_eq_false (bnt g10)
     refine rG (nc g10) (fun _ => ?_)
     refine rG (nc g10) (fun _ => ?_)
     refine rG (nc g10) (fun _ => ?_)
     refine rG (nc g10) (fun _ => ?_)
     refine rG (nc g10) (fun _ => ?_)
     refine rG (nc g10) (fun _ => ?_)
     refine r_skip rfl rfl rfl ?_
     refine r_skip rfl rfl rfl ?_
     refine rG (nc g10) (fun _ => ?_)
     refine r_op (o_pickT rfl rfl g10 rfl) ?_
     refine r_end ?_
     refine t_cond rfl (fun _ => ?_) (nc rfl)
     refine tsr ?_
     refine r_op (o_build rfl (pl := [(0, 1), (1, 1)]) (zs := [.int .i64 (0), .slice none 0 0]) (by kernel_rfl) (by kernel_rfl) rfl rfl rfl) ?_
     refine rS 2 ?_
     refine rA<|r_end ?_
     refine t_ret Tryz.func48 (.cells (n := 2) (by kernel_rfl) (by kernel_rfl) rfl rfl rfl (.tmp rfl .nil)) rfl fun E S w u hI hd => ?_
     obtain rfl : mo = none := by rw [← hm]; exact inst_none i2 (by assumption) rfl (inst_bad (by assumption) (by assumption) (by assumption))
     refine post_mk hI hd ?_ trivial rfl rfl rfl <;> clear hI hd <;> (try clear ih0)
     all_goals (rfl)
  ·
   have h5' := of_decide_eq_false h5
   refine t_skip<|t_seq<|tsr<|rM ?_
   refine r_op (o_call 4 4 false (en Tryz.func103) (c_spec_IsValidValue (IntKind.i64.wrap ((-1) - z2)) (by exact wr_lo _) (by exact wr_hi _)) rfl (.cons rfl (.c .t0) .nil) rfl rfl rfl) ?_
   refine r_op (o_not rfl rfl) ?_
   refine rM ?_
   refine rG (fun g13 => ?_) (fun g13 => ?_)
   ·
    have g13' := of_decide_eq_true (bnf g13)
    refine rF 1 ?_
    refine rG (fun _ => ?_) (ncf g13)
    refine rL ?_
    refine rG (fun _ => ?_) (ncf g13)
    refine rM ?_
    refine rG (fun _ => ?_) (ncf g13)
    refine r_op (o_index rfl (by kernel_rfl) rfl rfl b4 hz3) ?_
    refine rG (fun _ => ?_) (ncf g13)
    refine r_op (o_load1 rfl (by kernel_rfl) rfl rfl) ?_
    refine rG (fun _ => ?_) (ncf g13)
    refine rB ?_
    refine rG (fun _ => ?_) (ncf g13)
    refine rM ?_
    refine rG (fun g14 => ?_) (fun g14 => ?_)
    ·
     have g14' := of_decide_eq_true g14
     refine rM ?_
     refine rG (fun _ => ?_) (nc g14)
     refine rB ?_
     refine rG (fun _ => ?_) (ncf g13)
     refine r_op (o_pickT rfl rfl g14 rfl) ?_
     refine r_op (o_pickF rfl rfl g13 rfl) ?_
     refine r_end ?_
     refine t_cond rfl (fun h15 => ?_) (fun h15 => ?_)
     ·
      have h15' := of_decide_eq_true h15
      refine tsr ?_
      refine r_op (o_build rfl (pl := [(0, 1), (1, 1)]) (zs := [.int .i64 (0), .slice none 0 0]) (by kernel_rfl) (by kernel_rfl) rfl rfl rfl) ?_
      refine rS 2 ?_
      refine rA<|r_end ?_
      refine t_ret Tryz.func48 (.cells (n := 2) (by kernel_rfl) (by kernel_rfl) rfl rfl rfl (.tmp rfl .nil)) rfl fun E S w u hI hd => ?_
      obtain rfl : mo = none := by exfalso; have e := ho _ (List.mem_of_getElem? (l := ts) (by assumption)); unfold okI at e; simp only [IntKind.wrap_i64] at *; omega
      refine post_mk hI hd ?_ trivial rfl rfl rfl <;> clear hI hd <;> (try clear ih0)
      all_goals (rfl)
     ·
      have h15' := of_decide_eq_false h15
      refine t_skip<|t_region<|rF 1 ?_
      refine rL ?_
      refine rM ?_
      refine r_op (o_litS 4 (e := 3) (sz := 1) (zs := [.int .i64 (0)]) rfl rfl (by kernel_rfl) rfl rfl rfl rfl rfl) ?_
      refine r_op (o_append 3 (e := 3) (sz := 1) (by' := 8) (IntKind.i64.wrap ((-1) - z2)) rfl (by kernel_rfl) rfl rfl rfl rfl rfl rfl (.cons .sc .nil) rfl (by (have := instV_len i2; simp at this; omega)) (by (have := instV_len i2; simp at this; omega))) ?_
      refine rF 1 ?_
      refine rS 1<|r_end<|t_endblock<|t_region ?_
      refine rM ?_
      refine rB ?_
      refine rA<|r_end ?_
      refine t_le ?_ (ih0 (m + 1, acc ++ [IntKind.i64.wrap ((-1) - z2)]) (by (try dsimp only); omega) (by (try dsimp only); exact ⟨by omega, inst_step i2 (by assumption) rfl (inst_goodn (by omega) (ho _ (List.mem_of_getElem? (by assumption))).1 (by assumption))⟩))
      exact ⟨⟨rfl, ⟨rfl, ⟨rfl, ⟨rfl, ⟨(eqI (wrS (by omega))), trivial⟩⟩⟩⟩⟩, ⟨rfl, ⟨rfl, ⟨rfl, ⟨rfl, trivial⟩⟩⟩⟩, rfl⟩
    ·
     have g14' := of_decide_eq_false g14
     refine rG (ncf g14) (fun _ => ?_)
     refine rG (fun _ => ?_) (ncf g13)
     refine r_op (o_pickF rfl rfl g14 rfl) ?_
     refine r_op (o_pickF rfl rfl g13 rfl) ?_
     refine r_end ?_
     refine t_cond rfl (ncf rfl) (fun _ => ?_)
     refine t_skip<|t_region<|rF 1 ?_
     refine rL ?_
     refine rM ?_
     refine r_op (o_litS 4 (e := 3) (sz := 1) (zs := [.int .i64 (0)]) rfl rfl (by kernel_rfl) rfl rfl rfl rfl rfl) ?_
     refine r_op (o_append 3 (e := 3) (sz := 1) (by' := 8) (IntKind.i64.wrap ((-1) - z2)) rfl (by kernel_rfl) rfl rfl rfl rfl rfl rfl (.cons .sc .nil) rfl (by omega) (by omega)) ?_
     refine rF 1 ?_
     refine rS 1<|r_end<|t_endblock<|t_region ?_
     refine rM ?_
     refine rB ?_
     refine rA<|r_end ?_
     refine t_le ?_ (ih0 (m + 1, acc ++ [IntKind.i64.wrap ((-1) - z2)]) (by (try dsimp only); omega) (by (try dsimp only); exact ⟨by omega, by exfalso; omega⟩))
     exact ⟨⟨rfl, ⟨rfl, ⟨rfl, ⟨rfl, ⟨(eqI (wrS (by omega))), trivial⟩⟩⟩⟩⟩, ⟨rfl, ⟨rfl, ⟨rfl, ⟨rfl, trivial⟩⟩⟩⟩, rfl⟩
   ·
    have g13' := of_decide_eq_false (bnt g13)
    refine rG (nc g13) (fun _ => ?_)
    refine rG (nc g13) (fun _ => ?_)
    refine rG (nc g13) (fun _ => ?_)
    refine rG (nc g13) (fun _ => ?_)
    refine rG (nc g13) (fun _ => ?_)
    refine rG (nc g13) (fun _ => ?_)
    refine r_skip rfl rfl rfl ?_
    refine r_skip rfl rfl rfl ?_
    refine rG (nc g13) (fun _ => ?_)
    refine r_op (o_pickT rfl rfl g13 rfl) ?_
    refine r_end ?_
    refine t_cond rfl (fun _ => ?_) (nc rfl)
    refine tsr ?_
    refine r_op (o_build rfl (pl := [(0, 1), (1, 1)]) (zs := [.int .i64 (0), .slice none 0 0]) (by kernel_rfl) (by kernel_rfl) rfl rfl rfl) ?_
    refine rS 2 ?_
    refine rA<|r_end ?_
    refine t_ret Tryz.func48 (.cells (n := 2) (by kernel_rfl) (by kernel_rfl) rfl rfl rfl (.tmp rfl .nil)) rfl fun E S w u hI hd => ?_
    obtain rfl : mo = none := by rw [← hm]; exact inst_none i2 (by assumption) rfl (inst_badn (by omega) (ho _ (List.mem_of_getElem? (by assumption))).1 (by assumption))
    refine post_mk hI hd ?_ trivial rfl rfl rfl <;> clear hI hd <;> (try clear ih0)
    all_goals (rfl)
 ·
  have h1' := of_decide_eq_false h1
  refine t_exit rfl<|tsr<|rC 2 ?_
  refine rS 2 ?_
  refine rA<|r_end ?_
  refine t_ret Tryz.func48 (.cells (n := 2) (by kernel_rfl) (by kernel_rfl) rfl rfl rfl (.tmp rfl .nil)) rfl fun E S w u hI hd => ?_
  obtain rfl : mo = some acc := by rw [← hm]; rw [List.take_of_length_le (by omega)] at i2; exact i2
  refine post_mk hI hd ?_ ⟨eqR ?_, trivial⟩ rfl rfl rfl <;> clear hI hd <;> (try clear ih0)
  all_goals (rfl)
theorem c_spec_l5Place (rs : Rels) (fs : Atoms) (r : Int) (ts : List Int) (hfs : szS (fun (x : Int × (List (Int))) => (x.2).length) fs ≤ 1048576) (hts : ts.length ≤ 1048576) : Pu Tryz.prog 104 [.agg [.t none (.sl 3 (enS3 encS encI encB) (rs)), .t none (.sl 2 (enS2 encI (enSl 1 encI)) (fs))], .agg [.t none (.v (.int .i64 (r))), .t none (.sl 1 encI (ts))]] [] 0 (.c (.t none (.v (.int .i64 (idxI (fun x => decide (cmpF x (r, ts) = 0)) fs))))) := by
 refine pu_enter Tryz.func104 rfl (Nat.le_of_ble_eq_true rfl) fun w S => ?_
 have gl := sz_len (f := (fun (x : Int × (List (Int))) => (x.2).length)) (l := fs)
 refine tsr ?_
 refine r_op (o_box 0 rfl rfl rfl rfl) ?_
 refine r_op (o_box 1 rfl rfl rfl rfl) ?_
 refine rA<|r_end<|t_seq<|tsr ?_
 refine rA<|r_end<|t_block ?_
 refine t_loopL (fun m => ⟨[(2, some (.c (.ptr 0 0))), (3, some (.c (.ptr 1 0))), (5, some (.c (.t none (.v (.int .i64 ((m : Int)))))))], [(0, some (.box [.t none (.sl 3 (enS3 encS encI encB) (rs)), .t none (.sl 2 (enS2 encI (enSl 1 encI)) (fs))])), (1, some (.box [.t none (.v (.int .i64 (r))), .t none (.sl 1 encI (ts))]))], 2⟩ : Nat → St) (fun m => m ≤ fs.length ∧ ∀ j z, j < m → fs[j]? = some z → (fun x => decide (cmpF x (r, ts) = 0)) z = false) (fun m => fs.length - m) 0 ⟨⟨rfl, ⟨rfl, ⟨rfl, trivial⟩⟩⟩, ⟨rfl, ⟨rfl, trivial⟩⟩, rfl⟩ (by exact ⟨Nat.zero_le _, fun j z h => by omega⟩) ?_
 rintro m hI ih0
 try dsimp only at hI ih0
 obtain ⟨i1, i2⟩ := hI
 refine t_seq<|tsr<|rM ?_
 refine rF 1 ?_
 refine rL ?_
 refine r_op (o_len rfl rfl rfl) ?_
 refine rB<|r_end ?_
 refine t_cond rfl (fun h1 => ?_) (fun h1 => ?_)
 ·
  have h1' := of_decide_eq_true h1
  refine t_skip<|t_seq<|t_block<|t_seq ?_
  refine t_draw (fun _ => true) (by kernel_rfl) ?_
  refine dT 0 rfl (pF 1) ?_
  refine dT 1 rfl pL ?_
  refine dT 2 rfl pM ?_
  obtain ⟨z2, hz3, b4⟩ := at_get (xs := fs) (n := (m : Int)) (by omega) (by omega)
  refine dT 3 rfl (p_index (by kernel_rfl) rfl rfl b4 hz3) ?_
  refine dT 4 rfl (p_loadA (n := 2) (by kernel_rfl) (by kernel_rfl) rfl rfl) ?_
  refine dT 5 rfl (pC 2) ?_
  refine dO 6 rfl (o_call 2 2 false (en Tryz.func77) (c_spec_CompareFacts (z2.1) (z2.2) (r) (ts) (by (have e1 := sz_at (f := (fun (x : Int × (List (Int))) => (x.2).length)) (l := fs) (m := m) (by assumption); (try dsimp only at e1); omega)) (by omega)) rfl (.cons rfl (.agg (.cons .t0 (.cons .t0 .nil))) (.cons rfl (.agg (.cons .t0 (.cons .t0 .nil))) .nil)) rfl rfl rfl) ?_
  refine dT 7 rfl pB ?_
  refine d_end (by kernel_rfl) ?_
  refine t_cond rfl (fun h5 => ?_) (fun h5 => ?_)
  ·
   have h5' := of_decide_eq_true h5
   refine tsr<|rM ?_
   refine rA<|r_end ?_
   refine tk Tryz.func104 (.tmp rfl .nil) ?_ <;> (try clear ih0)
   all_goals (rw [idx_hit i2 (by assumption) (by assumption)])
  ·
   have h5' := of_decide_eq_false h5
   refine t_skip<|t_endblock<|t_region<|rM ?_
   refine rB ?_
   refine rA<|r_end ?_
   refine t_le ?_ (ih0 (m + 1) (by (try dsimp only); omega) (by (try dsimp only); exact ⟨by omega, no_step i2 (by assumption) rfl (by assumption)⟩))
   exact ⟨⟨rfl, ⟨rfl, ⟨(eqI (wr64 (by omega) (by omega))), trivial⟩⟩⟩, ⟨rfl, ⟨rfl, trivial⟩⟩, rfl⟩
 ·
  have h1' := of_decide_eq_false h1
  refine t_exit rfl<|tsr<|rA<|r_end ?_
  refine tk Tryz.func104 (.tmp rfl .nil) ?_ <;> (try clear ih0)
  all_goals (rw [idx_none i2 (by omega)])
theorem c_spec_IsTrigger (rs : Rels) (fs : Atoms) (a0 : List (Int × (List (Int)))) (a1 : List (Int × (List (Int)))) (a2 : Bool) (a3 : Int) (a4 : Int) (b : List Int) (hrs : rs.length ≤ 4611686018427387904) (hfs : szS (fun (x : Int × (List (Int))) => (x.2).length) fs ≤ 1048576) (ho : ∀ z ∈ fs, ∀ x ∈ z.2, okI x) (hs : szS (fun (x : Int × (List (Int))) => (x.2).length) a0 + szS (fun (x : Int × (List (Int))) => (x.2).length) a1 ≤ 1048576) (hoa : ∀ z ∈ a0, ∀ x ∈ z.2, okI x) (hob : ∀ x ∈ b, okI x) (hbl : b.length ≤ 1048576) : Pu Tryz.prog 78 [.agg [.t none (.sl 3 (enS3 encS encI encB) (rs)), .t none (.sl 2 (enS2 encI (enSl 1 encI)) (fs))], .agg [.t none (.sl 2 (enS2 encI (enSl 1 encI)) (a0)), .t none (.sl 2 (enS2 encI (enSl 1 encI)) (a1)), .t none (.v (.bool (a2))), .t none (.v (.int .i64 (a3))), .t none (.v (.int .i64 (a4)))], .c (.t none (.sl 1 encI (b)))] [] 0 (.c (.t none (.v (.bool (trgOk rs fs a0 a1 a2 a3 a4 b))))) := by
 refine pu_enter Tryz.func78 rfl (Nat.le_of_ble_eq_true rfl) fun w S => ?_
 have g0 := sz_len (f := (fun (x : Int × (List (Int))) => (x.2).length)) (l := a0); have v0 := setI_len (varsL a0); have v1 := varsL_size a0
 refine tsr ?_
 refine r_op (o_box 0 rfl rfl rfl rfl) ?_
 refine r_op (o_box 1 rfl rfl rfl rfl) ?_
 refine rA<|r_end<|t_seq<|tsr ?_
 refine rC 2 ?_
 refine r_op (o_call 2 2 false (en Tryz.func98) (c_spec_IsValidInstance (rs) (fs) (by omega) (by omega) (by omega)) rfl (.cons rfl (.agg (.cons .t0 (.cons .t0 .nil))) .nil) rfl rfl rfl) ?_
 refine r_op (o_not rfl rfl) ?_
 refine rM ?_
 refine rG (fun g1 => ?_) (fun g1 => ?_)
 ·
  have g1' := (bnf g1)
  refine rF 0 ?_
  refine rG (fun _ => ?_) (ncf g1)
  refine rL ?_
  refine rG (fun _ => ?_) (ncf g1)
  refine rC 5 ?_
  refine rG (fun _ => ?_) (ncf g1)
  refine r_op (o_call 2 2 false (en Tryz.func129) (c_spec_IsValidDependency (rs) (a0) (a1) (a2) (a3) (a4) (by omega) (by omega)) rfl (.cons rfl (.c .t0) (.cons rfl (.agg (.cons .t0 (.cons .t0 (.cons .t0 (.cons .t0 (.cons .t0 .nil)))))) .nil)) rfl rfl rfl) ?_
  refine rG (fun _ => ?_) (ncf g1)
  refine r_op (o_not rfl rfl) ?_
  refine r_op (o_pickF rfl rfl g1 rfl) ?_
  refine rM ?_
  refine rG (fun g2 => ?_) (fun g2 => ?_)
  ·
   have g2' := (bnf g2)
   refine rM ?_
   refine rG (fun _ => ?_) (ncf g2)
   refine r_op (o_len rfl rfl rfl) ?_
   refine rG (fun _ => ?_) (ncf g2)
   refine rB ?_
   refine r_op (o_pickF rfl rfl g2 rfl) ?_
   refine r_end ?_
   refine t_cond rfl (fun h3 => ?_) (fun h3 => ?_)
   ·
    have h3' := of_decide_eq_true h3
    refine tsr<|rA<|r_end ?_
    refine tk Tryz.func78 (.tmp rfl .nil) ?_ <;> (try clear ih0) <;> (try clear ih1)
    all_goals (refine scB ?_; (unfold trgOk; clear hrs hfs ho hs hoa hob g0 v0 v1; grind))
   ·
    have h3' := of_decide_eq_false h3
    refine t_skip<|tsr<|rF 0 ?_
    refine rL ?_
    refine r_op (o_call 2 3 false (en Tryz.func100) (c_spec_Variables (a0) (by omega)) rfl (.cons rfl (.c .t0) .nil) rfl rfl rfl) ?_
    refine rA<|r_end<|t_seq<|tsr ?_
    refine rA<|r_end<|t_block ?_
    refine t_loopL (fun m => ⟨[(2, some (.c (.t none (.sl 1 encI (b))))), (3, some (.c (.ptr 0 0))), (4, some (.c (.ptr 1 0))), (7, some (.c (.own 2))), (8, some (.c (.t none (.v (.int .i64 ((m : Int)))))))], [(0, some (.box [.t none (.sl 3 (enS3 encS encI encB) (rs)), .t none (.sl 2 (enS2 encI (enSl 1 encI)) (fs))])), (1, some (.box [.t none (.sl 2 (enS2 encI (enSl 1 encI)) (a0)), .t none (.sl 2 (enS2 encI (enSl 1 encI)) (a1)), .t none (.v (.bool (a2))), .t none (.v (.int .i64 (a3))), .t none (.v (.int .i64 (a4)))])), (2, some (.row none 3 true 1 encI (setI (varsL (a0)))))], 3⟩ : Nat → St) (fun m => m ≤ b.length ∧ ∀ j, j < m → varStep (setI (varsL a0)) b j = true) (fun m => b.length - m) 0 ⟨⟨rfl, ⟨rfl, ⟨rfl, ⟨rfl, ⟨rfl, trivial⟩⟩⟩⟩⟩, ⟨rfl, ⟨rfl, ⟨rfl, trivial⟩⟩⟩, rfl⟩ (by exact ⟨Nat.zero_le _, fun j h => by omega⟩) ?_
    rintro m hI ih0
    try dsimp only at hI ih0
    obtain ⟨i1, i2⟩ := hI
    refine t_seq<|tsr<|rM ?_
    refine rM ?_
    refine r_op (o_len rfl rfl rfl) ?_
    refine rB<|r_end ?_
    refine t_cond rfl (fun h4 => ?_) (fun h4 => ?_)
    ·
     have h4' := of_decide_eq_true h4
     refine t_skip<|t_seq<|t_block<|t_seq ?_
     refine t_draw (fun _ => true) (by kernel_rfl) ?_
     refine dT 0 rfl pM ?_
     refine dT 1 rfl pM ?_
     refine dT 3 rfl pM ?_
     refine dT 4 rfl pM ?_
     obtain ⟨z5, hz6, b7⟩ := at_get (xs := b) (n := (m : Int)) (by omega) (by omega)
     refine dT 5 rfl (p_index (by kernel_rfl) rfl rfl b7 hz6) ?_
     refine dT 6 rfl (p_load1 (by kernel_rfl) rfl rfl) ?_
     refine dO 2 rfl (o_call 3 3 false (en Tryz.func101) (c_spec_l4Has (setI (varsL (a0))) ((m : Int)) (by omega)) rfl (.cons rfl (.c (.own rfl)) (.cons rfl (.c .t0) .nil)) rfl rfl rfl) ?_
     refine dO 7 rfl (o_call 3 3 false (en Tryz.func134) (c_spec_l11None ) rfl .nil rfl rfl rfl) ?_
     refine dT 8 rfl pB ?_
     refine dT 9 rfl (p_eqB Tryz.underlying4 rfl rfl) ?_
     refine d_end (by kernel_rfl) ?_
     refine t_cond rfl (fun h8 => ?_) (fun h8 => ?_)
     ·
      have h8' := h8
      try simp only [decide_eq_true_eq, decide_eq_false_iff_not, Bool.not_eq_true', Bool.not_eq_false', Bool.not_false, Bool.not_true] at h8'
      refine tsr<|rA<|r_end ?_
      refine tk Tryz.func78 (.tmp rfl .nil) ?_ <;> (try clear ih0) <;> (try clear ih1)
      all_goals (refine scB ?_; ((have e : varsOk (setI (varsL a0)) b = false := varsOk_not (m := m) (by omega) (by rw [varStep_at (V := setI (varsL a0)) (m := m) hz6]; (exact vs_bad2 (by assumption)))); (unfold trgOk; rw [e]; simp; done)))
     ·
      have h8' := h8
      try simp only [decide_eq_true_eq, decide_eq_false_iff_not, Bool.not_eq_true', Bool.not_eq_false', Bool.not_false, Bool.not_true] at h8'
      refine t_skip<|t_endblock<|t_region<|rM ?_
      refine rB ?_
      refine rA<|r_end ?_
      refine t_le ?_ (ih0 (m + 1) (by (try dsimp only); omega) (by (try dsimp only); exact ⟨by omega, step_all i2 (by rw [varStep_at (V := setI (varsL a0)) (m := m) hz6]; (exact vs_ok2 (by assumption)))⟩))
      exact ⟨⟨rfl, ⟨rfl, ⟨rfl, ⟨rfl, ⟨(eqI (wr64 (by omega) (by omega))), trivial⟩⟩⟩⟩⟩, ⟨rfl, ⟨rfl, ⟨rfl, trivial⟩⟩⟩, rfl⟩
    ·
     have h4' := of_decide_eq_false h4
     refine t_exit rfl<|t_seq<|tsr<|rA<|r_end<|t_block ?_
     refine t_loopL (fun n => ⟨[(2, some (.c (.t none (.sl 1 encI (b))))), (3, some (.c (.ptr 0 0))), (4, some (.c (.ptr 1 0))), (9, some (.c (.t none (.v (.int .i64 ((n : Int)))))))], [(0, some (.box [.t none (.sl 3 (enS3 encS encI encB) (rs)), .t none (.sl 2 (enS2 encI (enSl 1 encI)) (fs))])), (1, some (.box [.t none (.sl 2 (enS2 encI (enSl 1 encI)) (a0)), .t none (.sl 2 (enS2 encI (enSl 1 encI)) (a1)), .t none (.v (.bool (a2))), .t none (.v (.int .i64 (a3))), .t none (.v (.int .i64 (a4)))])), (2, some (.row none 3 true 1 encI (setI (varsL (a0)))))], 3⟩ : Nat → St) (fun n => n ≤ a0.length ∧ ∀ j z, j < n → a0[j]? = some z → trgStep fs b z = true) (fun n => a0.length - n) 0 ⟨⟨rfl, ⟨rfl, ⟨rfl, ⟨rfl, trivial⟩⟩⟩⟩, ⟨rfl, ⟨rfl, ⟨rfl, trivial⟩⟩⟩, rfl⟩ (by exact ⟨Nat.zero_le _, fun j z h => by omega⟩) ?_
     rintro n hI ih1
     try dsimp only at hI ih1
     obtain ⟨k1, k2⟩ := hI
     refine t_seq<|tsr<|rM ?_
     refine rF 0 ?_
     refine rL ?_
     refine r_op (o_len rfl rfl rfl) ?_
     refine rB<|r_end ?_
     refine t_cond rfl (fun h9 => ?_) (fun h9 => ?_)
     ·
      have h9' := of_decide_eq_true h9
      refine t_skip<|t_seq<|t_block<|tsr<|rF 0 ?_
      refine rL ?_
      refine rM ?_
      obtain ⟨z10, hz11, b12⟩ := at_get (xs := a0) (n := (n : Int)) (by omega) (by omega)
      refine r_op (o_index rfl (by kernel_rfl) rfl rfl b12 hz11) ?_
      refine r_op (o_loadA rfl (n := 2) (by kernel_rfl) (by kernel_rfl) rfl rfl) ?_
      refine rM ?_
      rcases hm13 : instV (b) (z10.2) with _ | q15
      ·
       refine r_op (o_call 3 7 false (en Tryz.func48) (c_spec_Instantiate (z10.1) (z10.2) (b) (by (have e1 := sz_at (f := (fun (x : Int × (List (Int))) => (x.2).length)) (l := a0) (m := n) (by assumption); (try dsimp only at e1); omega)) (by exact hoa _ (List.mem_of_getElem? (by assumption))) (by omega) _ hm13) rfl (.cons rfl (.agg (.cons .t0 (.cons .t0 .nil))) (.cons rfl (.c .t0) .nil)) rfl rfl rfl) ?_
       refine rM ?_
       refine r_op (o_extract rfl rfl rfl rfl) ?_
       refine r_op (o_extract rfl rfl rfl rfl) ?_
       refine r_op (o_alloc 7 (zs := [.int .i64 (0), .slice none 0 0]) rfl rfl (by kernel_rfl) rfl) ?_
       refine rS 2 ?_
       refine rA<|etr ?_
       refine rM ?_
       refine r_op (o_not rfl rfl) ?_
       refine rM ?_
       refine rG (nc rfl) (fun _ => ?_)
       refine rG (nc rfl) (fun _ => ?_)
       refine rG (nc rfl) (fun _ => ?_)
       refine rG (nc rfl) (fun _ => ?_)
       refine r_op (o_pickT rfl rfl rfl rfl) ?_
       refine r_end ?_
       refine t_cond rfl (fun _ => ?_) (nc rfl)
       refine tsr<|rA<|r_end ?_
       refine tk Tryz.func78 (.tmp rfl .nil) ?_ <;> (try clear ih0) <;> (try clear ih1)
       all_goals (refine scB ?_; ((have e : a0.all (trgStep fs b) = false := all_not hz11 (by exact trg_none (by assumption))); (unfold trgOk; rw [e]; simp; done)))
      ·
       refine r_op (o_call 3 7 false (en Tryz.func48) (c_spec_Instantiate (z10.1) (z10.2) (b) (by (have e1 := sz_at (f := (fun (x : Int × (List (Int))) => (x.2).length)) (l := a0) (m := n) (by assumption); (try dsimp only at e1); omega)) (by exact hoa _ (List.mem_of_getElem? (by assumption))) (by omega) _ hm13) rfl (.cons rfl (.agg (.cons .t0 (.cons .t0 .nil))) (.cons rfl (.c .t0) .nil)) rfl rfl rfl) ?_
       refine rM ?_
       refine r_op (o_extract rfl rfl rfl rfl) ?_
       refine r_op (o_extract rfl rfl rfl rfl) ?_
       refine r_op (o_alloc 7 (zs := [.int .i64 (0), .slice none 0 0]) rfl rfl (by kernel_rfl) rfl) ?_
       refine rS 2 ?_
       refine rA<|etr ?_
       refine rM ?_
       refine r_op (o_not rfl rfl) ?_
       refine rM ?_
       refine rG (fun _ => ?_) (ncf rfl)
       refine rC 2 ?_
       refine rG (fun _ => ?_) (ncf rfl)
       refine rC 2 ?_
       refine rG (fun _ => ?_) (ncf rfl)
       refine r_op (o_call 8 8 false (en Tryz.func104) (c_spec_l5Place (rs) (fs) ((z10.1)) ((q15)) (by omega) (by (have e5 := instV_len (by assumption); have e1 := sz_at (f := (fun (x : Int × (List (Int))) => (x.2).length)) (l := a0) (m := n) (by assumption); (try dsimp only at e1); omega))) rfl (.cons rfl (.agg (.cons .t0 (.cons .t0 .nil))) (.cons rfl (.agg (.cons .t0 (.cons (.own rfl) .nil))) .nil)) rfl rfl rfl) ?_
       refine rG (fun _ => ?_) (ncf rfl)
       refine rB ?_
       refine r_op (o_pickF rfl rfl rfl rfl) ?_
       refine r_end ?_
       refine t_cond rfl (fun h16 => ?_) (fun h16 => ?_)
       ·
        have h16' := of_decide_eq_true h16
        refine tsr<|rA<|r_end ?_
        refine tk Tryz.func78 (.tmp rfl .nil) ?_ <;> (try clear ih0) <;> (try clear ih1)
        all_goals (refine scB ?_; ((have e : a0.all (trgStep fs b) = false := all_not hz11 (by (rw [trg_some (by assumption)]; unfold hasF; rw [← idx_any]; exact decide_eq_false (by omega)))); (unfold trgOk; rw [e]; simp; done)))
       ·
        have h16' := of_decide_eq_false h16
        refine t_skip<|t_endblock<|t_region<|rM ?_
        refine rB ?_
        refine rA<|r_end ?_
        refine t_le ?_ (ih1 (n + 1) (by (try dsimp only); omega) (by (try dsimp only); exact ⟨by omega, yes_step k2 hz11 rfl (by rw [trg_some (by assumption)]; unfold hasF; rw [← idx_any]; exact decide_eq_true (by omega))⟩))
        exact ⟨⟨rfl, ⟨rfl, ⟨rfl, ⟨(eqI (wr64 (by omega) (by omega))), trivial⟩⟩⟩⟩, ⟨rfl, ⟨rfl, ⟨rfl, trivial⟩⟩⟩, rfl⟩
     ·
      have h9' := of_decide_eq_false h9
      refine t_exit rfl<|tsr<|rA<|r_end ?_
      refine tk Tryz.func78 (.tmp rfl .nil) ?_ <;> (try clear ih0) <;> (try clear ih1)
      all_goals (refine scB ?_; (unfold trgOk; rw [varsOk_end i2 (by omega), all_yes k2 (by omega)]; clear hrs hfs ho hs hoa hob g0 v0 v1; grind))
  ·
   have g2' := (bnt g2)
   refine rG (nc g2) (fun _ => ?_)
   refine rG (nc g2) (fun _ => ?_)
   refine r_op (o_pickT rfl rfl g2 rfl) ?_
   refine r_end ?_
   refine t_cond rfl (fun _ => ?_) (nc rfl)
   refine tsr<|rA<|r_end ?_
   refine tk Tryz.func78 (.tmp rfl .nil) ?_ <;> (try clear ih0) <;> (try clear ih1)
   all_goals (refine scB ?_; (unfold trgOk; clear hrs hfs ho hs hoa hob g0 v0 v1; grind))
 ·
  have g1' := (bnt g1)
  refine rG (nc g1) (fun _ => ?_)
  refine rG (nc g1) (fun _ => ?_)
  refine rG (nc g1) (fun _ => ?_)
  refine rG (nc g1) (fun _ => ?_)
  refine r_op (o_pickT rfl rfl g1 rfl) ?_
  refine rM ?_
  refine rG (nc rfl) (fun _ => ?_)
  refine rG (nc rfl) (fun _ => ?_)
  refine rG (nc rfl) (fun _ => ?_)
  refine r_op (o_pickT rfl rfl rfl rfl) ?_
  refine r_end ?_
  refine t_cond rfl (fun _ => ?_) (nc rfl)
  refine tsr<|rA<|r_end ?_
  refine tk Tryz.func78 (.tmp rfl .nil) ?_ <;> (try clear ih0) <;> (try clear ih1)
  all_goals (refine scB ?_; (unfold trgOk; clear hrs hfs ho hs hoa hob g0 v0 v1; grind))
theorem c_spec_HasExtension (rs : Rels) (fs l : Atoms) (b : List Int) (hrs : rs.length ≤ 4611686018427387904) (hfs : szS (fun (x : Int × (List (Int))) => (x.2).length) fs ≤ 1048576) (hll : szS (fun (x : Int × (List (Int))) => (x.2).length) l ≤ 1048576) (ho : ∀ z ∈ fs, ∀ x ∈ z.2, okI x) (hbl : b.length ≤ 1048576) : Pu Tryz.prog 79 [.agg [.t none (.sl 3 (enS3 encS encI encB) (rs)), .t none (.sl 2 (enS2 encI (enSl 1 encI)) (fs))], .c (.t none (.sl 2 (enS2 encI (enSl 1 encI)) (l))), .c (.t none (.sl 1 encI (b)))] [] 0 (.c (.t none (.v (.bool (hasE rs fs l b))))) := by
 refine pu_enter Tryz.func79 rfl (Nat.le_of_ble_eq_true rfl) fun w S => ?_
 have gl := sz_len (f := (fun (x : Int × (List (Int))) => (x.2).length)) (l := l)
 refine tsr ?_
 refine r_op (o_box 0 rfl rfl rfl rfl) ?_
 refine rA<|etr ?_
 refine rC 2 ?_
 refine rM ?_
 refine r_op (o_call 1 1 false (en Tryz.func135) (c_spec_l11Ok (rs) (fs) (l) (by omega) (by omega) (by omega) (by omega)) rfl (.cons rfl (.agg (.cons .t0 (.cons .t0 .nil))) (.cons rfl (.c .t0) .nil)) rfl rfl rfl) ?_
 refine rM ?_
 refine rG (fun g1 => ?_) (fun g1 => ?_)
 ·
  have g1' := g1
  refine rM ?_
  refine rG (fun _ => ?_) (nc g1)
  refine r_op (o_len rfl rfl rfl) ?_
  refine rG (fun _ => ?_) (nc g1)
  refine rB ?_
  refine r_op (o_pickT rfl rfl g1 rfl) ?_
  refine rM ?_
  refine rG (fun g2 => ?_) (fun g2 => ?_)
  ·
   have g2' := of_decide_eq_true g2
   refine rC 2 ?_
   refine rG (fun _ => ?_) (nc g2)
   refine rM ?_
   refine rG (fun _ => ?_) (nc g2)
   refine rM ?_
   refine rG (fun _ => ?_) (nc g2)
   refine r_op (o_call 1 2 false (en Tryz.func136) (c_spec_l11Walk (rs) (fs) (l) (0) (b) (by exact (mt_pre (by assumption)).1) (by exact (mt_pre (by assumption)).2.1) (by omega) (by exact (mt_pre (by assumption)).2.2.1) (by exact (mt_pre (by assumption)).2.2.2) (by omega)) rfl (.cons rfl (.agg (.cons .t0 (.cons .t0 .nil))) (.cons rfl (.c .t0) (.cons rfl (.c .t0) (.cons rfl (.c .t0) .nil)))) rfl rfl rfl) ?_
   refine rG (fun _ => ?_) (nc g2)
   refine r_op (o_leno rfl rfl rfl rfl) ?_
   refine rG (fun _ => ?_) (nc g2)
   refine rB ?_
   refine r_op (o_pickT rfl rfl g2 rfl) ?_
   refine rA<|r_end ?_
   refine tk Tryz.func79 (.tmp rfl .nil) ?_
   all_goals (refine scB ?_; (try simp only [show (0 : Int).toNat = 0 from rfl, List.drop_zero] at *); clear hrs hfs hll ho gl; unfold hasE; grind)
  ·
   have g2' := of_decide_eq_false g2
   refine rG (ncf g2) (fun _ => ?_)
   refine rG (ncf g2) (fun _ => ?_)
   refine rG (ncf g2) (fun _ => ?_)
   refine rG (ncf g2) (fun _ => ?_)
   refine rG (ncf g2) (fun _ => ?_)
   refine r_op (o_pickF rfl rfl g2 rfl) ?_
   refine rA<|r_end ?_
   refine tk Tryz.func79 (.tmp rfl .nil) ?_
   all_goals (refine scB ?_; (try simp only [show (0 : Int).toNat = 0 from rfl, List.drop_zero] at *); clear hrs hfs hll ho gl; unfold hasE; grind)
 ·
  have g1' := g1
  refine rG (ncf g1) (fun _ => ?_)
  refine rG (ncf g1) (fun _ => ?_)
  refine r_op (o_pickF rfl rfl g1 rfl) ?_
  refine rM ?_
  refine rG (ncf rfl) (fun _ => ?_)
  refine rG (ncf rfl) (fun _ => ?_)
  refine rG (ncf rfl) (fun _ => ?_)
  refine rG (ncf rfl) (fun _ => ?_)
  refine rG (ncf rfl) (fun _ => ?_)
  refine rG (ncf rfl) (fun _ => ?_)
  refine r_op (o_pickF rfl rfl rfl rfl) ?_
  refine rA<|r_end ?_
  refine tk Tryz.func79 (.tmp rfl .nil) ?_
  all_goals (refine scB ?_; (try simp only [show (0 : Int).toNat = 0 from rfl, List.drop_zero] at *); clear hrs hfs hll ho gl; unfold hasE; grind)
theorem c_spec_IsActiveTrigger (rs : Rels) (fs : Atoms) (a0 : List (Int × (List (Int)))) (a1 : List (Int × (List (Int)))) (a2 : Bool) (a3 : Int) (a4 : Int) (b : List Int) (hrs : rs.length ≤ 4611686018427387904) (hfs : szS (fun (x : Int × (List (Int))) => (x.2).length) fs ≤ 1048576) (ho : ∀ z ∈ fs, ∀ x ∈ z.2, okI x) (hs : szS (fun (x : Int × (List (Int))) => (x.2).length) a0 + szS (fun (x : Int × (List (Int))) => (x.2).length) a1 ≤ 1048576) (hoa : ∀ z ∈ a0, ∀ x ∈ z.2, okI x) (hob : ∀ x ∈ b, okI x) (hbl : b.length ≤ 1048576) : Pu Tryz.prog 32 [.agg [.t none (.sl 3 (enS3 encS encI encB) (rs)), .t none (.sl 2 (enS2 encI (enSl 1 encI)) (fs))], .agg [.t none (.sl 2 (enS2 encI (enSl 1 encI)) (a0)), .t none (.sl 2 (enS2 encI (enSl 1 encI)) (a1)), .t none (.v (.bool (a2))), .t none (.v (.int .i64 (a3))), .t none (.v (.int .i64 (a4)))], .c (.t none (.sl 1 encI (b)))] [] 0 (.c (.t none (.v (.bool (actOk rs fs a0 a1 a2 a3 a4 b))))) := by
 refine pu_enter Tryz.func32 rfl (Nat.le_of_ble_eq_true rfl) fun w S => ?_
 have g0 := sz_len (f := (fun (x : Int × (List (Int))) => (x.2).length)) (l := a0); have v0 := setI_len (varsL a0); have v1 := varsL_size a0
 refine tsr ?_
 refine r_op (o_box 0 rfl rfl rfl rfl) ?_
 refine r_op (o_box 1 rfl rfl rfl rfl) ?_
 refine rA<|r_end<|t_seq<|tsr ?_
 refine rC 2 ?_
 refine rC 5 ?_
 refine rM ?_
 refine r_op (o_call 2 2 false (en Tryz.func78) (c_spec_IsTrigger (rs) (fs) (a0) (a1) (a2) (a3) (a4) (b) (by omega) (by omega) (by omega) (by omega) (by omega) (by omega) (by omega)) rfl (.cons rfl (.agg (.cons .t0 (.cons .t0 .nil))) (.cons rfl (.agg (.cons .t0 (.cons .t0 (.cons .t0 (.cons .t0 (.cons .t0 .nil)))))) (.cons rfl (.c .t0) .nil))) rfl rfl rfl) ?_
 refine r_op (o_not rfl rfl) ?_
 refine r_end ?_
 refine t_cond rfl (fun h1 => ?_) (fun h1 => ?_)
 ·
  have h1' := (bnt h1)
  refine tsr<|rA<|r_end ?_
  refine tk Tryz.func32 (.tmp rfl .nil) ?_
  all_goals (refine scB ?_; unfold actOk; clear hrs hfs ho hs hoa hob g0 v0 v1; (grind))
 ·
  have h1' := (bnf h1)
  refine t_skip<|t_seq<|tsr<|rF 2 ?_
  refine rL<|r_end ?_
  refine t_cond rfl (fun h2 => ?_) (fun h2 => ?_)
  ·
   have h2' := h2
   refine t_seq ?_
   refine t_draw (fun _ => true) (by kernel_rfl) ?_
   refine dT 0 rfl pM ?_
   refine dT 1 rfl (pF 3) ?_
   refine dT 2 rfl pL ?_
   obtain ⟨z3, hz4, b5⟩ := at_get (xs := b) (n := a3) (by exact (trg_idx (by assumption) (by assumption)).1.1) (by exact (trg_idx (by assumption) (by assumption)).1.2)
   refine dT 3 rfl (p_index (by kernel_rfl) rfl rfl b5 hz4) ?_
   refine dT 4 rfl (p_load1 (by kernel_rfl) rfl rfl) ?_
   refine dT 5 rfl pM ?_
   refine dT 6 rfl (pF 4) ?_
   refine dT 7 rfl pL ?_
   obtain ⟨z6, hz7, b8⟩ := at_get (xs := b) (n := a4) (by exact (trg_idx (by assumption) (by assumption)).2.1) (by exact (trg_idx (by assumption) (by assumption)).2.2)
   refine dT 8 rfl (p_index (by kernel_rfl) rfl rfl b8 hz7) ?_
   refine dT 9 rfl (p_load1 (by kernel_rfl) rfl rfl) ?_
   refine dT 10 rfl pB ?_
   refine dT 11 rfl pA ?_
   refine d_end (by kernel_rfl) ?_
   refine tk Tryz.func32 (.tmp rfl .nil) ?_
   all_goals (refine scB ?_; unfold actOk; clear hrs hfs ho hs hoa hob g0 v0 v1; (have e1 := getD_at hz4; have e2 := getD_at hz7; rw [e1, e2]; grind))
  ·
   have h2' := h2
   refine t_skip<|tsr<|rC 2 ?_
   refine rF 1 ?_
   refine rL ?_
   refine rM ?_
   refine r_op (o_call 2 2 false (en Tryz.func79) (c_spec_HasExtension (rs) (fs) (a1) (b) (by omega) (by omega) (by omega) (by omega) (by omega)) rfl (.cons rfl (.agg (.cons .t0 (.cons .t0 .nil))) (.cons rfl (.c .t0) (.cons rfl (.c .t0) .nil))) rfl rfl rfl) ?_
   refine r_op (o_not rfl rfl) ?_
   refine rA<|r_end ?_
   refine tk Tryz.func32 (.tmp rfl .nil) ?_
   all_goals (refine scB ?_; unfold actOk; clear hrs hfs ho hs hoa hob g0 v0 v1; (grind))
end Go.Eng
