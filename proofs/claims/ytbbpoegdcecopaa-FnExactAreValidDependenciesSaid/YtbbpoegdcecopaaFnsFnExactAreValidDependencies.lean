/- What the functions that FnExactAreValidDependencies reaches answer. -/
import Derived.Test.YtbbpoegdcecopaaFnsBv
import Derived.Test.YtbbpoegdcecopaaEngZj
import Derived.Test.YtbbpoegdcecopaaChecked
set_option linter.unusedVariables false
set_option linter.unusedSimpArgs false
namespace Go.Eng
open Go Go.RowKit Go.Proofs
set_option maxHeartbeats 1000000 in
set_option maxRecDepth 10000 in
theorem c_laws_szRelation (a0 : List UInt8) (a1 : Int) (a2 : Bool) (k : Int) (hk : 0 ≤ k) (hk2 : k ≤ 1048576) (h0 : okS a0) : Pu Try.prog 61 [.agg [.t none (.v (.string (mkS (a0)))), .t none (.v (.int .i64 (a1))), .t none (.v (.bool (a2)))], .c (.t none (.v (.int .i64 (k))))] [] 0 (.c (.t none (.v (.int .i64 (if k - (((a0).length : Nat) : Int) < 0 then -1 else k - (((a0).length : Nat) : Int)))))) := by
  refine pu_enter Try.func61 rfl (Nat.le_of_ble_eq_true rfl) fun w S => ?_
  have g_a0 : (a0).length ≤ 9223372036854775807 := h0
  refine t_seq ?_
  refine t_region ?_
  refine r_op (o_box 0 rfl rfl rfl rfl) ?_
  refine r_op (o_assign rfl rfl) ?_
  refine r_end ?_
  refine t_seq ?_
  refine t_region ?_
  refine r_op (o_move rfl rfl) ?_
  refine r_op (o_fieldb rfl (off := 0) (by kernel_rfl) rfl) ?_
  refine r_op (o_load1b rfl (by kernel_rfl) rfl rfl rfl) ?_
  refine r_op (o_lenS rfl Try.underlying9 rfl) ?_
  refine r_op (o_bin rfl rfl rfl rfl) ?_
  refine r_op (o_assign rfl rfl) ?_
  refine r_end ?_
  refine t_seq ?_
  refine t_seq ?_
  refine t_region ?_
  refine r_op (o_move rfl rfl) ?_
  refine r_op (o_bin rfl rfl rfl rfl) ?_
  refine r_end ?_
  refine t_cond rfl (fun h1 => ?_) (fun h1 => ?_)
  ·
    have h1' := h1
    try simp only [decide_eq_true_eq, decide_eq_false_iff_not, Bool.not_eq_true', Bool.not_eq_false', Bool.not_false, Bool.not_true] at h1'
    refine t_seq ?_
    refine t_region ?_
    refine r_op (o_assign rfl rfl) ?_
    refine r_end ?_
    refine t_ret Try.func61 (.tmp rfl .nil) rfl fun E S w u hI hd => ?_
    refine post_mk hI hd ?_ trivial rfl rfl rfl <;> clear hI hd
    all_goals first | rfl | (refine scI ?_; (try simp only [IntKind.wrap_i64] at *); omega)
  ·
    have h1' := h1
    try simp only [decide_eq_true_eq, decide_eq_false_iff_not, Bool.not_eq_true', Bool.not_eq_false', Bool.not_false, Bool.not_true] at h1'
    refine t_skip ?_
    refine t_seq ?_
    refine t_region ?_
    refine r_op (o_move rfl rfl) ?_
    refine r_op (o_assign rfl rfl) ?_
    refine r_end ?_
    refine t_ret Try.func61 (.tmp rfl .nil) rfl fun E S w u hI hd => ?_
    refine post_mk hI hd ?_ trivial rfl rfl rfl <;> clear hI hd
    all_goals first | rfl | (refine scI ?_; (try simp only [IntKind.wrap_i64] at *); omega)
set_option maxHeartbeats 1000000 in
set_option maxRecDepth 10000 in
theorem c_laws_szRelationS (l : List (List UInt8 × Int × Bool)) (k : Int) (hk : 0 ≤ k) (hk2 : k ≤ 1048576) (hl : (okL (fun (x : List UInt8 × Int × Bool) => okS (x.1) ∧ okI (x.2.1) ∧ okB (x.2.2))) l) : Pu Try.prog 12 [.c (.t none (.sl 3 (enS3 encS encI encB) (l))), .c (.t none (.v (.int .i64 (k))))] [] 0 (.c (.t none (.v (.int .i64 (if k - ((szS (fun (x : List UInt8 × Int × Bool) => (x.1).length) l : Nat) : Int) < 0 then -1 else k - ((szS (fun (x : List UInt8 × Int × Bool) => (x.1).length) l : Nat) : Int)))))) := by
  refine pu_enter Try.func12 rfl (Nat.le_of_ble_eq_true rfl) fun w S => ?_
  have gl := hl.1
  refine t_seq ?_
  refine t_region ?_
  refine r_op (o_assign rfl rfl) ?_
  refine r_end ?_
  refine t_seq ?_
  refine t_region ?_
  refine r_op (o_move rfl rfl) ?_
  refine r_op (o_move rfl rfl) ?_
  refine r_op (o_len rfl rfl rfl) ?_
  refine r_op (o_bin rfl rfl rfl rfl) ?_
  refine r_op (o_assign rfl rfl) ?_
  refine r_end ?_
  refine t_seq ?_
  refine t_seq ?_
  refine t_region ?_
  refine r_op (o_move rfl rfl) ?_
  refine r_op (o_bin rfl rfl rfl rfl) ?_
  refine r_end ?_
  refine t_cond rfl (fun h1 => ?_) (fun h1 => ?_)
  ·
    have h1' := h1
    try simp only [decide_eq_true_eq, decide_eq_false_iff_not, Bool.not_eq_true', Bool.not_eq_false', Bool.not_false, Bool.not_true] at h1'
    refine t_seq ?_
    refine t_region ?_
    refine r_op (o_assign rfl rfl) ?_
    refine r_end ?_
    refine t_ret Try.func12 (.tmp rfl .nil) rfl fun E S w u hI hd => ?_
    refine post_mk hI hd ?_ trivial rfl rfl rfl <;> clear hI hd <;> (try clear ih0)
    all_goals first | rfl | (refine scI ?_; (simp only [IntKind.wrap_i64] at *); have e1 := sz_len (f := (fun (x : List UInt8 × Int × Bool) => (x.1).length)) (l := l); omega)
  ·
    have h1' := h1
    try simp only [decide_eq_true_eq, decide_eq_false_iff_not, Bool.not_eq_true', Bool.not_eq_false', Bool.not_false, Bool.not_true] at h1'
    refine t_skip ?_
    refine t_seq ?_
    refine t_seq ?_
    refine t_region ?_
    refine r_op (o_assign rfl rfl) ?_
    refine r_end ?_
    refine t_block ?_
    refine t_loopL (fun m => ⟨[(0, some (.c (.t none (.sl 3 (enS3 encS encI encB) (l))))), (1, some (.c (.t none (.v (.int .i64 (k - l.length - ((szT (fun (x : List UInt8 × Int × Bool) => (x.1).length) l m : Nat) : Int))))))), (5, some (.c (.t none (.v (.int .i64 ((m : Int)))))))], [], 0⟩ : Nat → St) (fun m => m ≤ l.length ∧ 0 ≤ k - l.length - ((szT (fun (x : List UInt8 × Int × Bool) => (x.1).length) l m : Nat) : Int)) (fun m => l.length - m) 0 ⟨⟨rfl, ⟨(eqI (by rw [wr64 (by omega) (by omega)]; simp [szT_zero])), ⟨rfl, trivial⟩⟩⟩, trivial, rfl⟩ (by exact ⟨Nat.zero_le _, by (simp only [IntKind.wrap_i64] at *); simp only [szT_zero]; omega⟩) ?_
    rintro m hI ih0
    try dsimp only at hI ih0
    obtain ⟨i1, i2⟩ := hI
    refine t_seq ?_
    refine t_seq ?_
    refine t_region ?_
    refine r_op (o_move rfl rfl) ?_
    refine r_op (o_move rfl rfl) ?_
    refine r_op (o_len rfl rfl rfl) ?_
    refine r_op (o_bin rfl rfl rfl rfl) ?_
    refine r_end ?_
    refine t_cond rfl (fun h2 => ?_) (fun h2 => ?_)
    ·
      have h2' := h2
      try simp only [decide_eq_true_eq, decide_eq_false_iff_not, Bool.not_eq_true', Bool.not_eq_false', Bool.not_false, Bool.not_true] at h2'
      refine t_skip ?_
      refine t_seq ?_
      refine t_block ?_
      refine t_seq ?_
      refine t_region ?_
      refine r_op (o_move rfl rfl) ?_
      refine r_op (o_move rfl rfl) ?_
      obtain ⟨z3, hz4, b5⟩ := at_get (xs := l) (n := (m : Int)) (by first | omega | (have ok := ok_at hl (by assumption); first | exact ok | exact ok.1 | exact ok.2 | exact ok.2.1 | exact ok.2.2 | exact ok.2.2.1 | exact ok.2.2.2.1 | exact ok.2.2.2.2)) (by first | omega | (have ok := ok_at hl (by assumption); first | exact ok | exact ok.1 | exact ok.2 | exact ok.2.1 | exact ok.2.2 | exact ok.2.2.1 | exact ok.2.2.2.1 | exact ok.2.2.2.2))
      refine r_op (o_index rfl (by kernel_rfl) rfl rfl b5 hz4) ?_
      refine r_op (o_loadA rfl (n := 3) (by kernel_rfl) (by kernel_rfl) rfl rfl) ?_
      refine r_op (o_move rfl rfl) ?_
      refine r_op (o_call 0 0 false (Go.Proofs.enters_of Try.func61 (by kernel_rfl) rfl) (c_laws_szRelation (z3.1) (z3.2.1) (z3.2.2) (k - l.length - ((szT (fun (x : List UInt8 × Int × Bool) => (x.1).length) l m : Nat) : Int)) (by first | omega | (have ok := ok_at hl (by assumption); first | exact ok | exact ok.1 | exact ok.2 | exact ok.2.1 | exact ok.2.2 | exact ok.2.2.1 | exact ok.2.2.2.1 | exact ok.2.2.2.2)) (by first | omega | (have ok := ok_at hl (by assumption); first | exact ok | exact ok.1 | exact ok.2 | exact ok.2.1 | exact ok.2.2 | exact ok.2.2.1 | exact ok.2.2.2.1 | exact ok.2.2.2.2)) (by first | omega | (have ok := ok_at hl (by assumption); first | exact ok | exact ok.1 | exact ok.2 | exact ok.2.1 | exact ok.2.2 | exact ok.2.2.1 | exact ok.2.2.2.1 | exact ok.2.2.2.2))) rfl (.cons rfl (.agg (.cons .t0 (.cons .t0 (.cons .t0 .nil)))) (.cons rfl (.c .t0) .nil)) rfl rfl rfl) ?_
      refine r_op (o_assign rfl rfl) ?_
      refine r_end ?_
      refine t_seq ?_
      refine t_region ?_
      refine r_op (o_move rfl rfl) ?_
      refine r_op (o_bin rfl rfl rfl rfl) ?_
      refine r_end ?_
      refine t_cond rfl (fun h6 => ?_) (fun h6 => ?_)
      ·
        have h6' := h6
        try simp only [decide_eq_true_eq, decide_eq_false_iff_not, Bool.not_eq_true', Bool.not_eq_false', Bool.not_false, Bool.not_true] at h6'
        refine t_seq ?_
        refine t_region ?_
        refine r_op (o_assign rfl rfl) ?_
        refine r_end ?_
        refine t_ret Try.func12 (.tmp rfl .nil) rfl fun E S w u hI hd => ?_
        refine post_mk hI hd ?_ trivial rfl rfl rfl <;> clear hI hd <;> (try clear ih0)
        all_goals first | rfl | (refine scI ?_; have e1 := szT_step (f := (fun (x : List UInt8 × Int × Bool) => (x.1).length)) (l := l) (m := m) (by assumption); (try dsimp only at e1); have e2 := szT_le (f := (fun (x : List UInt8 × Int × Bool) => (x.1).length)) (l := l) (m + 1); omega)
      ·
        have h6' := h6
        try simp only [decide_eq_true_eq, decide_eq_false_iff_not, Bool.not_eq_true', Bool.not_eq_false', Bool.not_false, Bool.not_true] at h6'
        refine t_skip ?_
        refine t_endblock ?_
        refine t_region ?_
        refine r_op (o_move rfl rfl) ?_
        refine r_op (o_bin rfl rfl rfl rfl) ?_
        refine r_op (o_assign rfl rfl) ?_
        refine r_end ?_
        have e1 := szT_step (f := (fun (x : List UInt8 × Int × Bool) => (x.1).length)) (l := l) (m := m) (by assumption); try dsimp only at e1
        refine t_le ?_ (ih0 (m + 1) (by (try dsimp only); omega) (by (try dsimp only); constructor <;> omega))
        exact ⟨⟨rfl, ⟨(eqI (by omega)), ⟨(eqI (wrS (by omega))), trivial⟩⟩⟩, trivial, rfl⟩
    ·
      have h2' := h2
      try simp only [decide_eq_true_eq, decide_eq_false_iff_not, Bool.not_eq_true', Bool.not_eq_false', Bool.not_false, Bool.not_true] at h2'
      refine t_exit rfl ?_
      refine t_seq ?_
      refine t_region ?_
      refine r_op (o_move rfl rfl) ?_
      refine r_op (o_assign rfl rfl) ?_
      refine r_end ?_
      refine t_ret Try.func12 (.tmp rfl .nil) rfl fun E S w u hI hd => ?_
      refine post_mk hI hd ?_ trivial rfl rfl rfl <;> clear hI hd <;> (try clear ih0)
      all_goals first | rfl | (refine scI ?_; have e1 := szT_all (f := (fun (x : List UInt8 × Int × Bool) => (x.1).length)) (l := l) (m := m) (by omega); omega)
set_option maxHeartbeats 1000000 in
set_option maxRecDepth 10000 in
theorem c_laws_szIntS (l : List Int) (k : Int) (hk : 0 ≤ k) (hk2 : k ≤ 1048576) (hl : l.length ≤ 9223372036854775807) : Pu Try.prog 154 [.c (.t none (.sl 1 encI (l))), .c (.t none (.v (.int .i64 (k))))] [] 0 (.c (.t none (.v (.int .i64 (if k - l.length < 0 then -1 else k - l.length))))) := by
  refine pu_enter Try.func154 rfl (Nat.le_of_ble_eq_true rfl) fun w S => ?_
  refine t_seq ?_
  refine t_region ?_
  refine r_op (o_assign rfl rfl) ?_
  refine r_end ?_
  refine t_seq ?_
  refine t_region ?_
  refine r_op (o_move rfl rfl) ?_
  refine r_op (o_move rfl rfl) ?_
  refine r_op (o_len rfl rfl rfl) ?_
  refine r_op (o_bin rfl rfl rfl rfl) ?_
  refine r_op (o_assign rfl rfl) ?_
  refine r_end ?_
  refine t_seq ?_
  refine t_seq ?_
  refine t_region ?_
  refine r_op (o_move rfl rfl) ?_
  refine r_op (o_bin rfl rfl rfl rfl) ?_
  refine r_end ?_
  refine t_cond rfl (fun h1 => ?_) (fun h1 => ?_)
  ·
    have h1' := h1
    try simp only [decide_eq_true_eq, decide_eq_false_iff_not, Bool.not_eq_true', Bool.not_eq_false', Bool.not_false, Bool.not_true] at h1'
    refine t_seq ?_
    refine t_region ?_
    refine r_op (o_assign rfl rfl) ?_
    refine r_end ?_
    refine t_ret Try.func154 (.tmp rfl .nil) rfl fun E S w u hI hd => ?_
    refine post_mk hI hd ?_ trivial rfl rfl rfl <;> clear hI hd
    all_goals first | rfl | (have e := wr64 (x := k - l.length) (by omega) (by omega); rw [e] at h1'; rw [if_pos (by omega)])
  ·
    have h1' := h1
    try simp only [decide_eq_true_eq, decide_eq_false_iff_not, Bool.not_eq_true', Bool.not_eq_false', Bool.not_false, Bool.not_true] at h1'
    refine t_skip ?_
    refine t_seq ?_
    refine t_region ?_
    refine r_op (o_move rfl rfl) ?_
    refine r_op (o_assign rfl rfl) ?_
    refine r_end ?_
    refine t_ret Try.func154 (.tmp rfl .nil) rfl fun E S w u hI hd => ?_
    refine post_mk hI hd ?_ trivial rfl rfl rfl <;> clear hI hd
    all_goals first | rfl | (have e := wr64 (x := k - l.length) (by omega) (by omega); rw [e] at h1'; rw [e, if_neg (by omega)])
set_option maxHeartbeats 1000000 in
set_option maxRecDepth 10000 in
theorem c_laws_szAtom (a0 : Int) (a1 : List (Int)) (k : Int) (hk : 0 ≤ k) (hk2 : k ≤ 1048576) (h1 : (okL okI) a1) : Pu Try.prog 97 [.agg [.t none (.v (.int .i64 (a0))), .t none (.sl 1 encI (a1))], .c (.t none (.v (.int .i64 (k))))] [] 0 (.c (.t none (.v (.int .i64 (if k - (((a1).length : Nat) : Int) < 0 then -1 else k - (((a1).length : Nat) : Int)))))) := by
  refine pu_enter Try.func97 rfl (Nat.le_of_ble_eq_true rfl) fun w S => ?_
  have g_a1 := h1.1
  refine t_seq ?_
  refine t_region ?_
  refine r_op (o_box 0 rfl rfl rfl rfl) ?_
  refine r_op (o_assign rfl rfl) ?_
  refine r_end ?_
  refine t_seq ?_
  refine t_region ?_
  refine r_op (o_fieldb rfl (off := 1) (by kernel_rfl) rfl) ?_
  refine r_op (o_load1b rfl (by kernel_rfl) rfl rfl rfl) ?_
  refine r_op (o_move rfl rfl) ?_
  refine r_op (o_call 1 1 false (Go.Proofs.enters_of Try.func154 (by kernel_rfl) rfl) (c_laws_szIntS (a1) (k) (by first | omega | (simp; omega)) (by first | omega | (simp; omega)) (by first | omega | (simp; omega))) rfl (.cons rfl (.c .t0) (.cons rfl (.c .t0) .nil)) rfl rfl rfl) ?_
  refine r_op (o_assign rfl rfl) ?_
  refine r_end ?_
  refine t_seq ?_
  refine t_seq ?_
  refine t_region ?_
  refine r_op (o_move rfl rfl) ?_
  refine r_op (o_bin rfl rfl rfl rfl) ?_
  refine r_end ?_
  refine t_cond rfl (fun h1 => ?_) (fun h1 => ?_)
  ·
    have h1' := h1
    try simp only [decide_eq_true_eq, decide_eq_false_iff_not, Bool.not_eq_true', Bool.not_eq_false', Bool.not_false, Bool.not_true] at h1'
    refine t_seq ?_
    refine t_region ?_
    refine r_op (o_assign rfl rfl) ?_
    refine r_end ?_
    refine t_ret Try.func97 (.tmp rfl .nil) rfl fun E S w u hI hd => ?_
    refine post_mk hI hd ?_ trivial rfl rfl rfl <;> clear hI hd
    all_goals first | rfl | (refine scI ?_; (try simp only [IntKind.wrap_i64] at *); omega)
  ·
    have h1' := h1
    try simp only [decide_eq_true_eq, decide_eq_false_iff_not, Bool.not_eq_true', Bool.not_eq_false', Bool.not_false, Bool.not_true] at h1'
    refine t_skip ?_
    refine t_seq ?_
    refine t_region ?_
    refine r_op (o_move rfl rfl) ?_
    refine r_op (o_assign rfl rfl) ?_
    refine r_end ?_
    refine t_ret Try.func97 (.tmp rfl .nil) rfl fun E S w u hI hd => ?_
    refine post_mk hI hd ?_ trivial rfl rfl rfl <;> clear hI hd
    all_goals first | rfl | (refine scI ?_; (try simp only [IntKind.wrap_i64] at *); omega)
set_option maxHeartbeats 1000000 in
set_option maxRecDepth 10000 in
theorem c_laws_szAtomS (l : List (Int × (List (Int)))) (k : Int) (hk : 0 ≤ k) (hk2 : k ≤ 1048576) (hl : (okL (fun (x : Int × (List (Int))) => okI (x.1) ∧ (okL okI) (x.2))) l) : Pu Try.prog 40 [.c (.t none (.sl 2 (enS2 encI (enSl 1 encI)) (l))), .c (.t none (.v (.int .i64 (k))))] [] 0 (.c (.t none (.v (.int .i64 (if k - ((szS (fun (x : Int × (List (Int))) => (x.2).length) l : Nat) : Int) < 0 then -1 else k - ((szS (fun (x : Int × (List (Int))) => (x.2).length) l : Nat) : Int)))))) := by
  refine pu_enter Try.func40 rfl (Nat.le_of_ble_eq_true rfl) fun w S => ?_
  have gl := hl.1
  refine t_seq ?_
  refine t_region ?_
  refine r_op (o_assign rfl rfl) ?_
  refine r_end ?_
  refine t_seq ?_
  refine t_region ?_
  refine r_op (o_move rfl rfl) ?_
  refine r_op (o_move rfl rfl) ?_
  refine r_op (o_len rfl rfl rfl) ?_
  refine r_op (o_bin rfl rfl rfl rfl) ?_
  refine r_op (o_assign rfl rfl) ?_
  refine r_end ?_
  refine t_seq ?_
  refine t_seq ?_
  refine t_region ?_
  refine r_op (o_move rfl rfl) ?_
  refine r_op (o_bin rfl rfl rfl rfl) ?_
  refine r_end ?_
  refine t_cond rfl (fun h1 => ?_) (fun h1 => ?_)
  ·
    have h1' := h1
    try simp only [decide_eq_true_eq, decide_eq_false_iff_not, Bool.not_eq_true', Bool.not_eq_false', Bool.not_false, Bool.not_true] at h1'
    refine t_seq ?_
    refine t_region ?_
    refine r_op (o_assign rfl rfl) ?_
    refine r_end ?_
    refine t_ret Try.func40 (.tmp rfl .nil) rfl fun E S w u hI hd => ?_
    refine post_mk hI hd ?_ trivial rfl rfl rfl <;> clear hI hd <;> (try clear ih0)
    all_goals first | rfl | (refine scI ?_; (simp only [IntKind.wrap_i64] at *); have e1 := sz_len (f := (fun (x : Int × (List (Int))) => (x.2).length)) (l := l); omega)
  ·
    have h1' := h1
    try simp only [decide_eq_true_eq, decide_eq_false_iff_not, Bool.not_eq_true', Bool.not_eq_false', Bool.not_false, Bool.not_true] at h1'
    refine t_skip ?_
    refine t_seq ?_
    refine t_seq ?_
    refine t_region ?_
    refine r_op (o_assign rfl rfl) ?_
    refine r_end ?_
    refine t_block ?_
    refine t_loopL (fun m => ⟨[(0, some (.c (.t none (.sl 2 (enS2 encI (enSl 1 encI)) (l))))), (1, some (.c (.t none (.v (.int .i64 (k - l.length - ((szT (fun (x : Int × (List (Int))) => (x.2).length) l m : Nat) : Int))))))), (5, some (.c (.t none (.v (.int .i64 ((m : Int)))))))], [], 0⟩ : Nat → St) (fun m => m ≤ l.length ∧ 0 ≤ k - l.length - ((szT (fun (x : Int × (List (Int))) => (x.2).length) l m : Nat) : Int)) (fun m => l.length - m) 0 ⟨⟨rfl, ⟨(eqI (by rw [wr64 (by omega) (by omega)]; simp [szT_zero])), ⟨rfl, trivial⟩⟩⟩, trivial, rfl⟩ (by exact ⟨Nat.zero_le _, by (simp only [IntKind.wrap_i64] at *); simp only [szT_zero]; omega⟩) ?_
    rintro m hI ih0
    try dsimp only at hI ih0
    obtain ⟨i1, i2⟩ := hI
    refine t_seq ?_
    refine t_seq ?_
    refine t_region ?_
    refine r_op (o_move rfl rfl) ?_
    refine r_op (o_move rfl rfl) ?_
    refine r_op (o_len rfl rfl rfl) ?_
    refine r_op (o_bin rfl rfl rfl rfl) ?_
    refine r_end ?_
    refine t_cond rfl (fun h2 => ?_) (fun h2 => ?_)
    ·
      have h2' := h2
      try simp only [decide_eq_true_eq, decide_eq_false_iff_not, Bool.not_eq_true', Bool.not_eq_false', Bool.not_false, Bool.not_true] at h2'
      refine t_skip ?_
      refine t_seq ?_
      refine t_block ?_
      refine t_seq ?_
      refine t_region ?_
      refine r_op (o_move rfl rfl) ?_
      refine r_op (o_move rfl rfl) ?_
      obtain ⟨z3, hz4, b5⟩ := at_get (xs := l) (n := (m : Int)) (by first | omega | (have ok := ok_at hl (by assumption); first | exact ok | exact ok.1 | exact ok.2 | exact ok.2.1 | exact ok.2.2 | exact ok.2.2.1 | exact ok.2.2.2.1 | exact ok.2.2.2.2)) (by first | omega | (have ok := ok_at hl (by assumption); first | exact ok | exact ok.1 | exact ok.2 | exact ok.2.1 | exact ok.2.2 | exact ok.2.2.1 | exact ok.2.2.2.1 | exact ok.2.2.2.2))
      refine r_op (o_index rfl (by kernel_rfl) rfl rfl b5 hz4) ?_
      refine r_op (o_loadA rfl (n := 2) (by kernel_rfl) (by kernel_rfl) rfl rfl) ?_
      refine r_op (o_move rfl rfl) ?_
      refine r_op (o_call 0 0 false (Go.Proofs.enters_of Try.func97 (by kernel_rfl) rfl) (c_laws_szAtom (z3.1) (z3.2) (k - l.length - ((szT (fun (x : Int × (List (Int))) => (x.2).length) l m : Nat) : Int)) (by first | omega | (have ok := ok_at hl (by assumption); first | exact ok | exact ok.1 | exact ok.2 | exact ok.2.1 | exact ok.2.2 | exact ok.2.2.1 | exact ok.2.2.2.1 | exact ok.2.2.2.2)) (by first | omega | (have ok := ok_at hl (by assumption); first | exact ok | exact ok.1 | exact ok.2 | exact ok.2.1 | exact ok.2.2 | exact ok.2.2.1 | exact ok.2.2.2.1 | exact ok.2.2.2.2)) (by first | omega | (have ok := ok_at hl (by assumption); first | exact ok | exact ok.1 | exact ok.2 | exact ok.2.1 | exact ok.2.2 | exact ok.2.2.1 | exact ok.2.2.2.1 | exact ok.2.2.2.2))) rfl (.cons rfl (.agg (.cons .t0 (.cons .t0 .nil))) (.cons rfl (.c .t0) .nil)) rfl rfl rfl) ?_
      refine r_op (o_assign rfl rfl) ?_
      refine r_end ?_
      refine t_seq ?_
      refine t_region ?_
      refine r_op (o_move rfl rfl) ?_
      refine r_op (o_bin rfl rfl rfl rfl) ?_
      refine r_end ?_
      refine t_cond rfl (fun h6 => ?_) (fun h6 => ?_)
      ·
        have h6' := h6
        try simp only [decide_eq_true_eq, decide_eq_false_iff_not, Bool.not_eq_true', Bool.not_eq_false', Bool.not_false, Bool.not_true] at h6'
        refine t_seq ?_
        refine t_region ?_
        refine r_op (o_assign rfl rfl) ?_
        refine r_end ?_
        refine t_ret Try.func40 (.tmp rfl .nil) rfl fun E S w u hI hd => ?_
        refine post_mk hI hd ?_ trivial rfl rfl rfl <;> clear hI hd <;> (try clear ih0)
        all_goals first | rfl | (refine scI ?_; have e1 := szT_step (f := (fun (x : Int × (List (Int))) => (x.2).length)) (l := l) (m := m) (by assumption); (try dsimp only at e1); have e2 := szT_le (f := (fun (x : Int × (List (Int))) => (x.2).length)) (l := l) (m + 1); omega)
      ·
        have h6' := h6
        try simp only [decide_eq_true_eq, decide_eq_false_iff_not, Bool.not_eq_true', Bool.not_eq_false', Bool.not_false, Bool.not_true] at h6'
        refine t_skip ?_
        refine t_endblock ?_
        refine t_region ?_
        refine r_op (o_move rfl rfl) ?_
        refine r_op (o_bin rfl rfl rfl rfl) ?_
        refine r_op (o_assign rfl rfl) ?_
        refine r_end ?_
        have e1 := szT_step (f := (fun (x : Int × (List (Int))) => (x.2).length)) (l := l) (m := m) (by assumption); try dsimp only at e1
        refine t_le ?_ (ih0 (m + 1) (by (try dsimp only); omega) (by (try dsimp only); constructor <;> omega))
        exact ⟨⟨rfl, ⟨(eqI (by omega)), ⟨(eqI (wrS (by omega))), trivial⟩⟩⟩, trivial, rfl⟩
    ·
      have h2' := h2
      try simp only [decide_eq_true_eq, decide_eq_false_iff_not, Bool.not_eq_true', Bool.not_eq_false', Bool.not_false, Bool.not_true] at h2'
      refine t_exit rfl ?_
      refine t_seq ?_
      refine t_region ?_
      refine r_op (o_move rfl rfl) ?_
      refine r_op (o_assign rfl rfl) ?_
      refine r_end ?_
      refine t_ret Try.func40 (.tmp rfl .nil) rfl fun E S w u hI hd => ?_
      refine post_mk hI hd ?_ trivial rfl rfl rfl <;> clear hI hd <;> (try clear ih0)
      all_goals first | rfl | (refine scI ?_; have e1 := szT_all (f := (fun (x : Int × (List (Int))) => (x.2).length)) (l := l) (m := m) (by omega); omega)
set_option maxHeartbeats 1000000 in
set_option maxRecDepth 10000 in
theorem c_laws_szDependency (a0 : List (Int × (List (Int)))) (a1 : List (Int × (List (Int)))) (a2 : Bool) (a3 : Int) (a4 : Int) (k : Int) (hk : 0 ≤ k) (hk2 : k ≤ 1048576) (h0 : (okL (fun (x : Int × (List (Int))) => okI (x.1) ∧ (okL okI) (x.2))) a0) (h1 : (okL (fun (x : Int × (List (Int))) => okI (x.1) ∧ (okL okI) (x.2))) a1) : Pu Try.prog 13 [.agg [.t none (.sl 2 (enS2 encI (enSl 1 encI)) (a0)), .t none (.sl 2 (enS2 encI (enSl 1 encI)) (a1)), .t none (.v (.bool (a2))), .t none (.v (.int .i64 (a3))), .t none (.v (.int .i64 (a4)))], .c (.t none (.v (.int .i64 (k))))] [] 0 (.c (.t none (.v (.int .i64 (if k - (((szS (fun (x : Int × (List (Int))) => (x.2).length) (a0)) + (szS (fun (x : Int × (List (Int))) => (x.2).length) (a1)) : Nat) : Int) < 0 then -1 else k - (((szS (fun (x : Int × (List (Int))) => (x.2).length) (a0)) + (szS (fun (x : Int × (List (Int))) => (x.2).length) (a1)) : Nat) : Int)))))) := by
  refine pu_enter Try.func13 rfl (Nat.le_of_ble_eq_true rfl) fun w S => ?_
  have g_a0 := h0.1; have g_a1 := h1.1
  refine t_seq ?_
  refine t_region ?_
  refine r_op (o_box 0 rfl rfl rfl rfl) ?_
  refine r_op (o_assign rfl rfl) ?_
  refine r_end ?_
  refine t_seq ?_
  refine t_region ?_
  refine r_op (o_fieldb rfl (off := 0) (by kernel_rfl) rfl) ?_
  refine r_op (o_load1b rfl (by kernel_rfl) rfl rfl rfl) ?_
  refine r_op (o_move rfl rfl) ?_
  refine r_op (o_call 1 1 false (Go.Proofs.enters_of Try.func40 (by kernel_rfl) rfl) (c_laws_szAtomS (a0) (k) (by first | omega | (simp; omega)) (by first | omega | (simp; omega)) (by first | omega | (simp; omega))) rfl (.cons rfl (.c .t0) (.cons rfl (.c .t0) .nil)) rfl rfl rfl) ?_
  refine r_op (o_assign rfl rfl) ?_
  refine r_end ?_
  refine t_seq ?_
  refine t_seq ?_
  refine t_region ?_
  refine r_op (o_move rfl rfl) ?_
  refine r_op (o_bin rfl rfl rfl rfl) ?_
  refine r_end ?_
  refine t_cond rfl (fun h1 => ?_) (fun h1 => ?_)
  ·
    have h1' := h1
    try simp only [decide_eq_true_eq, decide_eq_false_iff_not, Bool.not_eq_true', Bool.not_eq_false', Bool.not_false, Bool.not_true] at h1'
    refine t_seq ?_
    refine t_region ?_
    refine r_op (o_assign rfl rfl) ?_
    refine r_end ?_
    refine t_ret Try.func13 (.tmp rfl .nil) rfl fun E S w u hI hd => ?_
    refine post_mk hI hd ?_ trivial rfl rfl rfl <;> clear hI hd
    all_goals first | rfl | (refine scI ?_; (try simp only [IntKind.wrap_i64] at *); omega)
  ·
    have h1' := h1
    try simp only [decide_eq_true_eq, decide_eq_false_iff_not, Bool.not_eq_true', Bool.not_eq_false', Bool.not_false, Bool.not_true] at h1'
    refine t_skip ?_
    refine t_seq ?_
    refine t_region ?_
    refine r_op (o_fieldb rfl (off := 1) (by kernel_rfl) rfl) ?_
    refine r_op (o_load1b rfl (by kernel_rfl) rfl rfl rfl) ?_
    refine r_op (o_move rfl rfl) ?_
    refine r_op (o_call 1 1 false (Go.Proofs.enters_of Try.func40 (by kernel_rfl) rfl) (c_laws_szAtomS (a1) (if (k) - ((szS (fun (x : Int × (List (Int))) => (x.2).length) (a0) : Nat) : Int) < 0 then -1 else (k) - ((szS (fun (x : Int × (List (Int))) => (x.2).length) (a0) : Nat) : Int)) (by first | omega | (simp; omega)) (by first | omega | (simp; omega)) (by first | omega | (simp; omega))) rfl (.cons rfl (.c .t0) (.cons rfl (.c .t0) .nil)) rfl rfl rfl) ?_
    refine r_op (o_assign rfl rfl) ?_
    refine r_end ?_
    refine t_seq ?_
    refine t_seq ?_
    refine t_region ?_
    refine r_op (o_move rfl rfl) ?_
    refine r_op (o_bin rfl rfl rfl rfl) ?_
    refine r_end ?_
    refine t_cond rfl (fun h2 => ?_) (fun h2 => ?_)
    ·
      have h2' := h2
      try simp only [decide_eq_true_eq, decide_eq_false_iff_not, Bool.not_eq_true', Bool.not_eq_false', Bool.not_false, Bool.not_true] at h2'
      refine t_seq ?_
      refine t_region ?_
      refine r_op (o_assign rfl rfl) ?_
      refine r_end ?_
      refine t_ret Try.func13 (.tmp rfl .nil) rfl fun E S w u hI hd => ?_
      refine post_mk hI hd ?_ trivial rfl rfl rfl <;> clear hI hd
      all_goals first | rfl | (refine scI ?_; (try simp only [IntKind.wrap_i64] at *); omega)
    ·
      have h2' := h2
      try simp only [decide_eq_true_eq, decide_eq_false_iff_not, Bool.not_eq_true', Bool.not_eq_false', Bool.not_false, Bool.not_true] at h2'
      refine t_skip ?_
      refine t_seq ?_
      refine t_region ?_
      refine r_op (o_move rfl rfl) ?_
      refine r_op (o_assign rfl rfl) ?_
      refine r_end ?_
      refine t_ret Try.func13 (.tmp rfl .nil) rfl fun E S w u hI hd => ?_
      refine post_mk hI hd ?_ trivial rfl rfl rfl <;> clear hI hd
      all_goals first | rfl | (refine scI ?_; (try simp only [IntKind.wrap_i64] at *); omega)
set_option maxHeartbeats 1000000 in
set_option maxRecDepth 10000 in
theorem c_laws_szDependencyS (l : List ((List (Int × (List (Int)))) × (List (Int × (List (Int)))) × Bool × Int × Int)) (k : Int) (hk : 0 ≤ k) (hk2 : k ≤ 1048576) (hl : (okL (fun (x : (List (Int × (List (Int)))) × (List (Int × (List (Int)))) × Bool × Int × Int) => (okL (fun (x : Int × (List (Int))) => okI (x.1) ∧ (okL okI) (x.2))) (x.1) ∧ (okL (fun (x : Int × (List (Int))) => okI (x.1) ∧ (okL okI) (x.2))) (x.2.1) ∧ okB (x.2.2.1) ∧ okI (x.2.2.2.1) ∧ okI (x.2.2.2.2))) l) : Pu Try.prog 20 [.c (.t none (.sl 5 (enS5 (enSl 2 (enS2 encI (enSl 1 encI))) (enSl 2 (enS2 encI (enSl 1 encI))) encB encI encI) (l))), .c (.t none (.v (.int .i64 (k))))] [] 0 (.c (.t none (.v (.int .i64 (if k - ((szS (fun (x : (List (Int × (List (Int)))) × (List (Int × (List (Int)))) × Bool × Int × Int) => (szS (fun (x : Int × (List (Int))) => (x.2).length) (x.1)) + (szS (fun (x : Int × (List (Int))) => (x.2).length) (x.2.1))) l : Nat) : Int) < 0 then -1 else k - ((szS (fun (x : (List (Int × (List (Int)))) × (List (Int × (List (Int)))) × Bool × Int × Int) => (szS (fun (x : Int × (List (Int))) => (x.2).length) (x.1)) + (szS (fun (x : Int × (List (Int))) => (x.2).length) (x.2.1))) l : Nat) : Int)))))) := by
  refine pu_enter Try.func20 rfl (Nat.le_of_ble_eq_true rfl) fun w S => ?_
  have gl := hl.1
  refine t_seq ?_
  refine t_region ?_
  refine r_op (o_assign rfl rfl) ?_
  refine r_end ?_
  refine t_seq ?_
  refine t_region ?_
  refine r_op (o_move rfl rfl) ?_
  refine r_op (o_move rfl rfl) ?_
  refine r_op (o_len rfl rfl rfl) ?_
  refine r_op (o_bin rfl rfl rfl rfl) ?_
  refine r_op (o_assign rfl rfl) ?_
  refine r_end ?_
  refine t_seq ?_
  refine t_seq ?_
  refine t_region ?_
  refine r_op (o_move rfl rfl) ?_
  refine r_op (o_bin rfl rfl rfl rfl) ?_
  refine r_end ?_
  refine t_cond rfl (fun h1 => ?_) (fun h1 => ?_)
  ·
    have h1' := h1
    try simp only [decide_eq_true_eq, decide_eq_false_iff_not, Bool.not_eq_true', Bool.not_eq_false', Bool.not_false, Bool.not_true] at h1'
    refine t_seq ?_
    refine t_region ?_
    refine r_op (o_assign rfl rfl) ?_
    refine r_end ?_
    refine t_ret Try.func20 (.tmp rfl .nil) rfl fun E S w u hI hd => ?_
    refine post_mk hI hd ?_ trivial rfl rfl rfl <;> clear hI hd <;> (try clear ih0)
    all_goals first | rfl | (refine scI ?_; (simp only [IntKind.wrap_i64] at *); have e1 := sz_len (f := (fun (x : (List (Int × (List (Int)))) × (List (Int × (List (Int)))) × Bool × Int × Int) => (szS (fun (x : Int × (List (Int))) => (x.2).length) (x.1)) + (szS (fun (x : Int × (List (Int))) => (x.2).length) (x.2.1)))) (l := l); omega)
  ·
    have h1' := h1
    try simp only [decide_eq_true_eq, decide_eq_false_iff_not, Bool.not_eq_true', Bool.not_eq_false', Bool.not_false, Bool.not_true] at h1'
    refine t_skip ?_
    refine t_seq ?_
    refine t_seq ?_
    refine t_region ?_
    refine r_op (o_assign rfl rfl) ?_
    refine r_end ?_
    refine t_block ?_
    refine t_loopL (fun m => ⟨[(0, some (.c (.t none (.sl 5 (enS5 (enSl 2 (enS2 encI (enSl 1 encI))) (enSl 2 (enS2 encI (enSl 1 encI))) encB encI encI) (l))))), (1, some (.c (.t none (.v (.int .i64 (k - l.length - ((szT (fun (x : (List (Int × (List (Int)))) × (List (Int × (List (Int)))) × Bool × Int × Int) => (szS (fun (x : Int × (List (Int))) => (x.2).length) (x.1)) + (szS (fun (x : Int × (List (Int))) => (x.2).length) (x.2.1))) l m : Nat) : Int))))))), (5, some (.c (.t none (.v (.int .i64 ((m : Int)))))))], [], 0⟩ : Nat → St) (fun m => m ≤ l.length ∧ 0 ≤ k - l.length - ((szT (fun (x : (List (Int × (List (Int)))) × (List (Int × (List (Int)))) × Bool × Int × Int) => (szS (fun (x : Int × (List (Int))) => (x.2).length) (x.1)) + (szS (fun (x : Int × (List (Int))) => (x.2).length) (x.2.1))) l m : Nat) : Int)) (fun m => l.length - m) 0 ⟨⟨rfl, ⟨(eqI (by rw [wr64 (by omega) (by omega)]; simp [szT_zero])), ⟨rfl, trivial⟩⟩⟩, trivial, rfl⟩ (by exact ⟨Nat.zero_le _, by (simp only [IntKind.wrap_i64] at *); simp only [szT_zero]; omega⟩) ?_
    rintro m hI ih0
    try dsimp only at hI ih0
    obtain ⟨i1, i2⟩ := hI
    refine t_seq ?_
    refine t_seq ?_
    refine t_region ?_
    refine r_op (o_move rfl rfl) ?_
    refine r_op (o_move rfl rfl) ?_
    refine r_op (o_len rfl rfl rfl) ?_
    refine r_op (o_bin rfl rfl rfl rfl) ?_
    refine r_end ?_
    refine t_cond rfl (fun h2 => ?_) (fun h2 => ?_)
    ·
      have h2' := h2
      try simp only [decide_eq_true_eq, decide_eq_false_iff_not, Bool.not_eq_true', Bool.not_eq_false', Bool.not_false, Bool.not_true] at h2'
      refine t_skip ?_
      refine t_seq ?_
      refine t_block ?_
      refine t_seq ?_
      refine t_region ?_
      refine r_op (o_move rfl rfl) ?_
      refine r_op (o_move rfl rfl) ?_
      obtain ⟨z3, hz4, b5⟩ := at_get (xs := l) (n := (m : Int)) (by first | omega | (have ok := ok_at hl (by assumption); first | exact ok | exact ok.1 | exact ok.2 | exact ok.2.1 | exact ok.2.2 | exact ok.2.2.1 | exact ok.2.2.2.1 | exact ok.2.2.2.2)) (by first | omega | (have ok := ok_at hl (by assumption); first | exact ok | exact ok.1 | exact ok.2 | exact ok.2.1 | exact ok.2.2 | exact ok.2.2.1 | exact ok.2.2.2.1 | exact ok.2.2.2.2))
      refine r_op (o_index rfl (by kernel_rfl) rfl rfl b5 hz4) ?_
      refine r_op (o_loadA rfl (n := 5) (by kernel_rfl) (by kernel_rfl) rfl rfl) ?_
      refine r_op (o_move rfl rfl) ?_
      refine r_op (o_call 0 0 false (Go.Proofs.enters_of Try.func13 (by kernel_rfl) rfl) (c_laws_szDependency (z3.1) (z3.2.1) (z3.2.2.1) (z3.2.2.2.1) (z3.2.2.2.2) (k - l.length - ((szT (fun (x : (List (Int × (List (Int)))) × (List (Int × (List (Int)))) × Bool × Int × Int) => (szS (fun (x : Int × (List (Int))) => (x.2).length) (x.1)) + (szS (fun (x : Int × (List (Int))) => (x.2).length) (x.2.1))) l m : Nat) : Int)) (by first | omega | (have ok := ok_at hl (by assumption); first | exact ok | exact ok.1 | exact ok.2 | exact ok.2.1 | exact ok.2.2 | exact ok.2.2.1 | exact ok.2.2.2.1 | exact ok.2.2.2.2)) (by first | omega | (have ok := ok_at hl (by assumption); first | exact ok | exact ok.1 | exact ok.2 | exact ok.2.1 | exact ok.2.2 | exact ok.2.2.1 | exact ok.2.2.2.1 | exact ok.2.2.2.2)) (by first | omega | (have ok := ok_at hl (by assumption); first | exact ok | exact ok.1 | exact ok.2 | exact ok.2.1 | exact ok.2.2 | exact ok.2.2.1 | exact ok.2.2.2.1 | exact ok.2.2.2.2)) (by first | omega | (have ok := ok_at hl (by assumption); first | exact ok | exact ok.1 | exact ok.2 | exact ok.2.1 | exact ok.2.2 | exact ok.2.2.1 | exact ok.2.2.2.1 | exact ok.2.2.2.2))) rfl (.cons rfl (.agg (.cons .t0 (.cons .t0 (.cons .t0 (.cons .t0 (.cons .t0 .nil)))))) (.cons rfl (.c .t0) .nil)) rfl rfl rfl) ?_
      refine r_op (o_assign rfl rfl) ?_
      refine r_end ?_
      refine t_seq ?_
      refine t_region ?_
      refine r_op (o_move rfl rfl) ?_
      refine r_op (o_bin rfl rfl rfl rfl) ?_
      refine r_end ?_
      refine t_cond rfl (fun h6 => ?_) (fun h6 => ?_)
      ·
        have h6' := h6
        try simp only [decide_eq_true_eq, decide_eq_false_iff_not, Bool.not_eq_true', Bool.not_eq_false', Bool.not_false, Bool.not_true] at h6'
        refine t_seq ?_
        refine t_region ?_
        refine r_op (o_assign rfl rfl) ?_
        refine r_end ?_
        refine t_ret Try.func20 (.tmp rfl .nil) rfl fun E S w u hI hd => ?_
        refine post_mk hI hd ?_ trivial rfl rfl rfl <;> clear hI hd <;> (try clear ih0)
        all_goals first | rfl | (refine scI ?_; have e1 := szT_step (f := (fun (x : (List (Int × (List (Int)))) × (List (Int × (List (Int)))) × Bool × Int × Int) => (szS (fun (x : Int × (List (Int))) => (x.2).length) (x.1)) + (szS (fun (x : Int × (List (Int))) => (x.2).length) (x.2.1)))) (l := l) (m := m) (by assumption); (try dsimp only at e1); have e2 := szT_le (f := (fun (x : (List (Int × (List (Int)))) × (List (Int × (List (Int)))) × Bool × Int × Int) => (szS (fun (x : Int × (List (Int))) => (x.2).length) (x.1)) + (szS (fun (x : Int × (List (Int))) => (x.2).length) (x.2.1)))) (l := l) (m + 1); omega)
      ·
        have h6' := h6
        try simp only [decide_eq_true_eq, decide_eq_false_iff_not, Bool.not_eq_true', Bool.not_eq_false', Bool.not_false, Bool.not_true] at h6'
        refine t_skip ?_
        refine t_endblock ?_
        refine t_region ?_
        refine r_op (o_move rfl rfl) ?_
        refine r_op (o_bin rfl rfl rfl rfl) ?_
        refine r_op (o_assign rfl rfl) ?_
        refine r_end ?_
        have e1 := szT_step (f := (fun (x : (List (Int × (List (Int)))) × (List (Int × (List (Int)))) × Bool × Int × Int) => (szS (fun (x : Int × (List (Int))) => (x.2).length) (x.1)) + (szS (fun (x : Int × (List (Int))) => (x.2).length) (x.2.1)))) (l := l) (m := m) (by assumption); try dsimp only at e1
        refine t_le ?_ (ih0 (m + 1) (by (try dsimp only); omega) (by (try dsimp only); constructor <;> omega))
        exact ⟨⟨rfl, ⟨(eqI (by omega)), ⟨(eqI (wrS (by omega))), trivial⟩⟩⟩, trivial, rfl⟩
    ·
      have h2' := h2
      try simp only [decide_eq_true_eq, decide_eq_false_iff_not, Bool.not_eq_true', Bool.not_eq_false', Bool.not_false, Bool.not_true] at h2'
      refine t_exit rfl ?_
      refine t_seq ?_
      refine t_region ?_
      refine r_op (o_move rfl rfl) ?_
      refine r_op (o_assign rfl rfl) ?_
      refine r_end ?_
      refine t_ret Try.func20 (.tmp rfl .nil) rfl fun E S w u hI hd => ?_
      refine post_mk hI hd ?_ trivial rfl rfl rfl <;> clear hI hd <;> (try clear ih0)
      all_goals first | rfl | (refine scI ?_; have e1 := szT_all (f := (fun (x : (List (Int × (List (Int)))) × (List (Int × (List (Int)))) × Bool × Int × Int) => (szS (fun (x : Int × (List (Int))) => (x.2).length) (x.1)) + (szS (fun (x : Int × (List (Int))) => (x.2).length) (x.2.1)))) (l := l) (m := m) (by omega); omega)
set_option maxHeartbeats 1000000 in
set_option maxRecDepth 10000 in
theorem c_laws_toRelation (a0 : List UInt8) (a1 : Int) (a2 : Bool) (hs : (a0).length ≤ 1048576) : Pu Try.prog 66 [.agg [.t none (.v (.string (mkS (a0)))), .t none (.v (.int .i64 (a1))), .t none (.v (.bool (a2)))]] [] 3 (.agg [.t none (.v (.string (mkS (a0)))), .t none (.v (.int .i64 (a1))), .t none (.v (.bool (a2)))]) := by
  refine pu_enter Try.func66 rfl (Nat.le_of_ble_eq_true rfl) fun w S => ?_
  refine t_seq ?_
  refine t_region ?_
  refine r_op (o_box 0 rfl rfl rfl rfl) ?_
  refine r_op (o_alloc 1 (zs := [.string (mkS ([])), .int .i64 (0), .bool (false)]) rfl rfl (by kernel_rfl) rfl) ?_
  refine r_end ?_
  refine t_seq ?_
  refine t_region ?_
  refine r_op (o_alloc 2 (zs := [.string (mkS ([])), .int .i64 (0), .bool (false)]) rfl rfl (by kernel_rfl) rfl) ?_
  refine r_end ?_
  refine t_seq ?_
  refine t_region ?_
  refine r_op (o_fieldb rfl (off := 0) (by kernel_rfl) rfl) ?_
  refine r_op (o_load1b rfl (by kernel_rfl) rfl rfl rfl) ?_
  refine r_op (o_fieldb rfl (off := 0) (by kernel_rfl) rfl) ?_
  refine r_op (o_storeb (n := 1) (by kernel_rfl) rfl rfl rfl rfl rfl rfl) ?_
  refine r_end ?_
  refine t_seq ?_
  refine t_region ?_
  refine r_op (o_fieldb rfl (off := 1) (by kernel_rfl) rfl) ?_
  refine r_op (o_load1b rfl (by kernel_rfl) rfl rfl rfl) ?_
  refine r_op (o_fieldb rfl (off := 1) (by kernel_rfl) rfl) ?_
  refine r_op (o_storeb (n := 1) (by kernel_rfl) rfl rfl rfl rfl rfl rfl) ?_
  refine r_end ?_
  refine t_seq ?_
  refine t_region ?_
  refine r_op (o_fieldb rfl (off := 2) (by kernel_rfl) rfl) ?_
  refine r_op (o_load1b rfl (by kernel_rfl) rfl rfl rfl) ?_
  refine r_op (o_fieldb rfl (off := 2) (by kernel_rfl) rfl) ?_
  refine r_op (o_storeb (n := 1) (by kernel_rfl) rfl rfl rfl rfl rfl rfl) ?_
  refine r_end ?_
  refine t_seq ?_
  refine t_region ?_
  refine r_op (o_loadAb rfl (n := 3) (by kernel_rfl) (by kernel_rfl) rfl rfl rfl) ?_
  refine r_op (o_storeb (n := 3) (by kernel_rfl) rfl rfl rfl rfl rfl rfl) ?_
  refine r_end ?_
  refine t_ret Try.func66 (.cells (n := 3) (by kernel_rfl) (by kernel_rfl) rfl rfl rfl .nil) rfl fun E S w u hI hd => ?_
  refine post_mk hI hd ?_ trivial rfl rfl rfl <;> clear hI hd
  all_goals first | rfl | (simp_all <;> omega)
set_option maxHeartbeats 1000000 in
set_option maxRecDepth 10000 in
theorem c_laws_toRelationS (l : List (List UInt8 × Int × Bool)) (hs : szS (fun (x : List UInt8 × Int × Bool) => (x.1).length) l ≤ 1048576) : Pu Try.prog 15 [.c (.t none (.sl 3 (enS3 encS encI encB) (l)))] [(0, some (.row none 93 true 3 (enS3 encS encI encB) (l)))] 1 (.c (.own 0)) := by
  refine pu_enter Try.func15 rfl (Nat.le_of_ble_eq_true rfl) fun w S => ?_
  have gl := sz_len (f := (fun (x : List UInt8 × Int × Bool) => (x.1).length)) (l := l)
  refine t_seq ?_
  refine t_region ?_
  refine r_op (o_assign rfl rfl) ?_
  refine r_end ?_
  refine t_seq ?_
  refine t_region ?_
  refine r_op (o_move rfl rfl) ?_
  refine r_op (o_len rfl rfl rfl) ?_
  refine r_op (o_make 0 true (et := 93) (sz := 3) (by' := 32) (enS3 encS encI encB) (([], 0, false)) (zs := [.string (mkS ([])), .int .i64 (0), .bool (false)]) rfl rfl (by kernel_rfl) (by kernel_rfl) rfl rfl (.cons (.v rfl) (.cons (.v rfl) (.cons (.v rfl) .nil))) rfl rfl (by first | omega | (simp; omega) | (have e1 := sz_at (f := (fun (x : List UInt8 × Int × Bool) => (x.1).length)) (l := l) (m := m) (by assumption); (try dsimp only at e1); omega)) (by first | omega | (simp; omega) | (have e1 := sz_at (f := (fun (x : List UInt8 × Int × Bool) => (x.1).length)) (l := l) (m := m) (by assumption); (try dsimp only at e1); omega)) (by first | omega | (simp; omega) | (have e1 := sz_at (f := (fun (x : List UInt8 × Int × Bool) => (x.1).length)) (l := l) (m := m) (by assumption); (try dsimp only at e1); omega))) ?_
  refine r_op (o_assign rfl rfl) ?_
  refine r_end ?_
  refine t_seq ?_
  refine t_seq ?_
  refine t_region ?_
  refine r_op (o_assign rfl rfl) ?_
  refine r_end ?_
  refine t_block ?_
  refine t_loopL (fun m => ⟨[(0, some (.c (.t none (.sl 3 (enS3 encS encI encB) (l))))), (2, some (.c (.t none (.v (.slice none 0 0))))), (3, some (.c (.own 0))), (4, some (.c (.t none (.v (.int .i64 ((m : Int)))))))], [(0, some (.row none 93 true 3 (enS3 encS encI encB) (l.take m ++ List.replicate (l.length - m) (([], 0, false)))))], 1⟩ : Nat → St) (fun m => m ≤ l.length) (fun m => l.length - m) 0 ⟨⟨rfl, ⟨rfl, ⟨rfl, ⟨rfl, trivial⟩⟩⟩⟩, ⟨(eqR (by simp)), trivial⟩, rfl⟩ (by simp) ?_
  rintro m hI ih0
  try dsimp only at hI ih0
  refine t_seq ?_
  refine t_seq ?_
  refine t_region ?_
  refine r_op (o_move rfl rfl) ?_
  refine r_op (o_move rfl rfl) ?_
  refine r_op (o_len rfl rfl rfl) ?_
  refine r_op (o_bin rfl rfl rfl rfl) ?_
  refine r_end ?_
  refine t_cond rfl (fun h1 => ?_) (fun h1 => ?_)
  ·
    have h1' := h1
    try simp only [decide_eq_true_eq, decide_eq_false_iff_not, Bool.not_eq_true', Bool.not_eq_false', Bool.not_false, Bool.not_true] at h1'
    refine t_skip ?_
    refine t_seq ?_
    refine t_block ?_
    refine t_region ?_
    refine r_op (o_move rfl rfl) ?_
    refine r_op (o_move rfl rfl) ?_
    refine r_op (o_move rfl rfl) ?_
    refine r_op (o_move rfl rfl) ?_
    obtain ⟨z2, hz3, b4⟩ := at_get (xs := l) (n := (m : Int)) (by first | omega | (simp; omega) | (have e1 := sz_at (f := (fun (x : List UInt8 × Int × Bool) => (x.1).length)) (l := l) (m := m) (by assumption); (try dsimp only at e1); omega)) (by first | omega | (simp; omega) | (have e1 := sz_at (f := (fun (x : List UInt8 × Int × Bool) => (x.1).length)) (l := l) (m := m) (by assumption); (try dsimp only at e1); omega))
    refine r_op (o_index rfl (by kernel_rfl) rfl rfl b4 hz3) ?_
    refine r_op (o_loadA rfl (n := 3) (by kernel_rfl) (by kernel_rfl) rfl rfl) ?_
    refine r_op (o_call 1 4 false (Go.Proofs.enters_of Try.func66 (by kernel_rfl) rfl) (c_laws_toRelation (z2.1) (z2.2.1) (z2.2.2) (by first | omega | (simp; omega) | (have e1 := sz_at (f := (fun (x : List UInt8 × Int × Bool) => (x.1).length)) (l := l) (m := m) (by assumption); (try dsimp only at e1); omega))) rfl (.cons rfl (.agg (.cons .t0 (.cons .t0 (.cons .t0 .nil)))) .nil) rfl rfl rfl) ?_
    obtain ⟨z5, hz6, b7⟩ := at_get (xs := l.take m ++ List.replicate (l.length - m) (([], 0, false))) (n := (m : Int)) (by first | omega | (simp; omega) | (have e1 := sz_at (f := (fun (x : List UInt8 × Int × Bool) => (x.1).length)) (l := l) (m := m) (by assumption); (try dsimp only at e1); omega)) (by first | omega | (simp; omega) | (have e1 := sz_at (f := (fun (x : List UInt8 × Int × Bool) => (x.1).length)) (l := l) (m := m) (by assumption); (try dsimp only at e1); omega))
    refine r_op (o_indexo rfl (by kernel_rfl) rfl rfl rfl b7 (at_lt b7 hz6)) ?_
    refine r_op (o_storeo (((z2.1), (z2.2.1), (z2.2.2))) (n := 3) (by kernel_rfl) rfl rfl hz6 rfl rfl rfl rfl (.cons .sc (.cons .sc (.cons .sc .nil))) rfl (fun j h1 h2 => by simp at h1 h2; omega)) ?_
    refine r_end ?_
    refine t_endblock ?_
    refine t_region ?_
    refine r_op (o_move rfl rfl) ?_
    refine r_op (o_bin rfl rfl rfl rfl) ?_
    refine r_op (o_assign rfl rfl) ?_
    refine r_end ?_
    refine t_le ?_ (ih0 (m + 1) (by (try dsimp only); omega) (by (try dsimp only); omega))
    exact ⟨⟨rfl, ⟨rfl, ⟨rfl, ⟨(eqI (wrS (by omega))), trivial⟩⟩⟩⟩, ⟨(eqR (fill_set (by assumption))), trivial⟩, rfl⟩
  ·
    have h1' := h1
    try simp only [decide_eq_true_eq, decide_eq_false_iff_not, Bool.not_eq_true', Bool.not_eq_false', Bool.not_false, Bool.not_true] at h1'
    refine t_exit rfl ?_
    refine t_seq ?_
    refine t_region ?_
    refine r_op (o_move rfl rfl) ?_
    refine r_op (o_assign rfl rfl) ?_
    refine r_end ?_
    refine t_ret Try.func15 (.tmp rfl .nil) rfl fun E S w u hI hd => ?_
    refine post_mk hI hd ?_ ⟨eqR ?_, trivial⟩ rfl rfl rfl <;> clear hI hd <;> (try clear ih0)
    all_goals first | rfl | ((obtain rfl : m = l.length := by omega); simp)
set_option maxHeartbeats 1000000 in
set_option maxRecDepth 10000 in
theorem c_laws_toIntS (l : List Int) (hl : l.length ≤ 1048576) : Pu Try.prog 43 [.c (.t none (.sl 1 encI (l)))] [(0, some (.row none 3 true 1 encI (l)))] 1 (.c (.own 0)) := by
  refine pu_enter Try.func43 rfl (Nat.le_of_ble_eq_true rfl) fun w S => ?_
  refine t_seq ?_
  refine t_region ?_
  refine r_op (o_assign rfl rfl) ?_
  refine r_end ?_
  refine t_seq ?_
  refine t_region ?_
  refine r_op (o_move rfl rfl) ?_
  refine r_op (o_len rfl rfl rfl) ?_
  refine r_op (o_make 0 true (et := 3) (sz := 1) (by' := 8) encI (0) (zs := [.int .i64 (0)]) rfl rfl (by kernel_rfl) (by kernel_rfl) rfl rfl (.cons (.v rfl) .nil) rfl rfl (by first | omega | (simp; omega)) (by first | omega | (simp; omega)) (by first | omega | (simp; omega))) ?_
  refine r_op (o_assign rfl rfl) ?_
  refine r_end ?_
  refine t_seq ?_
  refine t_seq ?_
  refine t_region ?_
  refine r_op (o_assign rfl rfl) ?_
  refine r_end ?_
  refine t_block ?_
  refine t_loopL (fun m => ⟨[(0, some (.c (.t none (.sl 1 encI (l))))), (2, some (.c (.t none (.v (.slice none 0 0))))), (3, some (.c (.own 0))), (4, some (.c (.t none (.v (.int .i64 ((m : Int)))))))], [(0, some (.row none 3 true 1 encI (l.take m ++ List.replicate (l.length - m) 0)))], 1⟩ : Nat → St) (fun m => m ≤ l.length) (fun m => l.length - m) 0 ⟨⟨rfl, ⟨rfl, ⟨rfl, ⟨rfl, trivial⟩⟩⟩⟩, ⟨(eqR (by simp)), trivial⟩, rfl⟩ (by simp) ?_
  rintro m hI ih0
  try dsimp only at hI ih0
  refine t_seq ?_
  refine t_seq ?_
  refine t_region ?_
  refine r_op (o_move rfl rfl) ?_
  refine r_op (o_move rfl rfl) ?_
  refine r_op (o_len rfl rfl rfl) ?_
  refine r_op (o_bin rfl rfl rfl rfl) ?_
  refine r_end ?_
  refine t_cond rfl (fun h1 => ?_) (fun h1 => ?_)
  ·
    have h1' := h1
    try simp only [decide_eq_true_eq, decide_eq_false_iff_not, Bool.not_eq_true', Bool.not_eq_false', Bool.not_false, Bool.not_true] at h1'
    refine t_skip ?_
    refine t_seq ?_
    refine t_block ?_
    refine t_region ?_
    refine r_op (o_move rfl rfl) ?_
    refine r_op (o_move rfl rfl) ?_
    refine r_op (o_move rfl rfl) ?_
    refine r_op (o_move rfl rfl) ?_
    obtain ⟨z2, hz3, b4⟩ := at_get (xs := l) (n := (m : Int)) (by first | omega | (simp; omega)) (by first | omega | (simp; omega))
    refine r_op (o_index rfl (by kernel_rfl) rfl rfl b4 hz3) ?_
    refine r_op (o_load1 rfl (by kernel_rfl) rfl rfl) ?_
    obtain ⟨z5, hz6, b7⟩ := at_get (xs := l.take m ++ List.replicate (l.length - m) 0) (n := (m : Int)) (by first | omega | (simp; omega)) (by first | omega | (simp; omega))
    refine r_op (o_indexo rfl (by kernel_rfl) rfl rfl rfl b7 (at_lt b7 hz6)) ?_
    refine r_op (o_storeo (z2) (n := 1) (by kernel_rfl) rfl rfl hz6 rfl rfl rfl rfl (.cons .sc .nil) rfl (fun j h1 h2 => by simp at h1 h2; omega)) ?_
    refine r_end ?_
    refine t_endblock ?_
    refine t_region ?_
    refine r_op (o_move rfl rfl) ?_
    refine r_op (o_bin rfl rfl rfl rfl) ?_
    refine r_op (o_assign rfl rfl) ?_
    refine r_end ?_
    refine t_le ?_ (ih0 (m + 1) (by (try dsimp only); omega) (by (try dsimp only); omega))
    exact ⟨⟨rfl, ⟨rfl, ⟨rfl, ⟨(eqI (wrS (by omega))), trivial⟩⟩⟩⟩, ⟨(eqR (fill_set (by assumption))), trivial⟩, rfl⟩
  ·
    have h1' := h1
    try simp only [decide_eq_true_eq, decide_eq_false_iff_not, Bool.not_eq_true', Bool.not_eq_false', Bool.not_false, Bool.not_true] at h1'
    refine t_exit rfl ?_
    refine t_seq ?_
    refine t_region ?_
    refine r_op (o_move rfl rfl) ?_
    refine r_op (o_assign rfl rfl) ?_
    refine r_end ?_
    refine t_ret Try.func43 (.tmp rfl .nil) rfl fun E S w u hI hd => ?_
    refine post_mk hI hd ?_ ⟨eqR ?_, trivial⟩ rfl rfl rfl <;> clear hI hd <;> (try clear ih0)
    all_goals first | rfl | ((obtain rfl : m = l.length := by omega); simp)
set_option maxHeartbeats 1000000 in
set_option maxRecDepth 10000 in
theorem c_laws_toAtom (a0 : Int) (a1 : List (Int)) (hs : (a1).length ≤ 1048576) : Pu Try.prog 100 [.agg [.t none (.v (.int .i64 (a0))), .t none (.sl 1 encI (a1))]] [(3, some (.row none 3 true 1 encI (a1)))] 4 (.agg [.t none (.v (.int .i64 (a0))), .own 3]) := by
  refine pu_enter Try.func100 rfl (Nat.le_of_ble_eq_true rfl) fun w S => ?_
  refine t_seq ?_
  refine t_region ?_
  refine r_op (o_box 0 rfl rfl rfl rfl) ?_
  refine r_op (o_alloc 1 (zs := [.int .i64 (0), .slice none 0 0]) rfl rfl (by kernel_rfl) rfl) ?_
  refine r_end ?_
  refine t_seq ?_
  refine t_region ?_
  refine r_op (o_alloc 2 (zs := [.int .i64 (0), .slice none 0 0]) rfl rfl (by kernel_rfl) rfl) ?_
  refine r_end ?_
  refine t_seq ?_
  refine t_region ?_
  refine r_op (o_fieldb rfl (off := 0) (by kernel_rfl) rfl) ?_
  refine r_op (o_load1b rfl (by kernel_rfl) rfl rfl rfl) ?_
  refine r_op (o_fieldb rfl (off := 0) (by kernel_rfl) rfl) ?_
  refine r_op (o_storeb (n := 1) (by kernel_rfl) rfl rfl rfl rfl rfl rfl) ?_
  refine r_end ?_
  refine t_seq ?_
  refine t_region ?_
  refine r_op (o_fieldb rfl (off := 1) (by kernel_rfl) rfl) ?_
  refine r_op (o_load1b rfl (by kernel_rfl) rfl rfl rfl) ?_
  refine r_op (o_call 3 4 false (Go.Proofs.enters_of Try.func43 (by kernel_rfl) rfl) (c_laws_toIntS (a1) (by first | omega | (simp; omega))) rfl (.cons rfl (.c .t0) .nil) rfl rfl rfl) ?_
  refine r_op (o_fieldb rfl (off := 1) (by kernel_rfl) rfl) ?_
  refine r_op (o_storeb (n := 1) (by kernel_rfl) rfl rfl rfl rfl rfl rfl) ?_
  refine r_end ?_
  refine t_seq ?_
  refine t_region ?_
  refine r_op (o_loadAb rfl (n := 2) (by kernel_rfl) (by kernel_rfl) rfl rfl rfl) ?_
  refine r_op (o_storeb (n := 2) (by kernel_rfl) rfl rfl rfl rfl rfl rfl) ?_
  refine r_end ?_
  refine t_ret Try.func100 (.cells (n := 2) (by kernel_rfl) (by kernel_rfl) rfl rfl rfl .nil) rfl fun E S w u hI hd => ?_
  refine post_mk hI hd ?_ ⟨eqR ?_, trivial⟩ rfl rfl rfl <;> clear hI hd
  all_goals first | rfl | (simp_all <;> omega)
set_option maxHeartbeats 1000000 in
set_option maxRecDepth 10000 in
theorem c_laws_toAtomS (l : List (Int × (List (Int)))) (hs : szS (fun (x : Int × (List (Int))) => (x.2).length) l ≤ 1048576) : Pu Try.prog 42 [.c (.t none (.sl 2 (enS2 encI (enSl 1 encI)) (l)))] [(0, some (.row none 90 true 2 (enS2 encI (enSl 1 encI)) (l)))] 1 (.c (.own 0)) := by
  refine pu_enter Try.func42 rfl (Nat.le_of_ble_eq_true rfl) fun w S => ?_
  have gl := sz_len (f := (fun (x : Int × (List (Int))) => (x.2).length)) (l := l)
  refine t_seq ?_
  refine t_region ?_
  refine r_op (o_assign rfl rfl) ?_
  refine r_end ?_
  refine t_seq ?_
  refine t_region ?_
  refine r_op (o_move rfl rfl) ?_
  refine r_op (o_len rfl rfl rfl) ?_
  refine r_op (o_make 0 true (et := 90) (sz := 2) (by' := 32) (enS2 encI (enSl 1 encI)) ((0, [])) (zs := [.int .i64 (0), .slice none 0 0]) rfl rfl (by kernel_rfl) (by kernel_rfl) rfl rfl (.cons (.v rfl) (.cons .sl .nil)) rfl rfl (by first | omega | (simp; omega) | (have e1 := sz_at (f := (fun (x : Int × (List (Int))) => (x.2).length)) (l := l) (m := m) (by assumption); (try dsimp only at e1); omega)) (by first | omega | (simp; omega) | (have e1 := sz_at (f := (fun (x : Int × (List (Int))) => (x.2).length)) (l := l) (m := m) (by assumption); (try dsimp only at e1); omega)) (by first | omega | (simp; omega) | (have e1 := sz_at (f := (fun (x : Int × (List (Int))) => (x.2).length)) (l := l) (m := m) (by assumption); (try dsimp only at e1); omega))) ?_
  refine r_op (o_assign rfl rfl) ?_
  refine r_end ?_
  refine t_seq ?_
  refine t_seq ?_
  refine t_region ?_
  refine r_op (o_assign rfl rfl) ?_
  refine r_end ?_
  refine t_block ?_
  refine t_loopL (fun m => ⟨[(0, some (.c (.t none (.sl 2 (enS2 encI (enSl 1 encI)) (l))))), (2, some (.c (.t none (.v (.slice none 0 0))))), (3, some (.c (.own 0))), (4, some (.c (.t none (.v (.int .i64 ((m : Int)))))))], [(0, some (.row none 90 true 2 (enS2 encI (enSl 1 encI)) (l.take m ++ List.replicate (l.length - m) ((0, [])))))], 1⟩ : Nat → St) (fun m => m ≤ l.length) (fun m => l.length - m) 0 ⟨⟨rfl, ⟨rfl, ⟨rfl, ⟨rfl, trivial⟩⟩⟩⟩, ⟨(eqR (by simp)), trivial⟩, rfl⟩ (by simp) ?_
  rintro m hI ih0
  try dsimp only at hI ih0
  refine t_seq ?_
  refine t_seq ?_
  refine t_region ?_
  refine r_op (o_move rfl rfl) ?_
  refine r_op (o_move rfl rfl) ?_
  refine r_op (o_len rfl rfl rfl) ?_
  refine r_op (o_bin rfl rfl rfl rfl) ?_
  refine r_end ?_
  refine t_cond rfl (fun h1 => ?_) (fun h1 => ?_)
  ·
    have h1' := h1
    try simp only [decide_eq_true_eq, decide_eq_false_iff_not, Bool.not_eq_true', Bool.not_eq_false', Bool.not_false, Bool.not_true] at h1'
    refine t_skip ?_
    refine t_seq ?_
    refine t_block ?_
    refine t_region ?_
    refine r_op (o_move rfl rfl) ?_
    refine r_op (o_move rfl rfl) ?_
    refine r_op (o_move rfl rfl) ?_
    refine r_op (o_move rfl rfl) ?_
    obtain ⟨z2, hz3, b4⟩ := at_get (xs := l) (n := (m : Int)) (by first | omega | (simp; omega) | (have e1 := sz_at (f := (fun (x : Int × (List (Int))) => (x.2).length)) (l := l) (m := m) (by assumption); (try dsimp only at e1); omega)) (by first | omega | (simp; omega) | (have e1 := sz_at (f := (fun (x : Int × (List (Int))) => (x.2).length)) (l := l) (m := m) (by assumption); (try dsimp only at e1); omega))
    refine r_op (o_index rfl (by kernel_rfl) rfl rfl b4 hz3) ?_
    refine r_op (o_loadA rfl (n := 2) (by kernel_rfl) (by kernel_rfl) rfl rfl) ?_
    refine r_op (o_call 1 5 false (Go.Proofs.enters_of Try.func100 (by kernel_rfl) rfl) (c_laws_toAtom (z2.1) (z2.2) (by first | omega | (simp; omega) | (have e1 := sz_at (f := (fun (x : Int × (List (Int))) => (x.2).length)) (l := l) (m := m) (by assumption); (try dsimp only at e1); omega))) rfl (.cons rfl (.agg (.cons .t0 (.cons .t0 .nil))) .nil) rfl rfl rfl) ?_
    obtain ⟨z5, hz6, b7⟩ := at_get (xs := l.take m ++ List.replicate (l.length - m) ((0, []))) (n := (m : Int)) (by first | omega | (simp; omega) | (have e1 := sz_at (f := (fun (x : Int × (List (Int))) => (x.2).length)) (l := l) (m := m) (by assumption); (try dsimp only at e1); omega)) (by first | omega | (simp; omega) | (have e1 := sz_at (f := (fun (x : Int × (List (Int))) => (x.2).length)) (l := l) (m := m) (by assumption); (try dsimp only at e1); omega))
    refine r_op (o_indexo rfl (by kernel_rfl) rfl rfl rfl b7 (at_lt b7 hz6)) ?_
    refine r_op (o_storeo (((z2.1), (z2.2))) (n := 2) (by kernel_rfl) rfl rfl hz6 rfl rfl rfl rfl (.cons .sc (.take (.own rfl) rfl .nil)) rfl (fun j h1 h2 => by simp at h1 h2; omega)) ?_
    refine r_end ?_
    refine t_endblock ?_
    refine t_region ?_
    refine r_op (o_move rfl rfl) ?_
    refine r_op (o_bin rfl rfl rfl rfl) ?_
    refine r_op (o_assign rfl rfl) ?_
    refine r_end ?_
    refine t_le ?_ (ih0 (m + 1) (by (try dsimp only); omega) (by (try dsimp only); omega))
    exact ⟨⟨rfl, ⟨rfl, ⟨rfl, ⟨(eqI (wrS (by omega))), trivial⟩⟩⟩⟩, ⟨(eqR (fill_set (by assumption))), trivial⟩, rfl⟩
  ·
    have h1' := h1
    try simp only [decide_eq_true_eq, decide_eq_false_iff_not, Bool.not_eq_true', Bool.not_eq_false', Bool.not_false, Bool.not_true] at h1'
    refine t_exit rfl ?_
    refine t_seq ?_
    refine t_region ?_
    refine r_op (o_move rfl rfl) ?_
    refine r_op (o_assign rfl rfl) ?_
    refine r_end ?_
    refine t_ret Try.func42 (.tmp rfl .nil) rfl fun E S w u hI hd => ?_
    refine post_mk hI hd ?_ ⟨eqR ?_, trivial⟩ rfl rfl rfl <;> clear hI hd <;> (try clear ih0)
    all_goals first | rfl | ((obtain rfl : m = l.length := by omega); simp)
set_option maxHeartbeats 1000000 in
set_option maxRecDepth 10000 in
theorem c_laws_toDependency (a0 : List (Int × (List (Int)))) (a1 : List (Int × (List (Int)))) (a2 : Bool) (a3 : Int) (a4 : Int) (hs : (szS (fun (x : Int × (List (Int))) => (x.2).length) (a0)) + (szS (fun (x : Int × (List (Int))) => (x.2).length) (a1)) ≤ 1048576) : Pu Try.prog 16 [.agg [.t none (.sl 2 (enS2 encI (enSl 1 encI)) (a0)), .t none (.sl 2 (enS2 encI (enSl 1 encI)) (a1)), .t none (.v (.bool (a2))), .t none (.v (.int .i64 (a3))), .t none (.v (.int .i64 (a4)))]] [(3, some (.row none 90 true 2 (enS2 encI (enSl 1 encI)) (a0))), (4, some (.row none 90 true 2 (enS2 encI (enSl 1 encI)) (a1)))] 5 (.agg [.own 3, .own 4, .t none (.v (.bool (a2))), .t none (.v (.int .i64 (a3))), .t none (.v (.int .i64 (a4)))]) := by
  refine pu_enter Try.func16 rfl (Nat.le_of_ble_eq_true rfl) fun w S => ?_
  refine t_seq ?_
  refine t_region ?_
  refine r_op (o_box 0 rfl rfl rfl rfl) ?_
  refine r_op (o_alloc 1 (zs := [.slice none 0 0, .slice none 0 0, .bool (false), .int .i64 (0), .int .i64 (0)]) rfl rfl (by kernel_rfl) rfl) ?_
  refine r_end ?_
  refine t_seq ?_
  refine t_region ?_
  refine r_op (o_alloc 2 (zs := [.slice none 0 0, .slice none 0 0, .bool (false), .int .i64 (0), .int .i64 (0)]) rfl rfl (by kernel_rfl) rfl) ?_
  refine r_end ?_
  refine t_seq ?_
  refine t_region ?_
  refine r_op (o_fieldb rfl (off := 0) (by kernel_rfl) rfl) ?_
  refine r_op (o_load1b rfl (by kernel_rfl) rfl rfl rfl) ?_
  refine r_op (o_call 3 4 false (Go.Proofs.enters_of Try.func42 (by kernel_rfl) rfl) (c_laws_toAtomS (a0) (by first | omega | (simp; omega))) rfl (.cons rfl (.c .t0) .nil) rfl rfl rfl) ?_
  refine r_op (o_fieldb rfl (off := 0) (by kernel_rfl) rfl) ?_
  refine r_op (o_storeb (n := 1) (by kernel_rfl) rfl rfl rfl rfl rfl rfl) ?_
  refine r_end ?_
  refine t_seq ?_
  refine t_region ?_
  refine r_op (o_fieldb rfl (off := 1) (by kernel_rfl) rfl) ?_
  refine r_op (o_load1b rfl (by kernel_rfl) rfl rfl rfl) ?_
  refine r_op (o_call 4 5 false (Go.Proofs.enters_of Try.func42 (by kernel_rfl) rfl) (c_laws_toAtomS (a1) (by first | omega | (simp; omega))) rfl (.cons rfl (.c .t0) .nil) rfl rfl rfl) ?_
  refine r_op (o_fieldb rfl (off := 1) (by kernel_rfl) rfl) ?_
  refine r_op (o_storeb (n := 1) (by kernel_rfl) rfl rfl rfl rfl rfl rfl) ?_
  refine r_end ?_
  refine t_seq ?_
  refine t_region ?_
  refine r_op (o_fieldb rfl (off := 2) (by kernel_rfl) rfl) ?_
  refine r_op (o_load1b rfl (by kernel_rfl) rfl rfl rfl) ?_
  refine r_op (o_fieldb rfl (off := 2) (by kernel_rfl) rfl) ?_
  refine r_op (o_storeb (n := 1) (by kernel_rfl) rfl rfl rfl rfl rfl rfl) ?_
  refine r_end ?_
  refine t_seq ?_
  refine t_region ?_
  refine r_op (o_fieldb rfl (off := 3) (by kernel_rfl) rfl) ?_
  refine r_op (o_load1b rfl (by kernel_rfl) rfl rfl rfl) ?_
  refine r_op (o_fieldb rfl (off := 3) (by kernel_rfl) rfl) ?_
  refine r_op (o_storeb (n := 1) (by kernel_rfl) rfl rfl rfl rfl rfl rfl) ?_
  refine r_end ?_
  refine t_seq ?_
  refine t_region ?_
  refine r_op (o_fieldb rfl (off := 4) (by kernel_rfl) rfl) ?_
  refine r_op (o_load1b rfl (by kernel_rfl) rfl rfl rfl) ?_
  refine r_op (o_fieldb rfl (off := 4) (by kernel_rfl) rfl) ?_
  refine r_op (o_storeb (n := 1) (by kernel_rfl) rfl rfl rfl rfl rfl rfl) ?_
  refine r_end ?_
  refine t_seq ?_
  refine t_region ?_
  refine r_op (o_loadAb rfl (n := 5) (by kernel_rfl) (by kernel_rfl) rfl rfl rfl) ?_
  refine r_op (o_storeb (n := 5) (by kernel_rfl) rfl rfl rfl rfl rfl rfl) ?_
  refine r_end ?_
  refine t_ret Try.func16 (.cells (n := 5) (by kernel_rfl) (by kernel_rfl) rfl rfl rfl .nil) rfl fun E S w u hI hd => ?_
  refine post_mk hI hd ?_ ⟨eqR ?_, ⟨eqR ?_, trivial⟩⟩ rfl rfl rfl <;> clear hI hd
  all_goals first | rfl | (simp_all <;> omega)
set_option maxHeartbeats 1000000 in
set_option maxRecDepth 10000 in
theorem c_laws_toDependencyS (l : List ((List (Int × (List (Int)))) × (List (Int × (List (Int)))) × Bool × Int × Int)) (hs : szS (fun (x : (List (Int × (List (Int)))) × (List (Int × (List (Int)))) × Bool × Int × Int) => (szS (fun (x : Int × (List (Int))) => (x.2).length) (x.1)) + (szS (fun (x : Int × (List (Int))) => (x.2).length) (x.2.1))) l ≤ 1048576) : Pu Try.prog 22 [.c (.t none (.sl 5 (enS5 (enSl 2 (enS2 encI (enSl 1 encI))) (enSl 2 (enS2 encI (enSl 1 encI))) encB encI encI) (l)))] [(0, some (.row none 33 true 5 (enS5 (enSl 2 (enS2 encI (enSl 1 encI))) (enSl 2 (enS2 encI (enSl 1 encI))) encB encI encI) (l)))] 1 (.c (.own 0)) := by
  refine pu_enter Try.func22 rfl (Nat.le_of_ble_eq_true rfl) fun w S => ?_
  have gl := sz_len (f := (fun (x : (List (Int × (List (Int)))) × (List (Int × (List (Int)))) × Bool × Int × Int) => (szS (fun (x : Int × (List (Int))) => (x.2).length) (x.1)) + (szS (fun (x : Int × (List (Int))) => (x.2).length) (x.2.1)))) (l := l)
  refine t_seq ?_
  refine t_region ?_
  refine r_op (o_assign rfl rfl) ?_
  refine r_end ?_
  refine t_seq ?_
  refine t_region ?_
  refine r_op (o_move rfl rfl) ?_
  refine r_op (o_len rfl rfl rfl) ?_
  refine r_op (o_make 0 true (et := 33) (sz := 5) (by' := 72) (enS5 (enSl 2 (enS2 encI (enSl 1 encI))) (enSl 2 (enS2 encI (enSl 1 encI))) encB encI encI) (([], [], false, 0, 0)) (zs := [.slice none 0 0, .slice none 0 0, .bool (false), .int .i64 (0), .int .i64 (0)]) rfl rfl (by kernel_rfl) (by kernel_rfl) rfl rfl (.cons .sl (.cons .sl (.cons (.v rfl) (.cons (.v rfl) (.cons (.v rfl) .nil))))) rfl rfl (by first | omega | (simp; omega) | (have e1 := sz_at (f := (fun (x : (List (Int × (List (Int)))) × (List (Int × (List (Int)))) × Bool × Int × Int) => (szS (fun (x : Int × (List (Int))) => (x.2).length) (x.1)) + (szS (fun (x : Int × (List (Int))) => (x.2).length) (x.2.1)))) (l := l) (m := m) (by assumption); (try dsimp only at e1); omega)) (by first | omega | (simp; omega) | (have e1 := sz_at (f := (fun (x : (List (Int × (List (Int)))) × (List (Int × (List (Int)))) × Bool × Int × Int) => (szS (fun (x : Int × (List (Int))) => (x.2).length) (x.1)) + (szS (fun (x : Int × (List (Int))) => (x.2).length) (x.2.1)))) (l := l) (m := m) (by assumption); (try dsimp only at e1); omega)) (by first | omega | (simp; omega) | (have e1 := sz_at (f := (fun (x : (List (Int × (List (Int)))) × (List (Int × (List (Int)))) × Bool × Int × Int) => (szS (fun (x : Int × (List (Int))) => (x.2).length) (x.1)) + (szS (fun (x : Int × (List (Int))) => (x.2).length) (x.2.1)))) (l := l) (m := m) (by assumption); (try dsimp only at e1); omega))) ?_
  refine r_op (o_assign rfl rfl) ?_
  refine r_end ?_
  refine t_seq ?_
  refine t_seq ?_
  refine t_region ?_
  refine r_op (o_assign rfl rfl) ?_
  refine r_end ?_
  refine t_block ?_
  refine t_loopL (fun m => ⟨[(0, some (.c (.t none (.sl 5 (enS5 (enSl 2 (enS2 encI (enSl 1 encI))) (enSl 2 (enS2 encI (enSl 1 encI))) encB encI encI) (l))))), (2, some (.c (.t none (.v (.slice none 0 0))))), (3, some (.c (.own 0))), (4, some (.c (.t none (.v (.int .i64 ((m : Int)))))))], [(0, some (.row none 33 true 5 (enS5 (enSl 2 (enS2 encI (enSl 1 encI))) (enSl 2 (enS2 encI (enSl 1 encI))) encB encI encI) (l.take m ++ List.replicate (l.length - m) (([], [], false, 0, 0)))))], 1⟩ : Nat → St) (fun m => m ≤ l.length) (fun m => l.length - m) 0 ⟨⟨rfl, ⟨rfl, ⟨rfl, ⟨rfl, trivial⟩⟩⟩⟩, ⟨(eqR (by simp)), trivial⟩, rfl⟩ (by simp) ?_
  rintro m hI ih0
  try dsimp only at hI ih0
  refine t_seq ?_
  refine t_seq ?_
  refine t_region ?_
  refine r_op (o_move rfl rfl) ?_
  refine r_op (o_move rfl rfl) ?_
  refine r_op (o_len rfl rfl rfl) ?_
  refine r_op (o_bin rfl rfl rfl rfl) ?_
  refine r_end ?_
  refine t_cond rfl (fun h1 => ?_) (fun h1 => ?_)
  ·
    have h1' := h1
    try simp only [decide_eq_true_eq, decide_eq_false_iff_not, Bool.not_eq_true', Bool.not_eq_false', Bool.not_false, Bool.not_true] at h1'
    refine t_skip ?_
    refine t_seq ?_
    refine t_block ?_
    refine t_region ?_
    refine r_op (o_move rfl rfl) ?_
    refine r_op (o_move rfl rfl) ?_
    refine r_op (o_move rfl rfl) ?_
    refine r_op (o_move rfl rfl) ?_
    obtain ⟨z2, hz3, b4⟩ := at_get (xs := l) (n := (m : Int)) (by first | omega | (simp; omega) | (have e1 := sz_at (f := (fun (x : (List (Int × (List (Int)))) × (List (Int × (List (Int)))) × Bool × Int × Int) => (szS (fun (x : Int × (List (Int))) => (x.2).length) (x.1)) + (szS (fun (x : Int × (List (Int))) => (x.2).length) (x.2.1)))) (l := l) (m := m) (by assumption); (try dsimp only at e1); omega)) (by first | omega | (simp; omega) | (have e1 := sz_at (f := (fun (x : (List (Int × (List (Int)))) × (List (Int × (List (Int)))) × Bool × Int × Int) => (szS (fun (x : Int × (List (Int))) => (x.2).length) (x.1)) + (szS (fun (x : Int × (List (Int))) => (x.2).length) (x.2.1)))) (l := l) (m := m) (by assumption); (try dsimp only at e1); omega))
    refine r_op (o_index rfl (by kernel_rfl) rfl rfl b4 hz3) ?_
    refine r_op (o_loadA rfl (n := 5) (by kernel_rfl) (by kernel_rfl) rfl rfl) ?_
    refine r_op (o_call 1 6 false (Go.Proofs.enters_of Try.func16 (by kernel_rfl) rfl) (c_laws_toDependency (z2.1) (z2.2.1) (z2.2.2.1) (z2.2.2.2.1) (z2.2.2.2.2) (by first | omega | (simp; omega) | (have e1 := sz_at (f := (fun (x : (List (Int × (List (Int)))) × (List (Int × (List (Int)))) × Bool × Int × Int) => (szS (fun (x : Int × (List (Int))) => (x.2).length) (x.1)) + (szS (fun (x : Int × (List (Int))) => (x.2).length) (x.2.1)))) (l := l) (m := m) (by assumption); (try dsimp only at e1); omega))) rfl (.cons rfl (.agg (.cons .t0 (.cons .t0 (.cons .t0 (.cons .t0 (.cons .t0 .nil)))))) .nil) rfl rfl rfl) ?_
    obtain ⟨z5, hz6, b7⟩ := at_get (xs := l.take m ++ List.replicate (l.length - m) (([], [], false, 0, 0))) (n := (m : Int)) (by first | omega | (simp; omega) | (have e1 := sz_at (f := (fun (x : (List (Int × (List (Int)))) × (List (Int × (List (Int)))) × Bool × Int × Int) => (szS (fun (x : Int × (List (Int))) => (x.2).length) (x.1)) + (szS (fun (x : Int × (List (Int))) => (x.2).length) (x.2.1)))) (l := l) (m := m) (by assumption); (try dsimp only at e1); omega)) (by first | omega | (simp; omega) | (have e1 := sz_at (f := (fun (x : (List (Int × (List (Int)))) × (List (Int × (List (Int)))) × Bool × Int × Int) => (szS (fun (x : Int × (List (Int))) => (x.2).length) (x.1)) + (szS (fun (x : Int × (List (Int))) => (x.2).length) (x.2.1)))) (l := l) (m := m) (by assumption); (try dsimp only at e1); omega))
    refine r_op (o_indexo rfl (by kernel_rfl) rfl rfl rfl b7 (at_lt b7 hz6)) ?_
    refine r_op (o_storeo (((z2.1), (z2.2.1), (z2.2.2.1), (z2.2.2.2.1), (z2.2.2.2.2))) (n := 5) (by kernel_rfl) rfl rfl hz6 rfl rfl rfl rfl (.take (.own rfl) rfl (.take (.own rfl) rfl (.cons .sc (.cons .sc (.cons .sc .nil))))) rfl (fun j h1 h2 => by simp at h1 h2; omega)) ?_
    refine r_end ?_
    refine t_endblock ?_
    refine t_region ?_
    refine r_op (o_move rfl rfl) ?_
    refine r_op (o_bin rfl rfl rfl rfl) ?_
    refine r_op (o_assign rfl rfl) ?_
    refine r_end ?_
    refine t_le ?_ (ih0 (m + 1) (by (try dsimp only); omega) (by (try dsimp only); omega))
    exact ⟨⟨rfl, ⟨rfl, ⟨rfl, ⟨(eqI (wrS (by omega))), trivial⟩⟩⟩⟩, ⟨(eqR (fill_set (by assumption))), trivial⟩, rfl⟩
  ·
    have h1' := h1
    try simp only [decide_eq_true_eq, decide_eq_false_iff_not, Bool.not_eq_true', Bool.not_eq_false', Bool.not_false, Bool.not_true] at h1'
    refine t_exit rfl ?_
    refine t_seq ?_
    refine t_region ?_
    refine r_op (o_move rfl rfl) ?_
    refine r_op (o_assign rfl rfl) ?_
    refine r_end ?_
    refine t_ret Try.func22 (.tmp rfl .nil) rfl fun E S w u hI hd => ?_
    refine post_mk hI hd ?_ ⟨eqR ?_, trivial⟩ rfl rfl rfl <;> clear hI hd <;> (try clear ih0)
    all_goals first | rfl | ((obtain rfl : m = l.length := by omega); simp)
set_option maxHeartbeats 1000000 in
set_option maxRecDepth 10000 in
theorem c_spec_AreValidDependencies (rs : Rels) (l : List Dep) (hrs : rs.length ≤ 4611686018427387904) (hs : szS (fun (x : (List (Int × (List (Int)))) × (List (Int × (List (Int)))) × Bool × Int × Int) => (szS (fun (x : Int × (List (Int))) => (x.2).length) (x.1)) + (szS (fun (x : Int × (List (Int))) => (x.2).length) (x.2.1))) l ≤ 1048576) : Pu Try.prog 21 [.c (.t none (.sl 3 (enS3 encS encI encB) (rs))), .c (.t none (.sl 5 (enS5 (enSl 2 (enS2 encI (enSl 1 encI))) (enSl 2 (enS2 encI (enSl 1 encI))) encB encI encI) (l)))] [] 0 (.c (.t none (.v (.bool (depsOk rs l))))) := by
  refine pu_enter Try.func21 rfl (Nat.le_of_ble_eq_true rfl) fun w S => ?_
  have gl := sz_len (f := (fun (x : (List (Int × (List (Int)))) × (List (Int × (List (Int)))) × Bool × Int × Int) => (szS (fun (x : Int × (List (Int))) => (x.2).length) (x.1)) + (szS (fun (x : Int × (List (Int))) => (x.2).length) (x.2.1)))) (l := l)
  refine t_seq ?_
  refine t_region ?_
  refine r_op (o_assign rfl rfl) ?_
  refine r_end ?_
  refine t_seq ?_
  refine t_seq ?_
  refine t_region ?_
  refine r_op (o_assign rfl rfl) ?_
  refine r_end ?_
  refine t_block ?_
  refine t_loopL (fun m => ⟨[(0, some (.c (.t none (.sl 3 (enS3 encS encI encB) (rs))))), (1, some (.c (.t none (.sl 5 (enS5 (enSl 2 (enS2 encI (enSl 1 encI))) (enSl 2 (enS2 encI (enSl 1 encI))) encB encI encI) (l))))), (5, some (.c (.t none (.v (.int .i64 ((m : Int)))))))], [], 0⟩ : Nat → St) (fun m => m ≤ l.length ∧ ∀ j z, j < m → l[j]? = some z → badD rs z = false) (fun m => l.length - m) 0 ⟨⟨rfl, ⟨rfl, ⟨rfl, trivial⟩⟩⟩, trivial, rfl⟩ (by exact ⟨Nat.zero_le _, fun j z h => by omega⟩) ?_
  rintro m hI ih0
  try dsimp only at hI ih0
  obtain ⟨i1, i2⟩ := hI; have iA : l.length ≤ m → l.any (badD rs) = false := fun e => any_false i2 e
  refine t_seq ?_
  refine t_seq ?_
  refine t_region ?_
  refine r_op (o_move rfl rfl) ?_
  refine r_op (o_move rfl rfl) ?_
  refine r_op (o_len rfl rfl rfl) ?_
  refine r_op (o_bin rfl rfl rfl rfl) ?_
  refine r_end ?_
  refine t_cond rfl (fun h1 => ?_) (fun h1 => ?_)
  ·
    have h1' := h1
    try simp only [decide_eq_true_eq, decide_eq_false_iff_not, Bool.not_eq_true', Bool.not_eq_false', Bool.not_false, Bool.not_true] at h1'
    refine t_skip ?_
    refine t_seq ?_
    refine t_block ?_
    refine t_seq ?_
    refine t_region ?_
    refine r_op (o_move rfl rfl) ?_
    refine r_op (o_move rfl rfl) ?_
    refine r_op (o_move rfl rfl) ?_
    obtain ⟨z2, hz3, b4⟩ := at_get (xs := l) (n := (m : Int)) (by first | omega | assumption | (have e1 := sz_at (f := (fun (x : (List (Int × (List (Int)))) × (List (Int × (List (Int)))) × Bool × Int × Int) => (szS (fun (x : Int × (List (Int))) => (x.2).length) (x.1)) + (szS (fun (x : Int × (List (Int))) => (x.2).length) (x.2.1)))) (l := l) (m := m) (by assumption); (try dsimp only at e1); omega)) (by first | omega | assumption | (have e1 := sz_at (f := (fun (x : (List (Int × (List (Int)))) × (List (Int × (List (Int)))) × Bool × Int × Int) => (szS (fun (x : Int × (List (Int))) => (x.2).length) (x.1)) + (szS (fun (x : Int × (List (Int))) => (x.2).length) (x.2.1)))) (l := l) (m := m) (by assumption); (try dsimp only at e1); omega))
    refine r_op (o_index rfl (by kernel_rfl) rfl rfl b4 hz3) ?_
    refine r_op (o_loadA rfl (n := 5) (by kernel_rfl) (by kernel_rfl) rfl rfl) ?_
    refine r_op (o_call 0 0 false (Go.Proofs.enters_of Try.func14 (by kernel_rfl) rfl) (c_spec_IsValidDependency (rs) (z2.1) (z2.2.1) (z2.2.2.1) (z2.2.2.2.1) (z2.2.2.2.2) (by first | omega | assumption | (have e1 := sz_at (f := (fun (x : (List (Int × (List (Int)))) × (List (Int × (List (Int)))) × Bool × Int × Int) => (szS (fun (x : Int × (List (Int))) => (x.2).length) (x.1)) + (szS (fun (x : Int × (List (Int))) => (x.2).length) (x.2.1)))) (l := l) (m := m) (by assumption); (try dsimp only at e1); omega)) (by first | omega | assumption | (have e1 := sz_at (f := (fun (x : (List (Int × (List (Int)))) × (List (Int × (List (Int)))) × Bool × Int × Int) => (szS (fun (x : Int × (List (Int))) => (x.2).length) (x.1)) + (szS (fun (x : Int × (List (Int))) => (x.2).length) (x.2.1)))) (l := l) (m := m) (by assumption); (try dsimp only at e1); omega))) rfl (.cons rfl (.c .t0) (.cons rfl (.agg (.cons .t0 (.cons .t0 (.cons .t0 (.cons .t0 (.cons .t0 .nil)))))) .nil)) rfl rfl rfl) ?_
    refine r_op (o_not rfl rfl) ?_
    refine r_end ?_
    refine t_cond rfl (fun h5 => ?_) (fun h5 => ?_)
    ·
      have h5' := h5
      try simp only [decide_eq_true_eq, decide_eq_false_iff_not, Bool.not_eq_true', Bool.not_eq_false', Bool.not_false, Bool.not_true] at h5'
      refine t_seq ?_
      refine t_region ?_
      refine r_op (o_assign rfl rfl) ?_
      refine r_end ?_
      refine t_ret Try.func21 (.tmp rfl .nil) rfl fun E S w u hI hd => ?_
      refine post_mk hI hd ?_ trivial rfl rfl rfl <;> clear hI hd <;> (try clear ih0)
      all_goals first | rfl | (refine scB ?_; (try (have qA := iA (by omega))); (try (have qB := any_true (p := badD rs) (l := l) (m := m) hz3 (by unfold badD; grind))); clear hs gl; unfold depsOk; grind)
    ·
      have h5' := h5
      try simp only [decide_eq_true_eq, decide_eq_false_iff_not, Bool.not_eq_true', Bool.not_eq_false', Bool.not_false, Bool.not_true] at h5'
      refine t_skip ?_
      refine t_endblock ?_
      refine t_region ?_
      refine r_op (o_move rfl rfl) ?_
      refine r_op (o_bin rfl rfl rfl rfl) ?_
      refine r_op (o_assign rfl rfl) ?_
      refine r_end ?_
      refine t_le ?_ (ih0 (m + 1) (by (try dsimp only); omega) (by (try dsimp only); exact ⟨by omega, no_step i2 (by assumption) rfl (by unfold badD; grind)⟩))
      exact ⟨⟨rfl, ⟨rfl, ⟨(eqI (wr64 (by omega) (by omega))), trivial⟩⟩⟩, trivial, rfl⟩
  ·
    have h1' := h1
    try simp only [decide_eq_true_eq, decide_eq_false_iff_not, Bool.not_eq_true', Bool.not_eq_false', Bool.not_false, Bool.not_true] at h1'
    refine t_exit rfl ?_
    refine t_seq ?_
    refine t_region ?_
    refine r_op (o_move rfl rfl) ?_
    refine r_op (o_call 0 0 false (Go.Proofs.enters_of Try.func73 (by kernel_rfl) rfl) (c_spec_AreValidRelations (rs) (by first | omega | assumption | (have e1 := sz_at (f := (fun (x : (List (Int × (List (Int)))) × (List (Int × (List (Int)))) × Bool × Int × Int) => (szS (fun (x : Int × (List (Int))) => (x.2).length) (x.1)) + (szS (fun (x : Int × (List (Int))) => (x.2).length) (x.2.1)))) (l := l) (m := m) (by assumption); (try dsimp only at e1); omega))) rfl (.cons rfl (.c .t0) .nil) rfl rfl rfl) ?_
    refine r_op (o_move rfl rfl) ?_
    refine r_guard rfl rfl rfl (fun g6 => ?_) (fun g6 => ?_)
    ·
      have g6' := g6
      skip
      refine r_op (o_move rfl rfl) ?_
      refine r_guard rfl rfl rfl (fun _ => ?_) (fun h' => (Bool.noConfusion (g6.symm.trans h')))
      refine r_op (o_len rfl rfl rfl) ?_
      refine r_guard rfl rfl rfl (fun _ => ?_) (fun h' => (Bool.noConfusion (g6.symm.trans h')))
      refine r_op (o_bin rfl rfl rfl rfl) ?_
      refine r_op (o_pickT rfl rfl g6 rfl) ?_
      refine r_op (o_assign rfl rfl) ?_
      refine r_end ?_
      refine t_ret Try.func21 (.tmp rfl .nil) rfl fun E S w u hI hd => ?_
      refine post_mk hI hd ?_ trivial rfl rfl rfl <;> clear hI hd <;> (try clear ih0)
      all_goals first | rfl | (refine scB ?_; (try (have qA := iA (by omega))); (try (have qB := any_true (p := badD rs) (l := l) (m := m) (by assumption) (by unfold badD; grind))); clear hs gl; unfold depsOk; grind)
    ·
      have g6' := g6
      skip
      refine r_guard rfl rfl rfl (fun h' => (Bool.noConfusion (g6.symm.trans h'))) (fun _ => ?_)
      refine r_guard rfl rfl rfl (fun h' => (Bool.noConfusion (g6.symm.trans h'))) (fun _ => ?_)
      refine r_op (o_pickF rfl rfl g6 rfl) ?_
      refine r_op (o_assign rfl rfl) ?_
      refine r_end ?_
      refine t_ret Try.func21 (.tmp rfl .nil) rfl fun E S w u hI hd => ?_
      refine post_mk hI hd ?_ trivial rfl rfl rfl <;> clear hI hd <;> (try clear ih0)
      all_goals first | rfl | (refine scB ?_; (try (have qA := iA (by omega))); (try (have qB := any_true (p := badD rs) (l := l) (m := m) (by assumption) (by unfold badD; grind))); clear hs gl; unfold depsOk; grind)
set_option maxHeartbeats 1000000 in
set_option maxRecDepth 10000 in
theorem c_impl_AreValidDependencies_1 (a0 : List (Int × (List (Int)))) (a1 : List (Int × (List (Int)))) (a2 : Bool) (a3 : Int) (a4 : Int) (rs : Rels) (hrs : rs.length ≤ 4611686018427387904) (hs : szS (fun (x : Int × (List (Int))) => (x.2).length) a0 + szS (fun (x : Int × (List (Int))) => (x.2).length) a1 ≤ 1048576) : Pu Try.prog 76 [.agg [.t none (.sl 2 (enS2 encI (enSl 1 encI)) (a0)), .t none (.sl 2 (enS2 encI (enSl 1 encI)) (a1)), .t none (.v (.bool (a2))), .t none (.v (.int .i64 (a3))), .t none (.v (.int .i64 (a4)))], .c (.pel none ((enSl 3 (enS3 encS encI encB)) (rs)) 1)] [] 0 (.c (.t none (.v (.bool (badD rs (a0, a1, a2, a3, a4)))))) := by
  refine pu_enter Try.func76 rfl (Nat.le_of_ble_eq_true rfl) fun w S => ?_
  refine t_seq ?_
  refine t_region ?_
  refine r_op (o_box 0 rfl rfl rfl rfl) ?_
  refine r_op (o_assign rfl rfl) ?_
  refine r_end ?_
  refine t_seq ?_
  refine t_region ?_
  refine r_op (o_load1 rfl (by kernel_rfl) rfl rfl) ?_
  refine r_op (o_loadAb rfl (n := 5) (by kernel_rfl) (by kernel_rfl) rfl rfl rfl) ?_
  refine r_op (o_call 1 1 false (Go.Proofs.enters_of Try.func17 (by kernel_rfl) rfl) (c_impl_IsValidDependency (rs) (a0) (a1) (a2) (a3) (a4) (by first | omega | (simp; omega)) (by first | omega | (simp; omega))) rfl (.cons rfl (.c .t0) (.cons rfl (.agg (.cons .t0 (.cons .t0 (.cons .t0 (.cons .t0 (.cons .t0 .nil)))))) .nil)) rfl rfl rfl) ?_
  refine r_op (o_not rfl rfl) ?_
  refine r_op (o_assign rfl rfl) ?_
  refine r_end ?_
  refine t_ret Try.func76 (.tmp rfl .nil) rfl fun E S w u hI hd => ?_
  refine post_mk hI hd ?_ trivial rfl rfl rfl <;> clear hI hd
  all_goals first | rfl | (rfl)
set_option maxHeartbeats 1000000 in
set_option maxRecDepth 10000 in
theorem c_slices_IndexFunc___impl_Dependency_impl_Dependency_ (l : List ((List (Int × (List (Int)))) × (List (Int × (List (Int)))) × Bool × Int × Int)) (f : Nat) (cs : List ((Nat → T) × Nat)) (p : (List (Int × (List (Int)))) × (List (Int × (List (Int)))) × Bool × Int × Int → Bool) (hl : l.length ≤ 9223372036854775807) (hf : ∀ x ∈ l, Fu Try.prog f ([.agg [.t none (.sl 2 (enS2 encI (enSl 1 encI)) (x.1)), .t none (.sl 2 (enS2 encI (enSl 1 encI)) (x.2.1)), .t none (.v (.bool (x.2.2.1))), .t none (.v (.int .i64 (x.2.2.2.1))), .t none (.v (.int .i64 (x.2.2.2.2)))]] ++ pels cs) (.c (.t none (.v (.bool (p x)))))) : Pu Try.prog 131 [.c (.t none (.sl 5 (enS5 (enSl 2 (enS2 encI (enSl 1 encI))) (enSl 2 (enS2 encI (enSl 1 encI))) encB encI encI) (l))), .c (.fv f cs)] [] 0 (.c (.t none (.v (.int .i64 (idxI p l))))) := by
  refine pu_enter Try.func131 rfl (Nat.le_of_ble_eq_true rfl) fun w S => ?_
  refine t_seq ?_
  refine t_region ?_
  refine r_op (o_assign rfl rfl) ?_
  refine r_end ?_
  refine t_seq ?_
  refine t_seq ?_
  refine t_region ?_
  refine r_op (o_move rfl rfl) ?_
  refine r_op (o_len rfl rfl rfl) ?_
  refine r_op (o_move rfl rfl) ?_
  refine r_end ?_
  refine t_block ?_
  refine t_loopL (fun m => ⟨[(0, some (.c (.t none (.sl 5 (enS5 (enSl 2 (enS2 encI (enSl 1 encI))) (enSl 2 (enS2 encI (enSl 1 encI))) encB encI encI) (l))))), (1, some (.c (.fv f cs))), (7, some (.c (.t none (.v (.int .i64 (((l).length : Int))))))), (8, some (.c (.t none (.v (.int .i64 ((m : Int)))))))], [], 0⟩ : Nat → St) (fun m => m ≤ l.length ∧ ∀ j z, j < m → l[j]? = some z → p z = false) (fun m => l.length - m) 0 ⟨⟨rfl, ⟨rfl, ⟨rfl, ⟨rfl, trivial⟩⟩⟩⟩, trivial, rfl⟩ (by exact ⟨Nat.zero_le _, fun j z h => by omega⟩) ?_
  rintro m hI ih0
  try dsimp only at hI ih0
  obtain ⟨i1, i2⟩ := hI
  refine t_seq ?_
  refine t_region ?_
  refine r_op (o_bin rfl rfl rfl rfl) ?_
  refine r_end ?_
  refine t_seq ?_
  refine t_cond rfl (fun h1 => ?_) (fun h1 => ?_)
  ·
    have h1' := h1
    try simp only [decide_eq_true_eq, decide_eq_false_iff_not, Bool.not_eq_true', Bool.not_eq_false', Bool.not_false, Bool.not_true] at h1'
    refine t_skip ?_
    refine t_seq ?_
    refine t_block ?_
    refine t_seq ?_
    refine t_region ?_
    refine r_op (o_move rfl rfl) ?_
    refine r_op (o_assign rfl rfl) ?_
    refine r_end ?_
    refine t_seq ?_
    refine t_region ?_
    refine r_op (o_move rfl rfl) ?_
    refine r_op (o_move rfl rfl) ?_
    refine r_op (o_move rfl rfl) ?_
    obtain ⟨z2, hz3, b4⟩ := at_get (xs := l) (n := (m : Int)) (by first | omega | (simp; omega)) (by first | omega | (simp; omega))
    refine r_op (o_index rfl (by kernel_rfl) rfl rfl b4 hz3) ?_
    refine r_op (o_loadA rfl (n := 5) (by kernel_rfl) (by kernel_rfl) rfl rfl) ?_
    refine r_op (o_callv 0 0 false (hf z2 (List.mem_of_getElem? (by assumption))).1 (hf z2 (List.mem_of_getElem? (by assumption))).2 rfl rfl (.c .fv) (.cons rfl (.agg (.cons .t0 (.cons .t0 (.cons .t0 (.cons .t0 (.cons .t0 .nil)))))) .nil) rfl rfl rfl) ?_
    refine r_end ?_
    refine t_cond rfl (fun h5 => ?_) (fun h5 => ?_)
    ·
      have h5' := h5
      skip
      refine t_seq ?_
      refine t_region ?_
      refine r_op (o_move rfl rfl) ?_
      refine r_op (o_assign rfl rfl) ?_
      refine r_end ?_
      refine t_ret Try.func131 (.tmp rfl .nil) rfl fun E S w u hI hd => ?_
      refine post_mk hI hd ?_ trivial rfl rfl rfl <;> clear hI hd <;> (try clear ih0)
      all_goals first | rfl | (rw [idx_hit i2 (by assumption) (by assumption)])
    ·
      have h5' := h5
      skip
      refine t_skip ?_
      refine t_endblock ?_
      refine t_region ?_
      refine r_op (o_bin rfl rfl rfl rfl) ?_
      refine r_op (o_move rfl rfl) ?_
      refine r_end ?_
      refine t_le ?_ (ih0 (m + 1) (by (try dsimp only); omega) (by (try dsimp only); exact ⟨by omega, no_step i2 (by assumption) rfl (by assumption)⟩))
      exact ⟨⟨rfl, ⟨rfl, ⟨rfl, ⟨(eqI (wr64 (by omega) (by omega))), trivial⟩⟩⟩⟩, trivial, rfl⟩
  ·
    have h1' := h1
    try simp only [decide_eq_true_eq, decide_eq_false_iff_not, Bool.not_eq_true', Bool.not_eq_false', Bool.not_false, Bool.not_true] at h1'
    refine t_exit rfl ?_
    refine t_seq ?_
    refine t_region ?_
    refine r_op (o_assign rfl rfl) ?_
    refine r_end ?_
    refine t_ret Try.func131 (.tmp rfl .nil) rfl fun E S w u hI hd => ?_
    refine post_mk hI hd ?_ trivial rfl rfl rfl <;> clear hI hd <;> (try clear ih0)
    all_goals first | rfl | (rw [idx_none i2 (by omega)])
set_option maxHeartbeats 1000000 in
set_option maxRecDepth 10000 in
theorem c_slices_ContainsFunc___impl_Dependency_impl_Dependency_ (l : List ((List (Int × (List (Int)))) × (List (Int × (List (Int)))) × Bool × Int × Int)) (f : Nat) (cs : List ((Nat → T) × Nat)) (p : (List (Int × (List (Int)))) × (List (Int × (List (Int)))) × Bool × Int × Int → Bool) (hl : l.length ≤ 9223372036854775807) (hf : ∀ x ∈ l, Fu Try.prog f ([.agg [.t none (.sl 2 (enS2 encI (enSl 1 encI)) (x.1)), .t none (.sl 2 (enS2 encI (enSl 1 encI)) (x.2.1)), .t none (.v (.bool (x.2.2.1))), .t none (.v (.int .i64 (x.2.2.2.1))), .t none (.v (.int .i64 (x.2.2.2.2)))]] ++ pels cs) (.c (.t none (.v (.bool (p x)))))) : Pu Try.prog 75 [.c (.t none (.sl 5 (enS5 (enSl 2 (enS2 encI (enSl 1 encI))) (enSl 2 (enS2 encI (enSl 1 encI))) encB encI encI) (l))), .c (.fv f cs)] [] 0 (.c (.t none (.v (.bool (l.any p))))) := by
  refine pu_enter Try.func75 rfl (Nat.le_of_ble_eq_true rfl) fun w S => ?_
  refine t_seq ?_
  refine t_region ?_
  refine r_op (o_assign rfl rfl) ?_
  refine r_end ?_
  refine t_seq ?_
  refine t_region ?_
  refine r_op (o_move rfl rfl) ?_
  refine r_op (o_move rfl rfl) ?_
  refine r_op (o_call 0 0 false (Go.Proofs.enters_of Try.func131 (by kernel_rfl) rfl) (c_slices_IndexFunc___impl_Dependency_impl_Dependency_ (l) (f) (cs) (p) (by first | omega | (simp; omega)) (hf)) rfl (.cons rfl (.c .t0) (.cons rfl (.c .fv) .nil)) rfl rfl rfl) ?_
  refine r_op (o_bin rfl rfl rfl rfl) ?_
  refine r_op (o_assign rfl rfl) ?_
  refine r_end ?_
  refine t_ret Try.func75 (.tmp rfl .nil) rfl fun E S w u hI hd => ?_
  refine post_mk hI hd ?_ trivial rfl rfl rfl <;> clear hI hd
  all_goals first | rfl | (exact scB idx_any)
set_option maxHeartbeats 1000000 in
set_option maxRecDepth 10000 in
theorem c_impl_AreValidDependencies (rs : Rels) (l : List Dep) (hrs : rs.length ≤ 4611686018427387904) (hs : szS (fun (x : (List (Int × (List (Int)))) × (List (Int × (List (Int)))) × Bool × Int × Int) => (szS (fun (x : Int × (List (Int))) => (x.2).length) (x.1)) + (szS (fun (x : Int × (List (Int))) => (x.2).length) (x.2.1))) l ≤ 1048576) : Pu Try.prog 23 [.c (.t none (.sl 3 (enS3 encS encI encB) (rs))), .c (.t none (.sl 5 (enS5 (enSl 2 (enS2 encI (enSl 1 encI))) (enSl 2 (enS2 encI (enSl 1 encI))) encB encI encI) (l)))] [] 0 (.c (.t none (.v (.bool (depsOk rs l))))) := by
  refine pu_enter Try.func23 rfl (Nat.le_of_ble_eq_true rfl) fun w S => ?_
  have gl := sz_len (f := (fun (x : (List (Int × (List (Int)))) × (List (Int × (List (Int)))) × Bool × Int × Int) => (szS (fun (x : Int × (List (Int))) => (x.2).length) (x.1)) + (szS (fun (x : Int × (List (Int))) => (x.2).length) (x.2.1)))) (l := l)
  refine t_seq ?_
  refine t_region ?_
  refine r_op (o_box 0 rfl rfl rfl rfl) ?_
  refine r_op (o_assign rfl rfl) ?_
  refine r_end ?_
  refine t_seq ?_
  refine t_region ?_
  refine r_op (o_load1b rfl (by kernel_rfl) rfl rfl rfl) ?_
  refine r_op (o_call 1 1 false (Go.Proofs.enters_of Try.func74 (by kernel_rfl) rfl) (c_impl_AreValidRelations (rs) (by first | omega | assumption | (have e1 := sz_mem (f := (fun (x : (List (Int × (List (Int)))) × (List (Int × (List (Int)))) × Bool × Int × Int) => (szS (fun (x : Int × (List (Int))) => (x.2).length) (x.1)) + (szS (fun (x : Int × (List (Int))) => (x.2).length) (x.2.1)))) (l := l) (by assumption); (try dsimp only at e1); omega))) rfl (.cons rfl (.c .t0) .nil) rfl rfl rfl) ?_
  refine r_op (o_move rfl rfl) ?_
  refine r_guard rfl rfl rfl (fun g1 => ?_) (fun g1 => ?_)
  ·
    have g1' := g1
    skip
    refine r_op (o_move rfl rfl) ?_
    refine r_guard rfl rfl rfl (fun _ => ?_) (fun h' => (Bool.noConfusion (g1.symm.trans h')))
    refine r_op (o_len rfl rfl rfl) ?_
    refine r_guard rfl rfl rfl (fun _ => ?_) (fun h' => (Bool.noConfusion (g1.symm.trans h')))
    refine r_op (o_bin rfl rfl rfl rfl) ?_
    refine r_op (o_pickT rfl rfl g1 rfl) ?_
    refine r_op (o_move rfl rfl) ?_
    refine r_guard rfl rfl rfl (fun g2 => ?_) (fun g2 => ?_)
    ·
      have g2' := g2
      try simp only [decide_eq_true_eq, decide_eq_false_iff_not, Bool.not_eq_true', Bool.not_eq_false', Bool.not_false, Bool.not_true] at g2'
      refine r_op (o_move rfl rfl) ?_
      refine r_guard rfl rfl rfl (fun _ => ?_) (fun h' => (Bool.noConfusion (g2.symm.trans h')))
      refine r_op (o_makeFunc rfl (.cons rfl .nil)) ?_
      refine r_guard rfl rfl rfl (fun _ => ?_) (fun h' => (Bool.noConfusion (g2.symm.trans h')))
      refine r_op (o_call 1 1 false (Go.Proofs.enters_of Try.func75 (by kernel_rfl) rfl) (c_slices_ContainsFunc___impl_Dependency_impl_Dependency_ (l) (76) ([((enSl 3 (enS3 encS encI encB)) (rs), 1)]) (fun (x0 : (List (Int × (List (Int)))) × (List (Int × (List (Int)))) × Bool × Int × Int) => badD (rs) ((x0.1), (x0.2.1), (x0.2.2.1), (x0.2.2.2.1), (x0.2.2.2.2))) (by first | omega | assumption | (have e1 := sz_mem (f := (fun (x : (List (Int × (List (Int)))) × (List (Int × (List (Int)))) × Bool × Int × Int) => (szS (fun (x : Int × (List (Int))) => (x.2).length) (x.1)) + (szS (fun (x : Int × (List (Int))) => (x.2).length) (x.2.1)))) (l := l) (by assumption); (try dsimp only at e1); omega)) (fun x0 mx0 => ⟨Go.Proofs.enters_of Try.func76 (by kernel_rfl) rfl, c_impl_AreValidDependencies_1 (x0.1) (x0.2.1) (x0.2.2.1) (x0.2.2.2.1) (x0.2.2.2.2) (rs) (by first | omega | assumption | (have e1 := sz_mem (f := (fun (x : (List (Int × (List (Int)))) × (List (Int × (List (Int)))) × Bool × Int × Int) => (szS (fun (x : Int × (List (Int))) => (x.2).length) (x.1)) + (szS (fun (x : Int × (List (Int))) => (x.2).length) (x.2.1)))) (l := l) (by assumption); (try dsimp only at e1); omega)) (by first | omega | assumption | (have e1 := sz_mem (f := (fun (x : (List (Int × (List (Int)))) × (List (Int × (List (Int)))) × Bool × Int × Int) => (szS (fun (x : Int × (List (Int))) => (x.2).length) (x.1)) + (szS (fun (x : Int × (List (Int))) => (x.2).length) (x.2.1)))) (l := l) (by assumption); (try dsimp only at e1); omega))⟩)) rfl (.cons rfl (.c .t0) (.cons rfl (.c (.clo (.cons rfl rfl rfl (.cons .t .nil) .nil))) .nil)) rfl rfl rfl) ?_
      refine r_guard rfl rfl rfl (fun _ => ?_) (fun h' => (Bool.noConfusion (g2.symm.trans h')))
      refine r_op (o_not rfl rfl) ?_
      refine r_op (o_pickT rfl rfl g2 rfl) ?_
      refine r_op (o_assign rfl rfl) ?_
      refine r_end ?_
      refine t_ret Try.func23 (.tmp rfl .nil) rfl fun E S w u hI hd => ?_
      refine post_mk hI hd ?_ trivial rfl rfl rfl <;> clear hI hd
      all_goals first | rfl | (refine scB ?_; clear hs gl; unfold depsOk; grind)
    ·
      have g2' := g2
      try simp only [decide_eq_true_eq, decide_eq_false_iff_not, Bool.not_eq_true', Bool.not_eq_false', Bool.not_false, Bool.not_true] at g2'
      refine r_guard rfl rfl rfl (fun h' => (Bool.noConfusion (g2.symm.trans h'))) (fun _ => ?_)
      refine r_guard rfl rfl rfl (fun h' => (Bool.noConfusion (g2.symm.trans h'))) (fun _ => ?_)
      refine r_guard rfl rfl rfl (fun h' => (Bool.noConfusion (g2.symm.trans h'))) (fun _ => ?_)
      refine r_op (o_pickF rfl rfl g2 rfl) ?_
      refine r_op (o_assign rfl rfl) ?_
      refine r_end ?_
      refine t_ret Try.func23 (.tmp rfl .nil) rfl fun E S w u hI hd => ?_
      refine post_mk hI hd ?_ trivial rfl rfl rfl <;> clear hI hd
      all_goals first | rfl | (refine scB ?_; clear hs gl; unfold depsOk; grind)
  ·
    have g1' := g1
    skip
    refine r_guard rfl rfl rfl (fun h' => (Bool.noConfusion (g1.symm.trans h'))) (fun _ => ?_)
    refine r_guard rfl rfl rfl (fun h' => (Bool.noConfusion (g1.symm.trans h'))) (fun _ => ?_)
    refine r_op (o_pickF rfl rfl g1 rfl) ?_
    refine r_op (o_move rfl rfl) ?_
    refine r_guard rfl rfl rfl (fun h' => (Bool.noConfusion (rfl.symm.trans h'))) (fun _ => ?_)
    refine r_guard rfl rfl rfl (fun h' => (Bool.noConfusion (rfl.symm.trans h'))) (fun _ => ?_)
    refine r_guard rfl rfl rfl (fun h' => (Bool.noConfusion (rfl.symm.trans h'))) (fun _ => ?_)
    refine r_guard rfl rfl rfl (fun h' => (Bool.noConfusion (rfl.symm.trans h'))) (fun _ => ?_)
    refine r_op (o_pickF rfl rfl rfl rfl) ?_
    refine r_op (o_assign rfl rfl) ?_
    refine r_end ?_
    refine t_ret Try.func23 (.tmp rfl .nil) rfl fun E S w u hI hd => ?_
    refine post_mk hI hd ?_ trivial rfl rfl rfl <;> clear hI hd
    all_goals first | rfl | (refine scB ?_; clear hs gl; unfold depsOk; grind)
set_option maxHeartbeats 1000000 in
set_option maxRecDepth 10000 in
theorem c_laws_eqRelation (a0 : List UInt8) (a1 : Int) (a2 : Bool) (b0 : List UInt8) (b1 : Int) (b2 : Bool) (hs : (a0).length ≤ 1048576) : Pu Try.prog 72 [.agg [.t none (.v (.string (mkS (a0)))), .t none (.v (.int .i64 (a1))), .t none (.v (.bool (a2)))], .agg [.t none (.v (.string (mkS (b0)))), .t none (.v (.int .i64 (b1))), .t none (.v (.bool (b2)))]] [] 0 (.c (.t none (.v (.bool (decide ((a0, a1, a2) = (b0, b1, b2))))))) := by
  refine pu_enter Try.func72 rfl (Nat.le_of_ble_eq_true rfl) fun w S => ?_
  refine t_seq ?_
  refine t_region ?_
  refine r_op (o_box 0 rfl rfl rfl rfl) ?_
  refine r_op (o_box 1 rfl rfl rfl rfl) ?_
  refine r_op (o_assign rfl rfl) ?_
  refine r_end ?_
  refine t_seq ?_
  refine t_seq ?_
  refine t_region ?_
  refine r_op (o_fieldb rfl (off := 0) (by kernel_rfl) rfl) ?_
  refine r_op (o_load1b rfl (by kernel_rfl) rfl rfl rfl) ?_
  refine r_op (o_fieldb rfl (off := 0) (by kernel_rfl) rfl) ?_
  refine r_op (o_load1b rfl (by kernel_rfl) rfl rfl rfl) ?_
  refine r_op (o_str rfl rfl rfl rfl) ?_
  refine r_end ?_
  refine t_cond rfl (fun h1 => ?_) (fun h1 => ?_)
  ·
    have h1' := h1
    try simp only [decide_eq_true_eq, decide_eq_false_iff_not, Bool.not_eq_true', Bool.not_eq_false', Bool.not_false, Bool.not_true] at h1'
    refine t_seq ?_
    refine t_region ?_
    refine r_op (o_assign rfl rfl) ?_
    refine r_end ?_
    refine t_ret Try.func72 (.tmp rfl .nil) rfl fun E S w u hI hd => ?_
    refine post_mk hI hd ?_ trivial rfl rfl rfl <;> clear hI hd
    all_goals first | rfl | (simp_all)
  ·
    have h1' := h1
    try simp only [decide_eq_true_eq, decide_eq_false_iff_not, Bool.not_eq_true', Bool.not_eq_false', Bool.not_false, Bool.not_true] at h1'
    refine t_skip ?_
    refine t_seq ?_
    refine t_seq ?_
    refine t_region ?_
    refine r_op (o_fieldb rfl (off := 1) (by kernel_rfl) rfl) ?_
    refine r_op (o_load1b rfl (by kernel_rfl) rfl rfl rfl) ?_
    refine r_op (o_fieldb rfl (off := 1) (by kernel_rfl) rfl) ?_
    refine r_op (o_load1b rfl (by kernel_rfl) rfl rfl rfl) ?_
    refine r_op (o_bin rfl rfl rfl rfl) ?_
    refine r_end ?_
    refine t_cond rfl (fun h2 => ?_) (fun h2 => ?_)
    ·
      have h2' := h2
      try simp only [decide_eq_true_eq, decide_eq_false_iff_not, Bool.not_eq_true', Bool.not_eq_false', Bool.not_false, Bool.not_true] at h2'
      refine t_seq ?_
      refine t_region ?_
      refine r_op (o_assign rfl rfl) ?_
      refine r_end ?_
      refine t_ret Try.func72 (.tmp rfl .nil) rfl fun E S w u hI hd => ?_
      refine post_mk hI hd ?_ trivial rfl rfl rfl <;> clear hI hd
      all_goals first | rfl | (simp_all)
    ·
      have h2' := h2
      try simp only [decide_eq_true_eq, decide_eq_false_iff_not, Bool.not_eq_true', Bool.not_eq_false', Bool.not_false, Bool.not_true] at h2'
      refine t_skip ?_
      refine t_seq ?_
      refine t_seq ?_
      refine t_region ?_
      refine r_op (o_fieldb rfl (off := 2) (by kernel_rfl) rfl) ?_
      refine r_op (o_load1b rfl (by kernel_rfl) rfl rfl rfl) ?_
      refine r_op (o_fieldb rfl (off := 2) (by kernel_rfl) rfl) ?_
      refine r_op (o_load1b rfl (by kernel_rfl) rfl rfl rfl) ?_
      refine r_op (o_neB rfl Try.underlying4 rfl rfl) ?_
      refine r_end ?_
      refine t_cond rfl (fun h3 => ?_) (fun h3 => ?_)
      ·
        have h3' := h3
        skip
        refine t_seq ?_
        refine t_region ?_
        refine r_op (o_assign rfl rfl) ?_
        refine r_end ?_
        refine t_ret Try.func72 (.tmp rfl .nil) rfl fun E S w u hI hd => ?_
        refine post_mk hI hd ?_ trivial rfl rfl rfl <;> clear hI hd
        all_goals first | rfl | (simp_all)
      ·
        have h3' := h3
        skip
        refine t_skip ?_
        refine t_seq ?_
        refine t_region ?_
        refine r_op (o_assign rfl rfl) ?_
        refine r_end ?_
        refine t_ret Try.func72 (.tmp rfl .nil) rfl fun E S w u hI hd => ?_
        refine post_mk hI hd ?_ trivial rfl rfl rfl <;> clear hI hd
        all_goals first | rfl | (simp_all)
set_option maxHeartbeats 1000000 in
set_option maxRecDepth 10000 in
theorem c_laws_eqRelationS (a b : List (List UInt8 × Int × Bool)) (hs : szS (fun (x : List UInt8 × Int × Bool) => (x.1).length) a ≤ 1048576) : Pu Try.prog 18 [.c (.t none (.sl 3 (enS3 encS encI encB) (a))), .c (.t none (.sl 3 (enS3 encS encI encB) (b)))] [] 0 (.c (.t none (.v (.bool (decide (a = b)))))) := by
  refine pu_enter Try.func18 rfl (Nat.le_of_ble_eq_true rfl) fun w S => ?_
  have gl := sz_len (f := (fun (x : List UInt8 × Int × Bool) => (x.1).length)) (l := a)
  refine t_seq ?_
  refine t_region ?_
  refine r_op (o_assign rfl rfl) ?_
  refine r_end ?_
  refine t_seq ?_
  refine t_seq ?_
  refine t_region ?_
  refine r_op (o_move rfl rfl) ?_
  refine r_op (o_len rfl rfl rfl) ?_
  refine r_op (o_move rfl rfl) ?_
  refine r_op (o_len rfl rfl rfl) ?_
  refine r_op (o_bin rfl rfl rfl rfl) ?_
  refine r_end ?_
  refine t_cond rfl (fun h1 => ?_) (fun h1 => ?_)
  ·
    have h1' := h1
    try simp only [decide_eq_true_eq, decide_eq_false_iff_not, Bool.not_eq_true', Bool.not_eq_false', Bool.not_false, Bool.not_true] at h1'
    refine t_seq ?_
    refine t_region ?_
    refine r_op (o_assign rfl rfl) ?_
    refine r_end ?_
    refine t_ret Try.func18 (.tmp rfl .nil) rfl fun E S w u hI hd => ?_
    refine post_mk hI hd ?_ trivial rfl rfl rfl <;> clear hI hd <;> (try clear ih0)
    all_goals first | rfl | ((have : a ≠ b := by rintro rfl; simp at *); simp [this])
  ·
    have h1' := h1
    try simp only [decide_eq_true_eq, decide_eq_false_iff_not, Bool.not_eq_true', Bool.not_eq_false', Bool.not_false, Bool.not_true] at h1'
    refine t_skip ?_
    refine t_seq ?_
    refine t_seq ?_
    refine t_region ?_
    refine r_op (o_assign rfl rfl) ?_
    refine r_end ?_
    refine t_block ?_
    refine t_loopL (fun m => ⟨[(0, some (.c (.t none (.sl 3 (enS3 encS encI encB) (a))))), (1, some (.c (.t none (.sl 3 (enS3 encS encI encB) (b))))), (5, some (.c (.t none (.v (.int .i64 ((m : Int)))))))], [], 0⟩ : Nat → St) (fun m => m ≤ a.length ∧ a.length = b.length ∧ a.take m = b.take m) (fun m => a.length - m) 0 ⟨⟨rfl, ⟨rfl, ⟨rfl, trivial⟩⟩⟩, trivial, rfl⟩ (by exact ⟨Nat.zero_le _, by omega, rfl⟩) ?_
    rintro m hI ih0
    try dsimp only at hI ih0
    obtain ⟨i1, i2, i3⟩ := hI
    refine t_seq ?_
    refine t_seq ?_
    refine t_region ?_
    refine r_op (o_move rfl rfl) ?_
    refine r_op (o_move rfl rfl) ?_
    refine r_op (o_len rfl rfl rfl) ?_
    refine r_op (o_bin rfl rfl rfl rfl) ?_
    refine r_end ?_
    refine t_cond rfl (fun h2 => ?_) (fun h2 => ?_)
    ·
      have h2' := h2
      try simp only [decide_eq_true_eq, decide_eq_false_iff_not, Bool.not_eq_true', Bool.not_eq_false', Bool.not_false, Bool.not_true] at h2'
      refine t_skip ?_
      refine t_seq ?_
      refine t_block ?_
      refine t_seq ?_
      refine t_draw (fun _ => true) (by kernel_rfl) ?_
      refine d_take 0 rfl rfl (by kernel_rfl) (by kernel_rfl) (by kernel_rfl) (p_move rfl) ?_
      refine d_take 1 rfl rfl (by kernel_rfl) (by kernel_rfl) (by kernel_rfl) (p_move rfl) ?_
      obtain ⟨z3, hz4, b5⟩ := at_get (xs := a) (n := (m : Int)) (by first | omega | (have e1 := sz_at (f := (fun (x : List UInt8 × Int × Bool) => (x.1).length)) (l := a) (m := m) (by assumption); (try dsimp only at e1); omega)) (by first | omega | (have e1 := sz_at (f := (fun (x : List UInt8 × Int × Bool) => (x.1).length)) (l := a) (m := m) (by assumption); (try dsimp only at e1); omega))
      refine d_take 2 rfl rfl (by kernel_rfl) (by kernel_rfl) (by kernel_rfl) (p_index (by kernel_rfl) rfl rfl b5 hz4) ?_
      refine d_take 3 rfl rfl (by kernel_rfl) (by kernel_rfl) (by kernel_rfl) (p_loadA (n := 3) (by kernel_rfl) (by kernel_rfl) rfl rfl) ?_
      refine d_take 4 rfl rfl (by kernel_rfl) (by kernel_rfl) (by kernel_rfl) (p_move rfl) ?_
      refine d_take 5 rfl rfl (by kernel_rfl) (by kernel_rfl) (by kernel_rfl) (p_move rfl) ?_
      obtain ⟨z6, hz7, b8⟩ := at_get (xs := b) (n := (m : Int)) (by first | omega | (have e1 := sz_at (f := (fun (x : List UInt8 × Int × Bool) => (x.1).length)) (l := a) (m := m) (by assumption); (try dsimp only at e1); omega)) (by first | omega | (have e1 := sz_at (f := (fun (x : List UInt8 × Int × Bool) => (x.1).length)) (l := a) (m := m) (by assumption); (try dsimp only at e1); omega))
      refine d_take 6 rfl rfl (by kernel_rfl) (by kernel_rfl) (by kernel_rfl) (p_index (by kernel_rfl) rfl rfl b8 hz7) ?_
      refine d_take 7 rfl rfl (by kernel_rfl) (by kernel_rfl) (by kernel_rfl) (p_loadA (n := 3) (by kernel_rfl) (by kernel_rfl) rfl rfl) ?_
      refine d_only 8 rfl (by kernel_rfl) rfl (o_call 0 0 false (Go.Proofs.enters_of Try.func72 (by kernel_rfl) rfl) (c_laws_eqRelation (z3.1) (z3.2.1) (z3.2.2) (z6.1) (z6.2.1) (z6.2.2) (by first | omega | (have e1 := sz_at (f := (fun (x : List UInt8 × Int × Bool) => (x.1).length)) (l := a) (m := m) (by assumption); (try dsimp only at e1); omega))) rfl (.cons rfl (.agg (.cons .t0 (.cons .t0 (.cons .t0 .nil)))) (.cons rfl (.agg (.cons .t0 (.cons .t0 (.cons .t0 .nil)))) .nil)) rfl rfl rfl) ?_
      refine d_take 9 rfl rfl (by kernel_rfl) (by kernel_rfl) (by kernel_rfl) (p_not rfl) ?_
      refine d_end (by kernel_rfl) ?_
      refine t_cond rfl (fun h9 => ?_) (fun h9 => ?_)
      ·
        have h9' := h9
        try simp only [decide_eq_true_eq, decide_eq_false_iff_not, Bool.not_eq_true', Bool.not_eq_false', Bool.not_false, Bool.not_true] at h9'
        refine t_seq ?_
        refine t_region ?_
        refine r_op (o_assign rfl rfl) ?_
        refine r_end ?_
        refine t_ret Try.func18 (.tmp rfl .nil) rfl fun E S w u hI hd => ?_
        refine post_mk hI hd ?_ trivial rfl rfl rfl <;> clear hI hd <;> (try clear ih0)
        all_goals first | rfl | (have := ne_at (a := a) (b := b) (by assumption) (by assumption) (by assumption); simp_all)
      ·
        have h9' := h9
        try simp only [decide_eq_true_eq, decide_eq_false_iff_not, Bool.not_eq_true', Bool.not_eq_false', Bool.not_false, Bool.not_true] at h9'
        refine t_skip ?_
        refine t_endblock ?_
        refine t_region ?_
        refine r_op (o_move rfl rfl) ?_
        refine r_op (o_bin rfl rfl rfl rfl) ?_
        refine r_op (o_assign rfl rfl) ?_
        refine r_end ?_
        refine t_le ?_ (ih0 (m + 1) (by (try dsimp only); omega) (by (try dsimp only); exact ⟨by omega, i2, take_same i3 (same_at (by assumption) (by assumption) (by assumption))⟩))
        exact ⟨⟨rfl, ⟨rfl, ⟨(eqI (wrS (by omega))), trivial⟩⟩⟩, trivial, rfl⟩
    ·
      have h2' := h2
      try simp only [decide_eq_true_eq, decide_eq_false_iff_not, Bool.not_eq_true', Bool.not_eq_false', Bool.not_false, Bool.not_true] at h2'
      refine t_exit rfl ?_
      refine t_seq ?_
      refine t_region ?_
      refine r_op (o_assign rfl rfl) ?_
      refine r_end ?_
      refine t_ret Try.func18 (.tmp rfl .nil) rfl fun E S w u hI hd => ?_
      refine post_mk hI hd ?_ trivial rfl rfl rfl <;> clear hI hd <;> (try clear ih0)
      all_goals first | rfl | ((obtain rfl : m = a.length := by omega); rw [List.take_length, i2, List.take_length] at i3; simp [i3])
set_option maxHeartbeats 1000000 in
set_option maxRecDepth 10000 in
theorem c_laws_eqIntS (a b : List Int) (ha : a.length < 4611686018427387904) : Pu Try.prog 46 [.c (.t none (.sl 1 encI (a))), .c (.t none (.sl 1 encI (b)))] [] 0 (.c (.t none (.v (.bool (decide (a = b)))))) := by
  refine pu_enter Try.func46 rfl (Nat.le_of_ble_eq_true rfl) fun w S => ?_
  refine t_seq ?_
  refine t_region ?_
  refine r_op (o_assign rfl rfl) ?_
  refine r_end ?_
  refine t_seq ?_
  refine t_seq ?_
  refine t_region ?_
  refine r_op (o_move rfl rfl) ?_
  refine r_op (o_len rfl rfl rfl) ?_
  refine r_op (o_move rfl rfl) ?_
  refine r_op (o_len rfl rfl rfl) ?_
  refine r_op (o_bin rfl rfl rfl rfl) ?_
  refine r_end ?_
  refine t_cond rfl (fun h1 => ?_) (fun h1 => ?_)
  ·
    have h1' := h1
    try simp only [decide_eq_true_eq, decide_eq_false_iff_not, Bool.not_eq_true', Bool.not_eq_false', Bool.not_false, Bool.not_true] at h1'
    refine t_seq ?_
    refine t_region ?_
    refine r_op (o_assign rfl rfl) ?_
    refine r_end ?_
    refine t_ret Try.func46 (.tmp rfl .nil) rfl fun E S w u hI hd => ?_
    refine post_mk hI hd ?_ trivial rfl rfl rfl <;> clear hI hd <;> (try clear ih0)
    all_goals first | rfl | ((have : a ≠ b := by rintro rfl; simp at *); simp [this])
  ·
    have h1' := h1
    try simp only [decide_eq_true_eq, decide_eq_false_iff_not, Bool.not_eq_true', Bool.not_eq_false', Bool.not_false, Bool.not_true] at h1'
    refine t_skip ?_
    refine t_seq ?_
    refine t_seq ?_
    refine t_region ?_
    refine r_op (o_assign rfl rfl) ?_
    refine r_end ?_
    refine t_block ?_
    refine t_loopL (fun m => ⟨[(0, some (.c (.t none (.sl 1 encI (a))))), (1, some (.c (.t none (.sl 1 encI (b))))), (5, some (.c (.t none (.v (.int .i64 ((m : Int)))))))], [], 0⟩ : Nat → St) (fun m => m ≤ a.length ∧ a.length = b.length ∧ a.take m = b.take m) (fun m => a.length - m) 0 ⟨⟨rfl, ⟨rfl, ⟨rfl, trivial⟩⟩⟩, trivial, rfl⟩ (by exact ⟨Nat.zero_le _, by omega, rfl⟩) ?_
    rintro m hI ih0
    try dsimp only at hI ih0
    obtain ⟨i1, i2, i3⟩ := hI
    refine t_seq ?_
    refine t_seq ?_
    refine t_region ?_
    refine r_op (o_move rfl rfl) ?_
    refine r_op (o_move rfl rfl) ?_
    refine r_op (o_len rfl rfl rfl) ?_
    refine r_op (o_bin rfl rfl rfl rfl) ?_
    refine r_end ?_
    refine t_cond rfl (fun h2 => ?_) (fun h2 => ?_)
    ·
      have h2' := h2
      try simp only [decide_eq_true_eq, decide_eq_false_iff_not, Bool.not_eq_true', Bool.not_eq_false', Bool.not_false, Bool.not_true] at h2'
      refine t_skip ?_
      refine t_seq ?_
      refine t_block ?_
      refine t_seq ?_
      refine t_draw (fun _ => true) (by kernel_rfl) ?_
      refine d_take 0 rfl rfl (by kernel_rfl) (by kernel_rfl) (by kernel_rfl) (p_move rfl) ?_
      refine d_take 1 rfl rfl (by kernel_rfl) (by kernel_rfl) (by kernel_rfl) (p_move rfl) ?_
      obtain ⟨z3, hz4, b5⟩ := at_get (xs := a) (n := (m : Int)) (by first | omega | (simp; omega)) (by first | omega | (simp; omega))
      refine d_take 2 rfl rfl (by kernel_rfl) (by kernel_rfl) (by kernel_rfl) (p_index (by kernel_rfl) rfl rfl b5 hz4) ?_
      refine d_take 3 rfl rfl (by kernel_rfl) (by kernel_rfl) (by kernel_rfl) (p_load1 (by kernel_rfl) rfl rfl) ?_
      refine d_take 4 rfl rfl (by kernel_rfl) (by kernel_rfl) (by kernel_rfl) (p_move rfl) ?_
      refine d_take 5 rfl rfl (by kernel_rfl) (by kernel_rfl) (by kernel_rfl) (p_move rfl) ?_
      obtain ⟨z6, hz7, b8⟩ := at_get (xs := b) (n := (m : Int)) (by first | omega | (simp; omega)) (by first | omega | (simp; omega))
      refine d_take 6 rfl rfl (by kernel_rfl) (by kernel_rfl) (by kernel_rfl) (p_index (by kernel_rfl) rfl rfl b8 hz7) ?_
      refine d_take 7 rfl rfl (by kernel_rfl) (by kernel_rfl) (by kernel_rfl) (p_load1 (by kernel_rfl) rfl rfl) ?_
      refine d_take 8 rfl rfl (by kernel_rfl) (by kernel_rfl) (by kernel_rfl) (p_bin rfl rfl rfl) ?_
      refine d_end (by kernel_rfl) ?_
      refine t_cond rfl (fun h9 => ?_) (fun h9 => ?_)
      ·
        have h9' := h9
        try simp only [decide_eq_true_eq, decide_eq_false_iff_not, Bool.not_eq_true', Bool.not_eq_false', Bool.not_false, Bool.not_true] at h9'
        refine t_seq ?_
        refine t_region ?_
        refine r_op (o_assign rfl rfl) ?_
        refine r_end ?_
        refine t_ret Try.func46 (.tmp rfl .nil) rfl fun E S w u hI hd => ?_
        refine post_mk hI hd ?_ trivial rfl rfl rfl <;> clear hI hd <;> (try clear ih0)
        all_goals first | rfl | (have := ne_at (a := a) (b := b) (by assumption) (by assumption) (by assumption); simp_all)
      ·
        have h9' := h9
        try simp only [decide_eq_true_eq, decide_eq_false_iff_not, Bool.not_eq_true', Bool.not_eq_false', Bool.not_false, Bool.not_true] at h9'
        refine t_skip ?_
        refine t_endblock ?_
        refine t_region ?_
        refine r_op (o_move rfl rfl) ?_
        refine r_op (o_bin rfl rfl rfl rfl) ?_
        refine r_op (o_assign rfl rfl) ?_
        refine r_end ?_
        refine t_le ?_ (ih0 (m + 1) (by (try dsimp only); omega) (by (try dsimp only); refine ⟨by omega, i2, take_same i3 ?_⟩; simp_all))
        exact ⟨⟨rfl, ⟨rfl, ⟨(eqI (wrS (by omega))), trivial⟩⟩⟩, trivial, rfl⟩
    ·
      have h2' := h2
      try simp only [decide_eq_true_eq, decide_eq_false_iff_not, Bool.not_eq_true', Bool.not_eq_false', Bool.not_false, Bool.not_true] at h2'
      refine t_exit rfl ?_
      refine t_seq ?_
      refine t_region ?_
      refine r_op (o_assign rfl rfl) ?_
      refine r_end ?_
      refine t_ret Try.func46 (.tmp rfl .nil) rfl fun E S w u hI hd => ?_
      refine post_mk hI hd ?_ trivial rfl rfl rfl <;> clear hI hd <;> (try clear ih0)
      all_goals first | rfl | ((obtain rfl : m = a.length := by omega); rw [List.take_length, i2, List.take_length] at i3; simp [i3])
set_option maxHeartbeats 1000000 in
set_option maxRecDepth 10000 in
theorem c_laws_eqAtom (a0 : Int) (a1 : List (Int)) (b0 : Int) (b1 : List (Int)) (hs : (a1).length ≤ 1048576) : Pu Try.prog 104 [.agg [.t none (.v (.int .i64 (a0))), .t none (.sl 1 encI (a1))], .agg [.t none (.v (.int .i64 (b0))), .t none (.sl 1 encI (b1))]] [] 0 (.c (.t none (.v (.bool (decide ((a0, a1) = (b0, b1))))))) := by
  refine pu_enter Try.func104 rfl (Nat.le_of_ble_eq_true rfl) fun w S => ?_
  refine t_seq ?_
  refine t_region ?_
  refine r_op (o_box 0 rfl rfl rfl rfl) ?_
  refine r_op (o_box 1 rfl rfl rfl rfl) ?_
  refine r_op (o_assign rfl rfl) ?_
  refine r_end ?_
  refine t_seq ?_
  refine t_seq ?_
  refine t_region ?_
  refine r_op (o_fieldb rfl (off := 0) (by kernel_rfl) rfl) ?_
  refine r_op (o_load1b rfl (by kernel_rfl) rfl rfl rfl) ?_
  refine r_op (o_fieldb rfl (off := 0) (by kernel_rfl) rfl) ?_
  refine r_op (o_load1b rfl (by kernel_rfl) rfl rfl rfl) ?_
  refine r_op (o_bin rfl rfl rfl rfl) ?_
  refine r_end ?_
  refine t_cond rfl (fun h1 => ?_) (fun h1 => ?_)
  ·
    have h1' := h1
    try simp only [decide_eq_true_eq, decide_eq_false_iff_not, Bool.not_eq_true', Bool.not_eq_false', Bool.not_false, Bool.not_true] at h1'
    refine t_seq ?_
    refine t_region ?_
    refine r_op (o_assign rfl rfl) ?_
    refine r_end ?_
    refine t_ret Try.func104 (.tmp rfl .nil) rfl fun E S w u hI hd => ?_
    refine post_mk hI hd ?_ trivial rfl rfl rfl <;> clear hI hd
    all_goals first | rfl | (simp_all)
  ·
    have h1' := h1
    try simp only [decide_eq_true_eq, decide_eq_false_iff_not, Bool.not_eq_true', Bool.not_eq_false', Bool.not_false, Bool.not_true] at h1'
    refine t_skip ?_
    refine t_seq ?_
    refine t_seq ?_
    refine t_region ?_
    refine r_op (o_fieldb rfl (off := 1) (by kernel_rfl) rfl) ?_
    refine r_op (o_load1b rfl (by kernel_rfl) rfl rfl rfl) ?_
    refine r_op (o_fieldb rfl (off := 1) (by kernel_rfl) rfl) ?_
    refine r_op (o_load1b rfl (by kernel_rfl) rfl rfl rfl) ?_
    refine r_op (o_call 2 2 false (Go.Proofs.enters_of Try.func46 (by kernel_rfl) rfl) (c_laws_eqIntS (a1) (b1) (by first | omega | (simp; omega))) rfl (.cons rfl (.c .t0) (.cons rfl (.c .t0) .nil)) rfl rfl rfl) ?_
    refine r_op (o_not rfl rfl) ?_
    refine r_end ?_
    refine t_cond rfl (fun h2 => ?_) (fun h2 => ?_)
    ·
      have h2' := h2
      try simp only [decide_eq_true_eq, decide_eq_false_iff_not, Bool.not_eq_true', Bool.not_eq_false', Bool.not_false, Bool.not_true] at h2'
      refine t_seq ?_
      refine t_region ?_
      refine r_op (o_assign rfl rfl) ?_
      refine r_end ?_
      refine t_ret Try.func104 (.tmp rfl .nil) rfl fun E S w u hI hd => ?_
      refine post_mk hI hd ?_ trivial rfl rfl rfl <;> clear hI hd
      all_goals first | rfl | (simp_all)
    ·
      have h2' := h2
      try simp only [decide_eq_true_eq, decide_eq_false_iff_not, Bool.not_eq_true', Bool.not_eq_false', Bool.not_false, Bool.not_true] at h2'
      refine t_skip ?_
      refine t_seq ?_
      refine t_region ?_
      refine r_op (o_assign rfl rfl) ?_
      refine r_end ?_
      refine t_ret Try.func104 (.tmp rfl .nil) rfl fun E S w u hI hd => ?_
      refine post_mk hI hd ?_ trivial rfl rfl rfl <;> clear hI hd
      all_goals first | rfl | (simp_all)
set_option maxHeartbeats 1000000 in
set_option maxRecDepth 10000 in
theorem c_laws_eqAtomS (a b : List (Int × (List (Int)))) (hs : szS (fun (x : Int × (List (Int))) => (x.2).length) a ≤ 1048576) : Pu Try.prog 45 [.c (.t none (.sl 2 (enS2 encI (enSl 1 encI)) (a))), .c (.t none (.sl 2 (enS2 encI (enSl 1 encI)) (b)))] [] 0 (.c (.t none (.v (.bool (decide (a = b)))))) := by
  refine pu_enter Try.func45 rfl (Nat.le_of_ble_eq_true rfl) fun w S => ?_
  have gl := sz_len (f := (fun (x : Int × (List (Int))) => (x.2).length)) (l := a)
  refine t_seq ?_
  refine t_region ?_
  refine r_op (o_assign rfl rfl) ?_
  refine r_end ?_
  refine t_seq ?_
  refine t_seq ?_
  refine t_region ?_
  refine r_op (o_move rfl rfl) ?_
  refine r_op (o_len rfl rfl rfl) ?_
  refine r_op (o_move rfl rfl) ?_
  refine r_op (o_len rfl rfl rfl) ?_
  refine r_op (o_bin rfl rfl rfl rfl) ?_
  refine r_end ?_
  refine t_cond rfl (fun h1 => ?_) (fun h1 => ?_)
  ·
    have h1' := h1
    try simp only [decide_eq_true_eq, decide_eq_false_iff_not, Bool.not_eq_true', Bool.not_eq_false', Bool.not_false, Bool.not_true] at h1'
    refine t_seq ?_
    refine t_region ?_
    refine r_op (o_assign rfl rfl) ?_
    refine r_end ?_
    refine t_ret Try.func45 (.tmp rfl .nil) rfl fun E S w u hI hd => ?_
    refine post_mk hI hd ?_ trivial rfl rfl rfl <;> clear hI hd <;> (try clear ih0)
    all_goals first | rfl | ((have : a ≠ b := by rintro rfl; simp at *); simp [this])
  ·
    have h1' := h1
    try simp only [decide_eq_true_eq, decide_eq_false_iff_not, Bool.not_eq_true', Bool.not_eq_false', Bool.not_false, Bool.not_true] at h1'
    refine t_skip ?_
    refine t_seq ?_
    refine t_seq ?_
    refine t_region ?_
    refine r_op (o_assign rfl rfl) ?_
    refine r_end ?_
    refine t_block ?_
    refine t_loopL (fun m => ⟨[(0, some (.c (.t none (.sl 2 (enS2 encI (enSl 1 encI)) (a))))), (1, some (.c (.t none (.sl 2 (enS2 encI (enSl 1 encI)) (b))))), (5, some (.c (.t none (.v (.int .i64 ((m : Int)))))))], [], 0⟩ : Nat → St) (fun m => m ≤ a.length ∧ a.length = b.length ∧ a.take m = b.take m) (fun m => a.length - m) 0 ⟨⟨rfl, ⟨rfl, ⟨rfl, trivial⟩⟩⟩, trivial, rfl⟩ (by exact ⟨Nat.zero_le _, by omega, rfl⟩) ?_
    rintro m hI ih0
    try dsimp only at hI ih0
    obtain ⟨i1, i2, i3⟩ := hI
    refine t_seq ?_
    refine t_seq ?_
    refine t_region ?_
    refine r_op (o_move rfl rfl) ?_
    refine r_op (o_move rfl rfl) ?_
    refine r_op (o_len rfl rfl rfl) ?_
    refine r_op (o_bin rfl rfl rfl rfl) ?_
    refine r_end ?_
    refine t_cond rfl (fun h2 => ?_) (fun h2 => ?_)
    ·
      have h2' := h2
      try simp only [decide_eq_true_eq, decide_eq_false_iff_not, Bool.not_eq_true', Bool.not_eq_false', Bool.not_false, Bool.not_true] at h2'
      refine t_skip ?_
      refine t_seq ?_
      refine t_block ?_
      refine t_seq ?_
      refine t_draw (fun _ => true) (by kernel_rfl) ?_
      refine d_take 0 rfl rfl (by kernel_rfl) (by kernel_rfl) (by kernel_rfl) (p_move rfl) ?_
      refine d_take 1 rfl rfl (by kernel_rfl) (by kernel_rfl) (by kernel_rfl) (p_move rfl) ?_
      obtain ⟨z3, hz4, b5⟩ := at_get (xs := a) (n := (m : Int)) (by first | omega | (have e1 := sz_at (f := (fun (x : Int × (List (Int))) => (x.2).length)) (l := a) (m := m) (by assumption); (try dsimp only at e1); omega)) (by first | omega | (have e1 := sz_at (f := (fun (x : Int × (List (Int))) => (x.2).length)) (l := a) (m := m) (by assumption); (try dsimp only at e1); omega))
      refine d_take 2 rfl rfl (by kernel_rfl) (by kernel_rfl) (by kernel_rfl) (p_index (by kernel_rfl) rfl rfl b5 hz4) ?_
      refine d_take 3 rfl rfl (by kernel_rfl) (by kernel_rfl) (by kernel_rfl) (p_loadA (n := 2) (by kernel_rfl) (by kernel_rfl) rfl rfl) ?_
      refine d_take 4 rfl rfl (by kernel_rfl) (by kernel_rfl) (by kernel_rfl) (p_move rfl) ?_
      refine d_take 5 rfl rfl (by kernel_rfl) (by kernel_rfl) (by kernel_rfl) (p_move rfl) ?_
      obtain ⟨z6, hz7, b8⟩ := at_get (xs := b) (n := (m : Int)) (by first | omega | (have e1 := sz_at (f := (fun (x : Int × (List (Int))) => (x.2).length)) (l := a) (m := m) (by assumption); (try dsimp only at e1); omega)) (by first | omega | (have e1 := sz_at (f := (fun (x : Int × (List (Int))) => (x.2).length)) (l := a) (m := m) (by assumption); (try dsimp only at e1); omega))
      refine d_take 6 rfl rfl (by kernel_rfl) (by kernel_rfl) (by kernel_rfl) (p_index (by kernel_rfl) rfl rfl b8 hz7) ?_
      refine d_take 7 rfl rfl (by kernel_rfl) (by kernel_rfl) (by kernel_rfl) (p_loadA (n := 2) (by kernel_rfl) (by kernel_rfl) rfl rfl) ?_
      refine d_only 8 rfl (by kernel_rfl) rfl (o_call 0 0 false (Go.Proofs.enters_of Try.func104 (by kernel_rfl) rfl) (c_laws_eqAtom (z3.1) (z3.2) (z6.1) (z6.2) (by first | omega | (have e1 := sz_at (f := (fun (x : Int × (List (Int))) => (x.2).length)) (l := a) (m := m) (by assumption); (try dsimp only at e1); omega))) rfl (.cons rfl (.agg (.cons .t0 (.cons .t0 .nil))) (.cons rfl (.agg (.cons .t0 (.cons .t0 .nil))) .nil)) rfl rfl rfl) ?_
      refine d_take 9 rfl rfl (by kernel_rfl) (by kernel_rfl) (by kernel_rfl) (p_not rfl) ?_
      refine d_end (by kernel_rfl) ?_
      refine t_cond rfl (fun h9 => ?_) (fun h9 => ?_)
      ·
        have h9' := h9
        try simp only [decide_eq_true_eq, decide_eq_false_iff_not, Bool.not_eq_true', Bool.not_eq_false', Bool.not_false, Bool.not_true] at h9'
        refine t_seq ?_
        refine t_region ?_
        refine r_op (o_assign rfl rfl) ?_
        refine r_end ?_
        refine t_ret Try.func45 (.tmp rfl .nil) rfl fun E S w u hI hd => ?_
        refine post_mk hI hd ?_ trivial rfl rfl rfl <;> clear hI hd <;> (try clear ih0)
        all_goals first | rfl | (have := ne_at (a := a) (b := b) (by assumption) (by assumption) (by assumption); simp_all)
      ·
        have h9' := h9
        try simp only [decide_eq_true_eq, decide_eq_false_iff_not, Bool.not_eq_true', Bool.not_eq_false', Bool.not_false, Bool.not_true] at h9'
        refine t_skip ?_
        refine t_endblock ?_
        refine t_region ?_
        refine r_op (o_move rfl rfl) ?_
        refine r_op (o_bin rfl rfl rfl rfl) ?_
        refine r_op (o_assign rfl rfl) ?_
        refine r_end ?_
        refine t_le ?_ (ih0 (m + 1) (by (try dsimp only); omega) (by (try dsimp only); exact ⟨by omega, i2, take_same i3 (same_at (by assumption) (by assumption) (by assumption))⟩))
        exact ⟨⟨rfl, ⟨rfl, ⟨(eqI (wrS (by omega))), trivial⟩⟩⟩, trivial, rfl⟩
    ·
      have h2' := h2
      try simp only [decide_eq_true_eq, decide_eq_false_iff_not, Bool.not_eq_true', Bool.not_eq_false', Bool.not_false, Bool.not_true] at h2'
      refine t_exit rfl ?_
      refine t_seq ?_
      refine t_region ?_
      refine r_op (o_assign rfl rfl) ?_
      refine r_end ?_
      refine t_ret Try.func45 (.tmp rfl .nil) rfl fun E S w u hI hd => ?_
      refine post_mk hI hd ?_ trivial rfl rfl rfl <;> clear hI hd <;> (try clear ih0)
      all_goals first | rfl | ((obtain rfl : m = a.length := by omega); rw [List.take_length, i2, List.take_length] at i3; simp [i3])
set_option maxHeartbeats 1000000 in
set_option maxRecDepth 10000 in
theorem c_laws_eqDependency (a0 : List (Int × (List (Int)))) (a1 : List (Int × (List (Int)))) (a2 : Bool) (a3 : Int) (a4 : Int) (b0 : List (Int × (List (Int)))) (b1 : List (Int × (List (Int)))) (b2 : Bool) (b3 : Int) (b4 : Int) (hs : (szS (fun (x : Int × (List (Int))) => (x.2).length) (a0)) + (szS (fun (x : Int × (List (Int))) => (x.2).length) (a1)) ≤ 1048576) : Pu Try.prog 19 [.agg [.t none (.sl 2 (enS2 encI (enSl 1 encI)) (a0)), .t none (.sl 2 (enS2 encI (enSl 1 encI)) (a1)), .t none (.v (.bool (a2))), .t none (.v (.int .i64 (a3))), .t none (.v (.int .i64 (a4)))], .agg [.t none (.sl 2 (enS2 encI (enSl 1 encI)) (b0)), .t none (.sl 2 (enS2 encI (enSl 1 encI)) (b1)), .t none (.v (.bool (b2))), .t none (.v (.int .i64 (b3))), .t none (.v (.int .i64 (b4)))]] [] 0 (.c (.t none (.v (.bool (decide ((a0, a1, a2, a3, a4) = (b0, b1, b2, b3, b4))))))) := by
  refine pu_enter Try.func19 rfl (Nat.le_of_ble_eq_true rfl) fun w S => ?_
  refine t_seq ?_
  refine t_region ?_
  refine r_op (o_box 0 rfl rfl rfl rfl) ?_
  refine r_op (o_box 1 rfl rfl rfl rfl) ?_
  refine r_op (o_assign rfl rfl) ?_
  refine r_end ?_
  refine t_seq ?_
  refine t_seq ?_
  refine t_region ?_
  refine r_op (o_fieldb rfl (off := 0) (by kernel_rfl) rfl) ?_
  refine r_op (o_load1b rfl (by kernel_rfl) rfl rfl rfl) ?_
  refine r_op (o_fieldb rfl (off := 0) (by kernel_rfl) rfl) ?_
  refine r_op (o_load1b rfl (by kernel_rfl) rfl rfl rfl) ?_
  refine r_op (o_call 2 2 false (Go.Proofs.enters_of Try.func45 (by kernel_rfl) rfl) (c_laws_eqAtomS (a0) (b0) (by first | omega | (simp; omega))) rfl (.cons rfl (.c .t0) (.cons rfl (.c .t0) .nil)) rfl rfl rfl) ?_
  refine r_op (o_not rfl rfl) ?_
  refine r_end ?_
  refine t_cond rfl (fun h1 => ?_) (fun h1 => ?_)
  ·
    have h1' := h1
    try simp only [decide_eq_true_eq, decide_eq_false_iff_not, Bool.not_eq_true', Bool.not_eq_false', Bool.not_false, Bool.not_true] at h1'
    refine t_seq ?_
    refine t_region ?_
    refine r_op (o_assign rfl rfl) ?_
    refine r_end ?_
    refine t_ret Try.func19 (.tmp rfl .nil) rfl fun E S w u hI hd => ?_
    refine post_mk hI hd ?_ trivial rfl rfl rfl <;> clear hI hd
    all_goals first | rfl | (simp_all)
  ·
    have h1' := h1
    try simp only [decide_eq_true_eq, decide_eq_false_iff_not, Bool.not_eq_true', Bool.not_eq_false', Bool.not_false, Bool.not_true] at h1'
    refine t_skip ?_
    refine t_seq ?_
    refine t_seq ?_
    refine t_region ?_
    refine r_op (o_fieldb rfl (off := 1) (by kernel_rfl) rfl) ?_
    refine r_op (o_load1b rfl (by kernel_rfl) rfl rfl rfl) ?_
    refine r_op (o_fieldb rfl (off := 1) (by kernel_rfl) rfl) ?_
    refine r_op (o_load1b rfl (by kernel_rfl) rfl rfl rfl) ?_
    refine r_op (o_call 2 2 false (Go.Proofs.enters_of Try.func45 (by kernel_rfl) rfl) (c_laws_eqAtomS (a1) (b1) (by first | omega | (simp; omega))) rfl (.cons rfl (.c .t0) (.cons rfl (.c .t0) .nil)) rfl rfl rfl) ?_
    refine r_op (o_not rfl rfl) ?_
    refine r_end ?_
    refine t_cond rfl (fun h2 => ?_) (fun h2 => ?_)
    ·
      have h2' := h2
      try simp only [decide_eq_true_eq, decide_eq_false_iff_not, Bool.not_eq_true', Bool.not_eq_false', Bool.not_false, Bool.not_true] at h2'
      refine t_seq ?_
      refine t_region ?_
      refine r_op (o_assign rfl rfl) ?_
      refine r_end ?_
      refine t_ret Try.func19 (.tmp rfl .nil) rfl fun E S w u hI hd => ?_
      refine post_mk hI hd ?_ trivial rfl rfl rfl <;> clear hI hd
      all_goals first | rfl | (simp_all)
    ·
      have h2' := h2
      try simp only [decide_eq_true_eq, decide_eq_false_iff_not, Bool.not_eq_true', Bool.not_eq_false', Bool.not_false, Bool.not_true] at h2'
      refine t_skip ?_
      refine t_seq ?_
      refine t_seq ?_
      refine t_region ?_
      refine r_op (o_fieldb rfl (off := 2) (by kernel_rfl) rfl) ?_
      refine r_op (o_load1b rfl (by kernel_rfl) rfl rfl rfl) ?_
      refine r_op (o_fieldb rfl (off := 2) (by kernel_rfl) rfl) ?_
      refine r_op (o_load1b rfl (by kernel_rfl) rfl rfl rfl) ?_
      refine r_op (o_neB rfl Try.underlying4 rfl rfl) ?_
      refine r_end ?_
      refine t_cond rfl (fun h3 => ?_) (fun h3 => ?_)
      ·
        have h3' := h3
        skip
        refine t_seq ?_
        refine t_region ?_
        refine r_op (o_assign rfl rfl) ?_
        refine r_end ?_
        refine t_ret Try.func19 (.tmp rfl .nil) rfl fun E S w u hI hd => ?_
        refine post_mk hI hd ?_ trivial rfl rfl rfl <;> clear hI hd
        all_goals first | rfl | (simp_all)
      ·
        have h3' := h3
        skip
        refine t_skip ?_
        refine t_seq ?_
        refine t_seq ?_
        refine t_region ?_
        refine r_op (o_fieldb rfl (off := 3) (by kernel_rfl) rfl) ?_
        refine r_op (o_load1b rfl (by kernel_rfl) rfl rfl rfl) ?_
        refine r_op (o_fieldb rfl (off := 3) (by kernel_rfl) rfl) ?_
        refine r_op (o_load1b rfl (by kernel_rfl) rfl rfl rfl) ?_
        refine r_op (o_bin rfl rfl rfl rfl) ?_
        refine r_end ?_
        refine t_cond rfl (fun h4 => ?_) (fun h4 => ?_)
        ·
          have h4' := h4
          try simp only [decide_eq_true_eq, decide_eq_false_iff_not, Bool.not_eq_true', Bool.not_eq_false', Bool.not_false, Bool.not_true] at h4'
          refine t_seq ?_
          refine t_region ?_
          refine r_op (o_assign rfl rfl) ?_
          refine r_end ?_
          refine t_ret Try.func19 (.tmp rfl .nil) rfl fun E S w u hI hd => ?_
          refine post_mk hI hd ?_ trivial rfl rfl rfl <;> clear hI hd
          all_goals first | rfl | (simp_all)
        ·
          have h4' := h4
          try simp only [decide_eq_true_eq, decide_eq_false_iff_not, Bool.not_eq_true', Bool.not_eq_false', Bool.not_false, Bool.not_true] at h4'
          refine t_skip ?_
          refine t_seq ?_
          refine t_seq ?_
          refine t_region ?_
          refine r_op (o_fieldb rfl (off := 4) (by kernel_rfl) rfl) ?_
          refine r_op (o_load1b rfl (by kernel_rfl) rfl rfl rfl) ?_
          refine r_op (o_fieldb rfl (off := 4) (by kernel_rfl) rfl) ?_
          refine r_op (o_load1b rfl (by kernel_rfl) rfl rfl rfl) ?_
          refine r_op (o_bin rfl rfl rfl rfl) ?_
          refine r_end ?_
          refine t_cond rfl (fun h5 => ?_) (fun h5 => ?_)
          ·
            have h5' := h5
            try simp only [decide_eq_true_eq, decide_eq_false_iff_not, Bool.not_eq_true', Bool.not_eq_false', Bool.not_false, Bool.not_true] at h5'
            refine t_seq ?_
            refine t_region ?_
            refine r_op (o_assign rfl rfl) ?_
            refine r_end ?_
            refine t_ret Try.func19 (.tmp rfl .nil) rfl fun E S w u hI hd => ?_
            refine post_mk hI hd ?_ trivial rfl rfl rfl <;> clear hI hd
            all_goals first | rfl | (simp_all)
          ·
            have h5' := h5
            try simp only [decide_eq_true_eq, decide_eq_false_iff_not, Bool.not_eq_true', Bool.not_eq_false', Bool.not_false, Bool.not_true] at h5'
            refine t_skip ?_
            refine t_seq ?_
            refine t_region ?_
            refine r_op (o_assign rfl rfl) ?_
            refine r_end ?_
            refine t_ret Try.func19 (.tmp rfl .nil) rfl fun E S w u hI hd => ?_
            refine post_mk hI hd ?_ trivial rfl rfl rfl <;> clear hI hd
            all_goals first | rfl | (simp_all)
set_option maxHeartbeats 1000000 in
set_option maxRecDepth 10000 in
theorem c_laws_eqDependencyS (a b : List ((List (Int × (List (Int)))) × (List (Int × (List (Int)))) × Bool × Int × Int)) (hs : szS (fun (x : (List (Int × (List (Int)))) × (List (Int × (List (Int)))) × Bool × Int × Int) => (szS (fun (x : Int × (List (Int))) => (x.2).length) (x.1)) + (szS (fun (x : Int × (List (Int))) => (x.2).length) (x.2.1))) a ≤ 1048576) : Pu Try.prog 24 [.c (.t none (.sl 5 (enS5 (enSl 2 (enS2 encI (enSl 1 encI))) (enSl 2 (enS2 encI (enSl 1 encI))) encB encI encI) (a))), .c (.t none (.sl 5 (enS5 (enSl 2 (enS2 encI (enSl 1 encI))) (enSl 2 (enS2 encI (enSl 1 encI))) encB encI encI) (b)))] [] 0 (.c (.t none (.v (.bool (decide (a = b)))))) := by
  refine pu_enter Try.func24 rfl (Nat.le_of_ble_eq_true rfl) fun w S => ?_
  have gl := sz_len (f := (fun (x : (List (Int × (List (Int)))) × (List (Int × (List (Int)))) × Bool × Int × Int) => (szS (fun (x : Int × (List (Int))) => (x.2).length) (x.1)) + (szS (fun (x : Int × (List (Int))) => (x.2).length) (x.2.1)))) (l := a)
  refine t_seq ?_
  refine t_region ?_
  refine r_op (o_assign rfl rfl) ?_
  refine r_end ?_
  refine t_seq ?_
  refine t_seq ?_
  refine t_region ?_
  refine r_op (o_move rfl rfl) ?_
  refine r_op (o_len rfl rfl rfl) ?_
  refine r_op (o_move rfl rfl) ?_
  refine r_op (o_len rfl rfl rfl) ?_
  refine r_op (o_bin rfl rfl rfl rfl) ?_
  refine r_end ?_
  refine t_cond rfl (fun h1 => ?_) (fun h1 => ?_)
  ·
    have h1' := h1
    try simp only [decide_eq_true_eq, decide_eq_false_iff_not, Bool.not_eq_true', Bool.not_eq_false', Bool.not_false, Bool.not_true] at h1'
    refine t_seq ?_
    refine t_region ?_
    refine r_op (o_assign rfl rfl) ?_
    refine r_end ?_
    refine t_ret Try.func24 (.tmp rfl .nil) rfl fun E S w u hI hd => ?_
    refine post_mk hI hd ?_ trivial rfl rfl rfl <;> clear hI hd <;> (try clear ih0)
    all_goals first | rfl | ((have : a ≠ b := by rintro rfl; simp at *); simp [this])
  ·
    have h1' := h1
    try simp only [decide_eq_true_eq, decide_eq_false_iff_not, Bool.not_eq_true', Bool.not_eq_false', Bool.not_false, Bool.not_true] at h1'
    refine t_skip ?_
    refine t_seq ?_
    refine t_seq ?_
    refine t_region ?_
    refine r_op (o_assign rfl rfl) ?_
    refine r_end ?_
    refine t_block ?_
    refine t_loopL (fun m => ⟨[(0, some (.c (.t none (.sl 5 (enS5 (enSl 2 (enS2 encI (enSl 1 encI))) (enSl 2 (enS2 encI (enSl 1 encI))) encB encI encI) (a))))), (1, some (.c (.t none (.sl 5 (enS5 (enSl 2 (enS2 encI (enSl 1 encI))) (enSl 2 (enS2 encI (enSl 1 encI))) encB encI encI) (b))))), (5, some (.c (.t none (.v (.int .i64 ((m : Int)))))))], [], 0⟩ : Nat → St) (fun m => m ≤ a.length ∧ a.length = b.length ∧ a.take m = b.take m) (fun m => a.length - m) 0 ⟨⟨rfl, ⟨rfl, ⟨rfl, trivial⟩⟩⟩, trivial, rfl⟩ (by exact ⟨Nat.zero_le _, by omega, rfl⟩) ?_
    rintro m hI ih0
    try dsimp only at hI ih0
    obtain ⟨i1, i2, i3⟩ := hI
    refine t_seq ?_
    refine t_seq ?_
    refine t_region ?_
    refine r_op (o_move rfl rfl) ?_
    refine r_op (o_move rfl rfl) ?_
    refine r_op (o_len rfl rfl rfl) ?_
    refine r_op (o_bin rfl rfl rfl rfl) ?_
    refine r_end ?_
    refine t_cond rfl (fun h2 => ?_) (fun h2 => ?_)
    ·
      have h2' := h2
      try simp only [decide_eq_true_eq, decide_eq_false_iff_not, Bool.not_eq_true', Bool.not_eq_false', Bool.not_false, Bool.not_true] at h2'
      refine t_skip ?_
      refine t_seq ?_
      refine t_block ?_
      refine t_seq ?_
      refine t_draw (fun _ => true) (by kernel_rfl) ?_
      refine d_take 0 rfl rfl (by kernel_rfl) (by kernel_rfl) (by kernel_rfl) (p_move rfl) ?_
      refine d_take 1 rfl rfl (by kernel_rfl) (by kernel_rfl) (by kernel_rfl) (p_move rfl) ?_
      obtain ⟨z3, hz4, b5⟩ := at_get (xs := a) (n := (m : Int)) (by first | omega | (have e1 := sz_at (f := (fun (x : (List (Int × (List (Int)))) × (List (Int × (List (Int)))) × Bool × Int × Int) => (szS (fun (x : Int × (List (Int))) => (x.2).length) (x.1)) + (szS (fun (x : Int × (List (Int))) => (x.2).length) (x.2.1)))) (l := a) (m := m) (by assumption); (try dsimp only at e1); omega)) (by first | omega | (have e1 := sz_at (f := (fun (x : (List (Int × (List (Int)))) × (List (Int × (List (Int)))) × Bool × Int × Int) => (szS (fun (x : Int × (List (Int))) => (x.2).length) (x.1)) + (szS (fun (x : Int × (List (Int))) => (x.2).length) (x.2.1)))) (l := a) (m := m) (by assumption); (try dsimp only at e1); omega))
      refine d_take 2 rfl rfl (by kernel_rfl) (by kernel_rfl) (by kernel_rfl) (p_index (by kernel_rfl) rfl rfl b5 hz4) ?_
      refine d_take 3 rfl rfl (by kernel_rfl) (by kernel_rfl) (by kernel_rfl) (p_loadA (n := 5) (by kernel_rfl) (by kernel_rfl) rfl rfl) ?_
      refine d_take 4 rfl rfl (by kernel_rfl) (by kernel_rfl) (by kernel_rfl) (p_move rfl) ?_
      refine d_take 5 rfl rfl (by kernel_rfl) (by kernel_rfl) (by kernel_rfl) (p_move rfl) ?_
      obtain ⟨z6, hz7, b8⟩ := at_get (xs := b) (n := (m : Int)) (by first | omega | (have e1 := sz_at (f := (fun (x : (List (Int × (List (Int)))) × (List (Int × (List (Int)))) × Bool × Int × Int) => (szS (fun (x : Int × (List (Int))) => (x.2).length) (x.1)) + (szS (fun (x : Int × (List (Int))) => (x.2).length) (x.2.1)))) (l := a) (m := m) (by assumption); (try dsimp only at e1); omega)) (by first | omega | (have e1 := sz_at (f := (fun (x : (List (Int × (List (Int)))) × (List (Int × (List (Int)))) × Bool × Int × Int) => (szS (fun (x : Int × (List (Int))) => (x.2).length) (x.1)) + (szS (fun (x : Int × (List (Int))) => (x.2).length) (x.2.1)))) (l := a) (m := m) (by assumption); (try dsimp only at e1); omega))
      refine d_take 6 rfl rfl (by kernel_rfl) (by kernel_rfl) (by kernel_rfl) (p_index (by kernel_rfl) rfl rfl b8 hz7) ?_
      refine d_take 7 rfl rfl (by kernel_rfl) (by kernel_rfl) (by kernel_rfl) (p_loadA (n := 5) (by kernel_rfl) (by kernel_rfl) rfl rfl) ?_
      refine d_only 8 rfl (by kernel_rfl) rfl (o_call 0 0 false (Go.Proofs.enters_of Try.func19 (by kernel_rfl) rfl) (c_laws_eqDependency (z3.1) (z3.2.1) (z3.2.2.1) (z3.2.2.2.1) (z3.2.2.2.2) (z6.1) (z6.2.1) (z6.2.2.1) (z6.2.2.2.1) (z6.2.2.2.2) (by first | omega | (have e1 := sz_at (f := (fun (x : (List (Int × (List (Int)))) × (List (Int × (List (Int)))) × Bool × Int × Int) => (szS (fun (x : Int × (List (Int))) => (x.2).length) (x.1)) + (szS (fun (x : Int × (List (Int))) => (x.2).length) (x.2.1)))) (l := a) (m := m) (by assumption); (try dsimp only at e1); omega))) rfl (.cons rfl (.agg (.cons .t0 (.cons .t0 (.cons .t0 (.cons .t0 (.cons .t0 .nil)))))) (.cons rfl (.agg (.cons .t0 (.cons .t0 (.cons .t0 (.cons .t0 (.cons .t0 .nil)))))) .nil)) rfl rfl rfl) ?_
      refine d_take 9 rfl rfl (by kernel_rfl) (by kernel_rfl) (by kernel_rfl) (p_not rfl) ?_
      refine d_end (by kernel_rfl) ?_
      refine t_cond rfl (fun h9 => ?_) (fun h9 => ?_)
      ·
        have h9' := h9
        try simp only [decide_eq_true_eq, decide_eq_false_iff_not, Bool.not_eq_true', Bool.not_eq_false', Bool.not_false, Bool.not_true] at h9'
        refine t_seq ?_
        refine t_region ?_
        refine r_op (o_assign rfl rfl) ?_
        refine r_end ?_
        refine t_ret Try.func24 (.tmp rfl .nil) rfl fun E S w u hI hd => ?_
        refine post_mk hI hd ?_ trivial rfl rfl rfl <;> clear hI hd <;> (try clear ih0)
        all_goals first | rfl | (have := ne_at (a := a) (b := b) (by assumption) (by assumption) (by assumption); simp_all)
      ·
        have h9' := h9
        try simp only [decide_eq_true_eq, decide_eq_false_iff_not, Bool.not_eq_true', Bool.not_eq_false', Bool.not_false, Bool.not_true] at h9'
        refine t_skip ?_
        refine t_endblock ?_
        refine t_region ?_
        refine r_op (o_move rfl rfl) ?_
        refine r_op (o_bin rfl rfl rfl rfl) ?_
        refine r_op (o_assign rfl rfl) ?_
        refine r_end ?_
        refine t_le ?_ (ih0 (m + 1) (by (try dsimp only); omega) (by (try dsimp only); exact ⟨by omega, i2, take_same i3 (same_at (by assumption) (by assumption) (by assumption))⟩))
        exact ⟨⟨rfl, ⟨rfl, ⟨(eqI (wrS (by omega))), trivial⟩⟩⟩, trivial, rfl⟩
    ·
      have h2' := h2
      try simp only [decide_eq_true_eq, decide_eq_false_iff_not, Bool.not_eq_true', Bool.not_eq_false', Bool.not_false, Bool.not_true] at h2'
      refine t_exit rfl ?_
      refine t_seq ?_
      refine t_region ?_
      refine r_op (o_assign rfl rfl) ?_
      refine r_end ?_
      refine t_ret Try.func24 (.tmp rfl .nil) rfl fun E S w u hI hd => ?_
      refine post_mk hI hd ?_ trivial rfl rfl rfl <;> clear hI hd <;> (try clear ih0)
      all_goals first | rfl | ((obtain rfl : m = a.length := by omega); rw [List.take_length, i2, List.take_length] at i3; simp [i3])
set_option maxHeartbeats 1000000 in
set_option maxRecDepth 10000 in
theorem c_laws_FnExactAreValidDependencies (rs : Rels) (l : List Dep) (hrs : (okL (fun (x : List UInt8 × Int × Bool) => okS (x.1) ∧ okI (x.2.1) ∧ okB (x.2.2))) rs) (h0 : (okL (fun (x : (List (Int × (List (Int)))) × (List (Int × (List (Int)))) × Bool × Int × Int) => (okL (fun (x : Int × (List (Int))) => okI (x.1) ∧ (okL okI) (x.2))) (x.1) ∧ (okL (fun (x : Int × (List (Int))) => okI (x.1) ∧ (okL okI) (x.2))) (x.2.1) ∧ okB (x.2.2.1) ∧ okI (x.2.2.2.1) ∧ okI (x.2.2.2.2))) l) : Pu Try.prog 4 [.c (.t none (.sl 3 (enS3 encS encI encB) (rs))), .c (.t none (.sl 5 (enS5 (enSl 2 (enS2 encI (enSl 1 encI))) (enSl 2 (enS2 encI (enSl 1 encI))) encB encI encI) (l)))] [] 0 (.c (.t none (.v (.bool (true))))) := by
  refine pu_enter Try.func4 rfl (Nat.le_of_ble_eq_true rfl) fun w S => ?_
  have g1 := hrs.1
  refine t_seq ?_
  refine t_region ?_
  refine r_op (o_assign rfl rfl) ?_
  refine r_end ?_
  refine t_seq ?_
  refine t_region ?_
  refine r_op (o_assign rfl rfl) ?_
  refine r_end ?_
  refine t_seq ?_
  refine t_region ?_
  refine r_op (o_move rfl rfl) ?_
  refine r_op (o_move rfl rfl) ?_
  refine r_op (o_call 0 0 false (Go.Proofs.enters_of Try.func12 (by kernel_rfl) rfl) (c_laws_szRelationS (rs) (1048576) (by first | omega | assumption | (have e := sz_len (f := (fun (x : List UInt8 × Int × Bool) => (x.1).length)) (l := rs); omega)) (by first | omega | assumption | (have e := sz_len (f := (fun (x : List UInt8 × Int × Bool) => (x.1).length)) (l := rs); omega)) (by first | omega | assumption | (have e := sz_len (f := (fun (x : List UInt8 × Int × Bool) => (x.1).length)) (l := rs); omega))) rfl (.cons rfl (.c .t0) (.cons rfl (.c .t0) .nil)) rfl rfl rfl) ?_
  refine r_op (o_assign rfl rfl) ?_
  refine r_end ?_
  refine t_seq ?_
  refine t_seq ?_
  refine t_region ?_
  refine r_op (o_move rfl rfl) ?_
  refine r_op (o_bin rfl rfl rfl rfl) ?_
  refine r_end ?_
  refine t_cond rfl (fun h1 => ?_) (fun h1 => ?_)
  ·
    have h1' := h1
    try simp only [decide_eq_true_eq, decide_eq_false_iff_not, Bool.not_eq_true', Bool.not_eq_false', Bool.not_false, Bool.not_true] at h1'
    refine t_seq ?_
    refine t_region ?_
    refine r_op (o_assign rfl rfl) ?_
    refine r_end ?_
    refine t_ret Try.func4 (.tmp rfl .nil) rfl fun E S w u hI hd => ?_
    refine post_mk hI hd ?_ trivial rfl rfl rfl <;> clear hI hd
    all_goals first | rfl | (exfalso; simp at *)
  ·
    have h1' := h1
    try simp only [decide_eq_true_eq, decide_eq_false_iff_not, Bool.not_eq_true', Bool.not_eq_false', Bool.not_false, Bool.not_true] at h1'
    refine t_skip ?_
    refine t_seq ?_
    refine t_region ?_
    refine r_op (o_move rfl rfl) ?_
    refine r_op (o_move rfl rfl) ?_
    refine r_op (o_call 0 0 false (Go.Proofs.enters_of Try.func20 (by kernel_rfl) rfl) (c_laws_szDependencyS (l) (if (1048576) - ((szS (fun (x : List UInt8 × Int × Bool) => (x.1).length) (rs) : Nat) : Int) < 0 then -1 else (1048576) - ((szS (fun (x : List UInt8 × Int × Bool) => (x.1).length) (rs) : Nat) : Int)) (by first | omega | assumption | (have e := sz_len (f := (fun (x : List UInt8 × Int × Bool) => (x.1).length)) (l := rs); omega)) (by first | omega | assumption | (have e := sz_len (f := (fun (x : List UInt8 × Int × Bool) => (x.1).length)) (l := rs); omega)) (by first | omega | assumption | (have e := sz_len (f := (fun (x : List UInt8 × Int × Bool) => (x.1).length)) (l := rs); omega))) rfl (.cons rfl (.c .t0) (.cons rfl (.c .t0) .nil)) rfl rfl rfl) ?_
    refine r_op (o_assign rfl rfl) ?_
    refine r_end ?_
    refine t_seq ?_
    refine t_seq ?_
    refine t_region ?_
    refine r_op (o_move rfl rfl) ?_
    refine r_op (o_bin rfl rfl rfl rfl) ?_
    refine r_end ?_
    refine t_cond rfl (fun h2 => ?_) (fun h2 => ?_)
    ·
      have h2' := h2
      try simp only [decide_eq_true_eq, decide_eq_false_iff_not, Bool.not_eq_true', Bool.not_eq_false', Bool.not_false, Bool.not_true] at h2'
      refine t_seq ?_
      refine t_region ?_
      refine r_op (o_assign rfl rfl) ?_
      refine r_end ?_
      refine t_ret Try.func4 (.tmp rfl .nil) rfl fun E S w u hI hd => ?_
      refine post_mk hI hd ?_ trivial rfl rfl rfl <;> clear hI hd
      all_goals first | rfl | (exfalso; simp at *)
    ·
      have h2' := h2
      try simp only [decide_eq_true_eq, decide_eq_false_iff_not, Bool.not_eq_true', Bool.not_eq_false', Bool.not_false, Bool.not_true] at h2'
      refine t_skip ?_
      refine t_seq ?_
      refine t_region ?_
      refine r_op (o_move rfl rfl) ?_
      refine r_op (o_call 0 1 false (Go.Proofs.enters_of Try.func15 (by kernel_rfl) rfl) (c_laws_toRelationS (rs) (by first | omega | assumption | (have e := sz_len (f := (fun (x : List UInt8 × Int × Bool) => (x.1).length)) (l := rs); omega))) rfl (.cons rfl (.c .t0) .nil) rfl rfl rfl) ?_
      refine r_op (o_move rfl rfl) ?_
      refine r_op (o_call 1 2 false (Go.Proofs.enters_of Try.func22 (by kernel_rfl) rfl) (c_laws_toDependencyS (l) (by first | omega | assumption | (have e := sz_len (f := (fun (x : List UInt8 × Int × Bool) => (x.1).length)) (l := rs); omega))) rfl (.cons rfl (.c .t0) .nil) rfl rfl rfl) ?_
      refine r_op (o_call 2 2 false (Go.Proofs.enters_of Try.func21 (by kernel_rfl) rfl) (c_spec_AreValidDependencies ((rs)) ((l)) (by first | omega | assumption | (have e := sz_len (f := (fun (x : List UInt8 × Int × Bool) => (x.1).length)) (l := rs); omega)) (by first | omega | assumption | (have e := sz_len (f := (fun (x : List UInt8 × Int × Bool) => (x.1).length)) (l := rs); omega))) rfl (.cons rfl (.c (.own rfl)) (.cons rfl (.c (.own rfl)) .nil)) rfl rfl rfl) ?_
      refine r_op (o_assign rfl rfl) ?_
      refine r_end ?_
      refine t_seq ?_
      refine t_region ?_
      refine r_op (o_move rfl rfl) ?_
      refine r_op (o_call 2 3 false (Go.Proofs.enters_of Try.func15 (by kernel_rfl) rfl) (c_laws_toRelationS (rs) (by first | omega | assumption | (have e := sz_len (f := (fun (x : List UInt8 × Int × Bool) => (x.1).length)) (l := rs); omega))) rfl (.cons rfl (.c .t0) .nil) rfl rfl rfl) ?_
      refine r_op (o_assign rfl rfl) ?_
      refine r_end ?_
      refine t_seq ?_
      refine t_region ?_
      refine r_op (o_move rfl rfl) ?_
      refine r_op (o_call 3 4 false (Go.Proofs.enters_of Try.func22 (by kernel_rfl) rfl) (c_laws_toDependencyS (l) (by first | omega | assumption | (have e := sz_len (f := (fun (x : List UInt8 × Int × Bool) => (x.1).length)) (l := rs); omega))) rfl (.cons rfl (.c .t0) .nil) rfl rfl rfl) ?_
      refine r_op (o_assign rfl rfl) ?_
      refine r_end ?_
      refine t_seq ?_
      refine t_region ?_
      refine r_op (o_move rfl rfl) ?_
      refine r_op (o_move rfl rfl) ?_
      refine r_op (o_call 4 4 false (Go.Proofs.enters_of Try.func23 (by kernel_rfl) rfl) (c_impl_AreValidDependencies ((rs)) ((l)) (by first | omega | assumption | (have e := sz_len (f := (fun (x : List UInt8 × Int × Bool) => (x.1).length)) (l := rs); omega)) (by first | omega | assumption | (have e := sz_len (f := (fun (x : List UInt8 × Int × Bool) => (x.1).length)) (l := rs); omega))) rfl (.cons rfl (.c (.own rfl)) (.cons rfl (.c (.own rfl)) .nil)) rfl rfl rfl) ?_
      refine r_op (o_assign rfl rfl) ?_
      refine r_end ?_
      refine t_seq ?_
      refine t_seq ?_
      refine t_region ?_
      refine r_op (o_move rfl rfl) ?_
      refine r_op (o_move rfl rfl) ?_
      refine r_op (o_neB rfl Try.underlying4 rfl rfl) ?_
      refine r_end ?_
      refine t_cond rfl (fun h3 => ?_) (fun h3 => ?_)
      ·
        have h3' := h3
        skip
        refine t_seq ?_
        refine t_region ?_
        refine r_op (o_assign rfl rfl) ?_
        refine r_end ?_
        refine t_ret Try.func4 (.tmp rfl .nil) rfl fun E S w u hI hd => ?_
        refine post_mk hI hd ?_ trivial rfl rfl rfl <;> clear hI hd
        all_goals first | rfl | (exfalso; simp at *)
      ·
        have h3' := h3
        skip
        refine t_skip ?_
        refine t_seq ?_
        refine t_seq ?_
        refine t_region ?_
        refine r_op (o_move rfl rfl) ?_
        refine r_op (o_move rfl rfl) ?_
        refine r_op (o_call 4 5 false (Go.Proofs.enters_of Try.func15 (by kernel_rfl) rfl) (c_laws_toRelationS (rs) (by first | omega | assumption | (have e := sz_len (f := (fun (x : List UInt8 × Int × Bool) => (x.1).length)) (l := rs); omega))) rfl (.cons rfl (.c .t0) .nil) rfl rfl rfl) ?_
        refine r_op (o_call 5 5 false (Go.Proofs.enters_of Try.func18 (by kernel_rfl) rfl) (c_laws_eqRelationS ((rs)) ((rs)) (by first | omega | assumption | (have e := sz_len (f := (fun (x : List UInt8 × Int × Bool) => (x.1).length)) (l := rs); omega))) rfl (.cons rfl (.c (.own rfl)) (.cons rfl (.c (.own rfl)) .nil)) rfl rfl rfl) ?_
        refine r_op (o_not rfl rfl) ?_
        refine r_end ?_
        refine t_cond rfl (fun h4 => ?_) (fun h4 => ?_)
        ·
          have h4' := h4
          try simp only [decide_eq_true_eq, decide_eq_false_iff_not, Bool.not_eq_true', Bool.not_eq_false', Bool.not_false, Bool.not_true] at h4'
          refine t_seq ?_
          refine t_region ?_
          refine r_op (o_assign rfl rfl) ?_
          refine r_end ?_
          refine t_ret Try.func4 (.tmp rfl .nil) rfl fun E S w u hI hd => ?_
          refine post_mk hI hd ?_ trivial rfl rfl rfl <;> clear hI hd
          all_goals first | rfl | (exfalso; simp at *)
        ·
          have h4' := h4
          try simp only [decide_eq_true_eq, decide_eq_false_iff_not, Bool.not_eq_true', Bool.not_eq_false', Bool.not_false, Bool.not_true] at h4'
          refine t_skip ?_
          refine t_seq ?_
          refine t_seq ?_
          refine t_region ?_
          refine r_op (o_move rfl rfl) ?_
          refine r_op (o_move rfl rfl) ?_
          refine r_op (o_call 5 6 false (Go.Proofs.enters_of Try.func22 (by kernel_rfl) rfl) (c_laws_toDependencyS (l) (by first | omega | assumption | (have e := sz_len (f := (fun (x : List UInt8 × Int × Bool) => (x.1).length)) (l := rs); omega))) rfl (.cons rfl (.c .t0) .nil) rfl rfl rfl) ?_
          refine r_op (o_call 6 6 false (Go.Proofs.enters_of Try.func24 (by kernel_rfl) rfl) (c_laws_eqDependencyS ((l)) ((l)) (by first | omega | assumption | (have e := sz_len (f := (fun (x : List UInt8 × Int × Bool) => (x.1).length)) (l := rs); omega))) rfl (.cons rfl (.c (.own rfl)) (.cons rfl (.c (.own rfl)) .nil)) rfl rfl rfl) ?_
          refine r_op (o_not rfl rfl) ?_
          refine r_end ?_
          refine t_cond rfl (fun h5 => ?_) (fun h5 => ?_)
          ·
            have h5' := h5
            try simp only [decide_eq_true_eq, decide_eq_false_iff_not, Bool.not_eq_true', Bool.not_eq_false', Bool.not_false, Bool.not_true] at h5'
            refine t_seq ?_
            refine t_region ?_
            refine r_op (o_assign rfl rfl) ?_
            refine r_end ?_
            refine t_ret Try.func4 (.tmp rfl .nil) rfl fun E S w u hI hd => ?_
            refine post_mk hI hd ?_ trivial rfl rfl rfl <;> clear hI hd
            all_goals first | rfl | (exfalso; simp at *)
          ·
            have h5' := h5
            try simp only [decide_eq_true_eq, decide_eq_false_iff_not, Bool.not_eq_true', Bool.not_eq_false', Bool.not_false, Bool.not_true] at h5'
            refine t_skip ?_
            refine t_seq ?_
            refine t_region ?_
            refine r_op (o_assign rfl rfl) ?_
            refine r_end ?_
            refine t_ret Try.func4 (.tmp rfl .nil) rfl fun E S w u hI hd => ?_
            refine post_mk hI hd ?_ trivial rfl rfl rfl <;> clear hI hd
            all_goals first | rfl | (exfalso; simp at *)
end Go.Eng
