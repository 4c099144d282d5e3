/- What the functions that FnExactHasExtension reaches answer. -/
import Derived.Test.YtbbpoegdcecopaaFnsBi
import Derived.Test.YtbbpoegdcecopaaEngZp
import Derived.Test.YtbbpoegdcecopaaChecked
set_option linter.unusedVariables false
set_option linter.unusedSimpArgs false
namespace Go.Eng
open Go Go.RowKit Go.Proofs
set_option maxHeartbeats 1000000 in
set_option maxRecDepth 10000 in
theorem c_laws_szRelation (a0 : List UInt8) (a1 : Int) (a2 : Bool) (k : Int) (hk : 0 ≤ k) (hk2 : k ≤ 1048576) (h0 : okS a0) : Pu Try.prog 61 [.agg [.t none (.v (.string (mkS (a0)))), .t none (.v (.int .i64 (a1))), .t none (.v (.bool (a2)))], .c (.t none (.v (.int .i64 (k))))] [] 0 (.c (.t none (.v (.int .i64 (if k - (((a0).length : Nat) : Int) < 0 then -1 else k - (((a0).length : Nat) : Int)))))) := by
  refine pu_enter Try.func61 rfl (Nat.le_of_ble_eq_true rfl) fun w S => ?_
  have g_a0 : (a0).length ≤ 9223372036854775807 := h0
  refine t_seq ?_
  refine t_region ?_
  refine r_op (o_box 0 rfl rfl rfl rfl) ?_
  refine r_op (o_assign rfl rfl) ?_
  refine r_end ?_
  refine t_seq ?_
  refine t_region ?_
  refine r_op (o_move rfl rfl) ?_
  refine r_op (o_fieldb rfl (off := 0) (by kernel_rfl) rfl) ?_
  refine r_op (o_load1b rfl (by kernel_rfl) rfl rfl rfl) ?_
  refine r_op (o_lenS rfl Try.underlying9 rfl) ?_
  refine r_op (o_bin rfl rfl rfl rfl) ?_
  refine r_op (o_assign rfl rfl) ?_
  refine r_end ?_
  refine t_seq ?_
  refine t_seq ?_
  refine t_region ?_
  refine r_op (o_move rfl rfl) ?_
  refine r_op (o_bin rfl rfl rfl rfl) ?_
  refine r_end ?_
  refine t_cond rfl (fun h1 => ?_) (fun h1 => ?_)
  ·
    have h1' := h1
    try simp only [decide_eq_true_eq, decide_eq_false_iff_not, Bool.not_eq_true', Bool.not_eq_false', Bool.not_false, Bool.not_true] at h1'
    refine t_seq ?_
    refine t_region ?_
    refine r_op (o_assign rfl rfl) ?_
    refine r_end ?_
    refine t_ret Try.func61 (.tmp rfl .nil) rfl fun E S w u hI hd => ?_
    refine post_mk hI hd ?_ trivial rfl rfl rfl <;> clear hI hd
    all_goals first | rfl | (refine scI ?_; (try simp only [IntKind.wrap_i64] at *); omega)
  ·
    have h1' := h1
    try simp only [decide_eq_true_eq, decide_eq_false_iff_not, Bool.not_eq_true', Bool.not_eq_false', Bool.not_false, Bool.not_true] at h1'
    refine t_skip ?_
    refine t_seq ?_
    refine t_region ?_
    refine r_op (o_move rfl rfl) ?_
    refine r_op (o_assign rfl rfl) ?_
    refine r_end ?_
    refine t_ret Try.func61 (.tmp rfl .nil) rfl fun E S w u hI hd => ?_
    refine post_mk hI hd ?_ trivial rfl rfl rfl <;> clear hI hd
    all_goals first | rfl | (refine scI ?_; (try simp only [IntKind.wrap_i64] at *); omega)
set_option maxHeartbeats 1000000 in
set_option maxRecDepth 10000 in
theorem c_laws_szRelationS (l : List (List UInt8 × Int × Bool)) (k : Int) (hk : 0 ≤ k) (hk2 : k ≤ 1048576) (hl : (okL (fun (x : List UInt8 × Int × Bool) => okS (x.1) ∧ okI (x.2.1) ∧ okB (x.2.2))) l) : Pu Try.prog 12 [.c (.t none (.sl 3 (enS3 encS encI encB) (l))), .c (.t none (.v (.int .i64 (k))))] [] 0 (.c (.t none (.v (.int .i64 (if k - ((szS (fun (x : List UInt8 × Int × Bool) => (x.1).length) l : Nat) : Int) < 0 then -1 else k - ((szS (fun (x : List UInt8 × Int × Bool) => (x.1).length) l : Nat) : Int)))))) := by
  refine pu_enter Try.func12 rfl (Nat.le_of_ble_eq_true rfl) fun w S => ?_
  have gl := hl.1
  refine t_seq ?_
  refine t_region ?_
  refine r_op (o_assign rfl rfl) ?_
  refine r_end ?_
  refine t_seq ?_
  refine t_region ?_
  refine r_op (o_move rfl rfl) ?_
  refine r_op (o_move rfl rfl) ?_
  refine r_op (o_len rfl rfl rfl) ?_
  refine r_op (o_bin rfl rfl rfl rfl) ?_
  refine r_op (o_assign rfl rfl) ?_
  refine r_end ?_
  refine t_seq ?_
  refine t_seq ?_
  refine t_region ?_
  refine r_op (o_move rfl rfl) ?_
  refine r_op (o_bin rfl rfl rfl rfl) ?_
  refine r_end ?_
  refine t_cond rfl (fun h1 => ?_) (fun h1 => ?_)
  ·
    have h1' := h1
    try simp only [decide_eq_true_eq, decide_eq_false_iff_not, Bool.not_eq_true', Bool.not_eq_false', Bool.not_false, Bool.not_true] at h1'
    refine t_seq ?_
    refine t_region ?_
    refine r_op (o_assign rfl rfl) ?_
    refine r_end ?_
    refine t_ret Try.func12 (.tmp rfl .nil) rfl fun E S w u hI hd => ?_
    refine post_mk hI hd ?_ trivial rfl rfl rfl <;> clear hI hd <;> (try clear ih0)
    all_goals first | rfl | (refine scI ?_; (simp only [IntKind.wrap_i64] at *); have e1 := sz_len (f := (fun (x : List UInt8 × Int × Bool) => (x.1).length)) (l := l); omega)
  ·
    have h1' := h1
    try simp only [decide_eq_true_eq, decide_eq_false_iff_not, Bool.not_eq_true', Bool.not_eq_false', Bool.not_false, Bool.not_true] at h1'
    refine t_skip ?_
    refine t_seq ?_
    refine t_seq ?_
    refine t_region ?_
    refine r_op (o_assign rfl rfl) ?_
    refine r_end ?_
    refine t_block ?_
    refine t_loopL (fun m => ⟨[(0, some (.c (.t none (.sl 3 (enS3 encS encI encB) (l))))), (1, some (.c (.t none (.v (.int .i64 (k - l.length - ((szT (fun (x : List UInt8 × Int × Bool) => (x.1).length) l m : Nat) : Int))))))), (5, some (.c (.t none (.v (.int .i64 ((m : Int)))))))], [], 0⟩ : Nat → St) (fun m => m ≤ l.length ∧ 0 ≤ k - l.length - ((szT (fun (x : List UInt8 × Int × Bool) => (x.1).length) l m : Nat) : Int)) (fun m => l.length - m) 0 ⟨⟨rfl, ⟨(eqI (by rw [wr64 (by omega) (by omega)]; simp [szT_zero])), ⟨rfl, trivial⟩⟩⟩, trivial, rfl⟩ (by exact ⟨Nat.zero_le _, by (simp only [IntKind.wrap_i64] at *); simp only [szT_zero]; omega⟩) ?_
    rintro m hI ih0
    try dsimp only at hI ih0
    obtain ⟨i1, i2⟩ := hI
    refine t_seq ?_
    refine t_seq ?_
    refine t_region ?_
    refine r_op (o_move rfl rfl) ?_
    refine r_op (o_move rfl rfl) ?_
    refine r_op (o_len rfl rfl rfl) ?_
    refine r_op (o_bin rfl rfl rfl rfl) ?_
    refine r_end ?_
    refine t_cond rfl (fun h2 => ?_) (fun h2 => ?_)
    ·
      have h2' := h2
      try simp only [decide_eq_true_eq, decide_eq_false_iff_not, Bool.not_eq_true', Bool.not_eq_false', Bool.not_false, Bool.not_true] at h2'
      refine t_skip ?_
      refine t_seq ?_
      refine t_block ?_
      refine t_seq ?_
      refine t_region ?_
      refine r_op (o_move rfl rfl) ?_
      refine r_op (o_move rfl rfl) ?_
      obtain ⟨z3, hz4, b5⟩ := at_get (xs := l) (n := (m : Int)) (by first | omega | (have ok := ok_at hl (by assumption); first | exact ok | exact ok.1 | exact ok.2 | exact ok.2.1 | exact ok.2.2 | exact ok.2.2.1 | exact ok.2.2.2.1 | exact ok.2.2.2.2)) (by first | omega | (have ok := ok_at hl (by assumption); first | exact ok | exact ok.1 | exact ok.2 | exact ok.2.1 | exact ok.2.2 | exact ok.2.2.1 | exact ok.2.2.2.1 | exact ok.2.2.2.2))
      refine r_op (o_index rfl (by kernel_rfl) rfl rfl b5 hz4) ?_
      refine r_op (o_loadA rfl (n := 3) (by kernel_rfl) (by kernel_rfl) rfl rfl) ?_
      refine r_op (o_move rfl rfl) ?_
      refine r_op (o_call 0 0 false (Go.Proofs.enters_of Try.func61 (by kernel_rfl) rfl) (c_laws_szRelation (z3.1) (z3.2.1) (z3.2.2) (k - l.length - ((szT (fun (x : List UInt8 × Int × Bool) => (x.1).length) l m : Nat) : Int)) (by first | omega | (have ok := ok_at hl (by assumption); first | exact ok | exact ok.1 | exact ok.2 | exact ok.2.1 | exact ok.2.2 | exact ok.2.2.1 | exact ok.2.2.2.1 | exact ok.2.2.2.2)) (by first | omega | (have ok := ok_at hl (by assumption); first | exact ok | exact ok.1 | exact ok.2 | exact ok.2.1 | exact ok.2.2 | exact ok.2.2.1 | exact ok.2.2.2.1 | exact ok.2.2.2.2)) (by first | omega | (have ok := ok_at hl (by assumption); first | exact ok | exact ok.1 | exact ok.2 | exact ok.2.1 | exact ok.2.2 | exact ok.2.2.1 | exact ok.2.2.2.1 | exact ok.2.2.2.2))) rfl (.cons rfl (.agg (.cons .t0 (.cons .t0 (.cons .t0 .nil)))) (.cons rfl (.c .t0) .nil)) rfl rfl rfl) ?_
      refine r_op (o_assign rfl rfl) ?_
      refine r_end ?_
      refine t_seq ?_
      refine t_region ?_
      refine r_op (o_move rfl rfl) ?_
      refine r_op (o_bin rfl rfl rfl rfl) ?_
      refine r_end ?_
      refine t_cond rfl (fun h6 => ?_) (fun h6 => ?_)
      ·
        have h6' := h6
        try simp only [decide_eq_true_eq, decide_eq_false_iff_not, Bool.not_eq_true', Bool.not_eq_false', Bool.not_false, Bool.not_true] at h6'
        refine t_seq ?_
        refine t_region ?_
        refine r_op (o_assign rfl rfl) ?_
        refine r_end ?_
        refine t_ret Try.func12 (.tmp rfl .nil) rfl fun E S w u hI hd => ?_
        refine post_mk hI hd ?_ trivial rfl rfl rfl <;> clear hI hd <;> (try clear ih0)
        all_goals first | rfl | (refine scI ?_; have e1 := szT_step (f := (fun (x : List UInt8 × Int × Bool) => (x.1).length)) (l := l) (m := m) (by assumption); (try dsimp only at e1); have e2 := szT_le (f := (fun (x : List UInt8 × Int × Bool) => (x.1).length)) (l := l) (m + 1); omega)
      ·
        have h6' := h6
        try simp only [decide_eq_true_eq, decide_eq_false_iff_not, Bool.not_eq_true', Bool.not_eq_false', Bool.not_false, Bool.not_true] at h6'
        refine t_skip ?_
        refine t_endblock ?_
        refine t_region ?_
        refine r_op (o_move rfl rfl) ?_
        refine r_op (o_bin rfl rfl rfl rfl) ?_
        refine r_op (o_assign rfl rfl) ?_
        refine r_end ?_
        have e1 := szT_step (f := (fun (x : List UInt8 × Int × Bool) => (x.1).length)) (l := l) (m := m) (by assumption); try dsimp only at e1
        refine t_le ?_ (ih0 (m + 1) (by (try dsimp only); omega) (by (try dsimp only); constructor <;> omega))
        exact ⟨⟨rfl, ⟨(eqI (by omega)), ⟨(eqI (wrS (by omega))), trivial⟩⟩⟩, trivial, rfl⟩
    ·
      have h2' := h2
      try simp only [decide_eq_true_eq, decide_eq_false_iff_not, Bool.not_eq_true', Bool.not_eq_false', Bool.not_false, Bool.not_true] at h2'
      refine t_exit rfl ?_
      refine t_seq ?_
      refine t_region ?_
      refine r_op (o_move rfl rfl) ?_
      refine r_op (o_assign rfl rfl) ?_
      refine r_end ?_
      refine t_ret Try.func12 (.tmp rfl .nil) rfl fun E S w u hI hd => ?_
      refine post_mk hI hd ?_ trivial rfl rfl rfl <;> clear hI hd <;> (try clear ih0)
      all_goals first | rfl | (refine scI ?_; have e1 := szT_all (f := (fun (x : List UInt8 × Int × Bool) => (x.1).length)) (l := l) (m := m) (by omega); omega)
set_option maxHeartbeats 1000000 in
set_option maxRecDepth 10000 in
theorem c_laws_szIntS (l : List Int) (k : Int) (hk : 0 ≤ k) (hk2 : k ≤ 1048576) (hl : l.length ≤ 9223372036854775807) : Pu Try.prog 154 [.c (.t none (.sl 1 encI (l))), .c (.t none (.v (.int .i64 (k))))] [] 0 (.c (.t none (.v (.int .i64 (if k - l.length < 0 then -1 else k - l.length))))) := by
  refine pu_enter Try.func154 rfl (Nat.le_of_ble_eq_true rfl) fun w S => ?_
  refine t_seq ?_
  refine t_region ?_
  refine r_op (o_assign rfl rfl) ?_
  refine r_end ?_
  refine t_seq ?_
  refine t_region ?_
  refine r_op (o_move rfl rfl) ?_
  refine r_op (o_move rfl rfl) ?_
  refine r_op (o_len rfl rfl rfl) ?_
  refine r_op (o_bin rfl rfl rfl rfl) ?_
  refine r_op (o_assign rfl rfl) ?_
  refine r_end ?_
  refine t_seq ?_
  refine t_seq ?_
  refine t_region ?_
  refine r_op (o_move rfl rfl) ?_
  refine r_op (o_bin rfl rfl rfl rfl) ?_
  refine r_end ?_
  refine t_cond rfl (fun h1 => ?_) (fun h1 => ?_)
  ·
    have h1' := h1
    try simp only [decide_eq_true_eq, decide_eq_false_iff_not, Bool.not_eq_true', Bool.not_eq_false', Bool.not_false, Bool.not_true] at h1'
    refine t_seq ?_
    refine t_region ?_
    refine r_op (o_assign rfl rfl) ?_
    refine r_end ?_
    refine t_ret Try.func154 (.tmp rfl .nil) rfl fun E S w u hI hd => ?_
    refine post_mk hI hd ?_ trivial rfl rfl rfl <;> clear hI hd
    all_goals first | rfl | (have e := wr64 (x := k - l.length) (by omega) (by omega); rw [e] at h1'; rw [if_pos (by omega)])
  ·
    have h1' := h1
    try simp only [decide_eq_true_eq, decide_eq_false_iff_not, Bool.not_eq_true', Bool.not_eq_false', Bool.not_false, Bool.not_true] at h1'
    refine t_skip ?_
    refine t_seq ?_
    refine t_region ?_
    refine r_op (o_move rfl rfl) ?_
    refine r_op (o_assign rfl rfl) ?_
    refine r_end ?_
    refine t_ret Try.func154 (.tmp rfl .nil) rfl fun E S w u hI hd => ?_
    refine post_mk hI hd ?_ trivial rfl rfl rfl <;> clear hI hd
    all_goals first | rfl | (have e := wr64 (x := k - l.length) (by omega) (by omega); rw [e] at h1'; rw [e, if_neg (by omega)])
set_option maxHeartbeats 1000000 in
set_option maxRecDepth 10000 in
theorem c_laws_szFact (r : Int) (l : List Int) (k : Int) (hk : 0 ≤ k) (hk2 : k ≤ 1048576) (hl : l.length ≤ 9223372036854775807) : Pu Try.prog 132 [.agg [.t none (.v (.int .i64 (r))), .t none (.sl 1 encI (l))], .c (.t none (.v (.int .i64 (k))))] [] 0 (.c (.t none (.v (.int .i64 (if k - l.length < 0 then -1 else k - l.length))))) := by
  refine pu_enter Try.func132 rfl (Nat.le_of_ble_eq_true rfl) fun w S => ?_
  refine t_seq ?_
  refine t_region ?_
  refine r_op (o_box 0 rfl rfl rfl rfl) ?_
  refine r_op (o_assign rfl rfl) ?_
  refine r_end ?_
  refine t_seq ?_
  refine t_region ?_
  refine r_op (o_fieldb rfl (off := 1) (by kernel_rfl) rfl) ?_
  refine r_op (o_load1b rfl (by kernel_rfl) rfl rfl rfl) ?_
  refine r_op (o_move rfl rfl) ?_
  refine r_op (o_call 1 1 false (Go.Proofs.enters_of Try.func154 (by kernel_rfl) rfl) (c_laws_szIntS (l) (k) (by first | omega | (simp; omega)) (by first | omega | (simp; omega)) (by first | omega | (simp; omega))) rfl (.cons rfl (.c .t0) (.cons rfl (.c .t0) .nil)) rfl rfl rfl) ?_
  refine r_op (o_assign rfl rfl) ?_
  refine r_end ?_
  refine t_seq ?_
  refine t_seq ?_
  refine t_region ?_
  refine r_op (o_move rfl rfl) ?_
  refine r_op (o_bin rfl rfl rfl rfl) ?_
  refine r_end ?_
  refine t_cond rfl (fun h1 => ?_) (fun h1 => ?_)
  ·
    have h1' := h1
    try simp only [decide_eq_true_eq, decide_eq_false_iff_not, Bool.not_eq_true', Bool.not_eq_false', Bool.not_false, Bool.not_true] at h1'
    refine t_seq ?_
    refine t_region ?_
    refine r_op (o_assign rfl rfl) ?_
    refine r_end ?_
    refine t_ret Try.func132 (.tmp rfl .nil) rfl fun E S w u hI hd => ?_
    refine post_mk hI hd ?_ trivial rfl rfl rfl <;> clear hI hd
    all_goals first | rfl | (simp_all <;> omega)
  ·
    have h1' := h1
    try simp only [decide_eq_true_eq, decide_eq_false_iff_not, Bool.not_eq_true', Bool.not_eq_false', Bool.not_false, Bool.not_true] at h1'
    refine t_skip ?_
    refine t_seq ?_
    refine t_region ?_
    refine r_op (o_move rfl rfl) ?_
    refine r_op (o_assign rfl rfl) ?_
    refine r_end ?_
    refine t_ret Try.func132 (.tmp rfl .nil) rfl fun E S w u hI hd => ?_
    refine post_mk hI hd ?_ trivial rfl rfl rfl <;> clear hI hd
    all_goals first | rfl | (simp_all <;> omega)
set_option maxHeartbeats 1000000 in
set_option maxRecDepth 10000 in
theorem c_laws_szFactS (l : List (Int × (List (Int)))) (k : Int) (hk : 0 ≤ k) (hk2 : k ≤ 1048576) (hl : (okL (fun (x : Int × (List (Int))) => okI (x.1) ∧ (okL okI) (x.2))) l) : Pu Try.prog 77 [.c (.t none (.sl 2 (enS2 encI (enSl 1 encI)) (l))), .c (.t none (.v (.int .i64 (k))))] [] 0 (.c (.t none (.v (.int .i64 (if k - ((szS (fun (x : Int × (List (Int))) => (x.2).length) l : Nat) : Int) < 0 then -1 else k - ((szS (fun (x : Int × (List (Int))) => (x.2).length) l : Nat) : Int)))))) := by
  refine pu_enter Try.func77 rfl (Nat.le_of_ble_eq_true rfl) fun w S => ?_
  have gl := hl.1
  refine t_seq ?_
  refine t_region ?_
  refine r_op (o_assign rfl rfl) ?_
  refine r_end ?_
  refine t_seq ?_
  refine t_region ?_
  refine r_op (o_move rfl rfl) ?_
  refine r_op (o_move rfl rfl) ?_
  refine r_op (o_len rfl rfl rfl) ?_
  refine r_op (o_bin rfl rfl rfl rfl) ?_
  refine r_op (o_assign rfl rfl) ?_
  refine r_end ?_
  refine t_seq ?_
  refine t_seq ?_
  refine t_region ?_
  refine r_op (o_move rfl rfl) ?_
  refine r_op (o_bin rfl rfl rfl rfl) ?_
  refine r_end ?_
  refine t_cond rfl (fun h1 => ?_) (fun h1 => ?_)
  ·
    have h1' := h1
    try simp only [decide_eq_true_eq, decide_eq_false_iff_not, Bool.not_eq_true', Bool.not_eq_false', Bool.not_false, Bool.not_true] at h1'
    refine t_seq ?_
    refine t_region ?_
    refine r_op (o_assign rfl rfl) ?_
    refine r_end ?_
    refine t_ret Try.func77 (.tmp rfl .nil) rfl fun E S w u hI hd => ?_
    refine post_mk hI hd ?_ trivial rfl rfl rfl <;> clear hI hd <;> (try clear ih0)
    all_goals first | rfl | (refine scI ?_; (simp only [IntKind.wrap_i64] at *); have e1 := sz_len (f := (fun (x : Int × (List (Int))) => (x.2).length)) (l := l); omega)
  ·
    have h1' := h1
    try simp only [decide_eq_true_eq, decide_eq_false_iff_not, Bool.not_eq_true', Bool.not_eq_false', Bool.not_false, Bool.not_true] at h1'
    refine t_skip ?_
    refine t_seq ?_
    refine t_seq ?_
    refine t_region ?_
    refine r_op (o_assign rfl rfl) ?_
    refine r_end ?_
    refine t_block ?_
    refine t_loopL (fun m => ⟨[(0, some (.c (.t none (.sl 2 (enS2 encI (enSl 1 encI)) (l))))), (1, some (.c (.t none (.v (.int .i64 (k - l.length - ((szT (fun (x : Int × (List (Int))) => (x.2).length) l m : Nat) : Int))))))), (5, some (.c (.t none (.v (.int .i64 ((m : Int)))))))], [], 0⟩ : Nat → St) (fun m => m ≤ l.length ∧ 0 ≤ k - l.length - ((szT (fun (x : Int × (List (Int))) => (x.2).length) l m : Nat) : Int)) (fun m => l.length - m) 0 ⟨⟨rfl, ⟨(eqI (by rw [wr64 (by omega) (by omega)]; simp [szT_zero])), ⟨rfl, trivial⟩⟩⟩, trivial, rfl⟩ (by exact ⟨Nat.zero_le _, by (simp only [IntKind.wrap_i64] at *); simp only [szT_zero]; omega⟩) ?_
    rintro m hI ih0
    try dsimp only at hI ih0
    obtain ⟨i1, i2⟩ := hI
    refine t_seq ?_
    refine t_seq ?_
    refine t_region ?_
    refine r_op (o_move rfl rfl) ?_
    refine r_op (o_move rfl rfl) ?_
    refine r_op (o_len rfl rfl rfl) ?_
    refine r_op (o_bin rfl rfl rfl rfl) ?_
    refine r_end ?_
    refine t_cond rfl (fun h2 => ?_) (fun h2 => ?_)
    ·
      have h2' := h2
      try simp only [decide_eq_true_eq, decide_eq_false_iff_not, Bool.not_eq_true', Bool.not_eq_false', Bool.not_false, Bool.not_true] at h2'
      refine t_skip ?_
      refine t_seq ?_
      refine t_block ?_
      refine t_seq ?_
      refine t_region ?_
      refine r_op (o_move rfl rfl) ?_
      refine r_op (o_move rfl rfl) ?_
      obtain ⟨z3, hz4, b5⟩ := at_get (xs := l) (n := (m : Int)) (by first | omega | (have ok := ok_at hl (by assumption); first | exact ok | exact ok.1 | exact ok.2 | exact ok.2.1 | exact ok.2.2 | exact ok.2.2.1 | exact ok.2.2.2.1 | exact ok.2.2.2.2)) (by first | omega | (have ok := ok_at hl (by assumption); first | exact ok | exact ok.1 | exact ok.2 | exact ok.2.1 | exact ok.2.2 | exact ok.2.2.1 | exact ok.2.2.2.1 | exact ok.2.2.2.2))
      refine r_op (o_index rfl (by kernel_rfl) rfl rfl b5 hz4) ?_
      refine r_op (o_loadA rfl (n := 2) (by kernel_rfl) (by kernel_rfl) rfl rfl) ?_
      refine r_op (o_move rfl rfl) ?_
      refine r_op (o_call 0 0 false (Go.Proofs.enters_of Try.func132 (by kernel_rfl) rfl) (c_laws_szFact (z3.1) (z3.2) (k - l.length - ((szT (fun (x : Int × (List (Int))) => (x.2).length) l m : Nat) : Int)) (by first | omega | (have ok := ok_at hl (by assumption); first | exact ok | exact ok.1 | exact ok.2 | exact ok.2.1 | exact ok.2.2 | exact ok.2.2.1 | exact ok.2.2.2.1 | exact ok.2.2.2.2)) (by first | omega | (have ok := ok_at hl (by assumption); first | exact ok | exact ok.1 | exact ok.2 | exact ok.2.1 | exact ok.2.2 | exact ok.2.2.1 | exact ok.2.2.2.1 | exact ok.2.2.2.2)) (by first | omega | (have ok := ok_at hl (by assumption); first | exact ok | exact ok.1 | exact ok.2 | exact ok.2.1 | exact ok.2.2 | exact ok.2.2.1 | exact ok.2.2.2.1 | exact ok.2.2.2.2))) rfl (.cons rfl (.agg (.cons .t0 (.cons .t0 .nil))) (.cons rfl (.c .t0) .nil)) rfl rfl rfl) ?_
      refine r_op (o_assign rfl rfl) ?_
      refine r_end ?_
      refine t_seq ?_
      refine t_region ?_
      refine r_op (o_move rfl rfl) ?_
      refine r_op (o_bin rfl rfl rfl rfl) ?_
      refine r_end ?_
      refine t_cond rfl (fun h6 => ?_) (fun h6 => ?_)
      ·
        have h6' := h6
        try simp only [decide_eq_true_eq, decide_eq_false_iff_not, Bool.not_eq_true', Bool.not_eq_false', Bool.not_false, Bool.not_true] at h6'
        refine t_seq ?_
        refine t_region ?_
        refine r_op (o_assign rfl rfl) ?_
        refine r_end ?_
        refine t_ret Try.func77 (.tmp rfl .nil) rfl fun E S w u hI hd => ?_
        refine post_mk hI hd ?_ trivial rfl rfl rfl <;> clear hI hd <;> (try clear ih0)
        all_goals first | rfl | (refine scI ?_; have e1 := szT_step (f := (fun (x : Int × (List (Int))) => (x.2).length)) (l := l) (m := m) (by assumption); (try dsimp only at e1); have e2 := szT_le (f := (fun (x : Int × (List (Int))) => (x.2).length)) (l := l) (m + 1); omega)
      ·
        have h6' := h6
        try simp only [decide_eq_true_eq, decide_eq_false_iff_not, Bool.not_eq_true', Bool.not_eq_false', Bool.not_false, Bool.not_true] at h6'
        refine t_skip ?_
        refine t_endblock ?_
        refine t_region ?_
        refine r_op (o_move rfl rfl) ?_
        refine r_op (o_bin rfl rfl rfl rfl) ?_
        refine r_op (o_assign rfl rfl) ?_
        refine r_end ?_
        have e1 := szT_step (f := (fun (x : Int × (List (Int))) => (x.2).length)) (l := l) (m := m) (by assumption); try dsimp only at e1
        refine t_le ?_ (ih0 (m + 1) (by (try dsimp only); omega) (by (try dsimp only); constructor <;> omega))
        exact ⟨⟨rfl, ⟨(eqI (by omega)), ⟨(eqI (wrS (by omega))), trivial⟩⟩⟩, trivial, rfl⟩
    ·
      have h2' := h2
      try simp only [decide_eq_true_eq, decide_eq_false_iff_not, Bool.not_eq_true', Bool.not_eq_false', Bool.not_false, Bool.not_true] at h2'
      refine t_exit rfl ?_
      refine t_seq ?_
      refine t_region ?_
      refine r_op (o_move rfl rfl) ?_
      refine r_op (o_assign rfl rfl) ?_
      refine r_end ?_
      refine t_ret Try.func77 (.tmp rfl .nil) rfl fun E S w u hI hd => ?_
      refine post_mk hI hd ?_ trivial rfl rfl rfl <;> clear hI hd <;> (try clear ih0)
      all_goals first | rfl | (refine scI ?_; have e1 := szT_all (f := (fun (x : Int × (List (Int))) => (x.2).length)) (l := l) (m := m) (by omega); omega)
set_option maxHeartbeats 1000000 in
set_option maxRecDepth 10000 in
theorem c_laws_szInstance (a0 : List (List UInt8 × Int × Bool)) (a1 : List (Int × (List (Int)))) (k : Int) (hk : 0 ≤ k) (hk2 : k ≤ 1048576) (h0 : (okL (fun (x : List UInt8 × Int × Bool) => okS (x.1) ∧ okI (x.2.1) ∧ okB (x.2.2))) a0) (h1 : (okL (fun (x : Int × (List (Int))) => okI (x.1) ∧ (okL okI) (x.2))) a1) : Pu Try.prog 25 [.agg [.t none (.sl 3 (enS3 encS encI encB) (a0)), .t none (.sl 2 (enS2 encI (enSl 1 encI)) (a1))], .c (.t none (.v (.int .i64 (k))))] [] 0 (.c (.t none (.v (.int .i64 (if k - (((szS (fun (x : List UInt8 × Int × Bool) => (x.1).length) (a0)) + (szS (fun (x : Int × (List (Int))) => (x.2).length) (a1)) : Nat) : Int) < 0 then -1 else k - (((szS (fun (x : List UInt8 × Int × Bool) => (x.1).length) (a0)) + (szS (fun (x : Int × (List (Int))) => (x.2).length) (a1)) : Nat) : Int)))))) := by
  refine pu_enter Try.func25 rfl (Nat.le_of_ble_eq_true rfl) fun w S => ?_
  have g_a0 := h0.1; have g_a1 := h1.1
  refine t_seq ?_
  refine t_region ?_
  refine r_op (o_box 0 rfl rfl rfl rfl) ?_
  refine r_op (o_assign rfl rfl) ?_
  refine r_end ?_
  refine t_seq ?_
  refine t_region ?_
  refine r_op (o_fieldb rfl (off := 0) (by kernel_rfl) rfl) ?_
  refine r_op (o_load1b rfl (by kernel_rfl) rfl rfl rfl) ?_
  refine r_op (o_move rfl rfl) ?_
  refine r_op (o_call 1 1 false (Go.Proofs.enters_of Try.func12 (by kernel_rfl) rfl) (c_laws_szRelationS (a0) (k) (by first | omega | (simp; omega)) (by first | omega | (simp; omega)) (by first | omega | (simp; omega))) rfl (.cons rfl (.c .t0) (.cons rfl (.c .t0) .nil)) rfl rfl rfl) ?_
  refine r_op (o_assign rfl rfl) ?_
  refine r_end ?_
  refine t_seq ?_
  refine t_seq ?_
  refine t_region ?_
  refine r_op (o_move rfl rfl) ?_
  refine r_op (o_bin rfl rfl rfl rfl) ?_
  refine r_end ?_
  refine t_cond rfl (fun h1 => ?_) (fun h1 => ?_)
  ·
    have h1' := h1
    try simp only [decide_eq_true_eq, decide_eq_false_iff_not, Bool.not_eq_true', Bool.not_eq_false', Bool.not_false, Bool.not_true] at h1'
    refine t_seq ?_
    refine t_region ?_
    refine r_op (o_assign rfl rfl) ?_
    refine r_end ?_
    refine t_ret Try.func25 (.tmp rfl .nil) rfl fun E S w u hI hd => ?_
    refine post_mk hI hd ?_ trivial rfl rfl rfl <;> clear hI hd
    all_goals first | rfl | (refine scI ?_; (try simp only [IntKind.wrap_i64] at *); omega)
  ·
    have h1' := h1
    try simp only [decide_eq_true_eq, decide_eq_false_iff_not, Bool.not_eq_true', Bool.not_eq_false', Bool.not_false, Bool.not_true] at h1'
    refine t_skip ?_
    refine t_seq ?_
    refine t_region ?_
    refine r_op (o_fieldb rfl (off := 1) (by kernel_rfl) rfl) ?_
    refine r_op (o_load1b rfl (by kernel_rfl) rfl rfl rfl) ?_
    refine r_op (o_move rfl rfl) ?_
    refine r_op (o_call 1 1 false (Go.Proofs.enters_of Try.func77 (by kernel_rfl) rfl) (c_laws_szFactS (a1) (if (k) - ((szS (fun (x : List UInt8 × Int × Bool) => (x.1).length) (a0) : Nat) : Int) < 0 then -1 else (k) - ((szS (fun (x : List UInt8 × Int × Bool) => (x.1).length) (a0) : Nat) : Int)) (by first | omega | (simp; omega)) (by first | omega | (simp; omega)) (by first | omega | (simp; omega))) rfl (.cons rfl (.c .t0) (.cons rfl (.c .t0) .nil)) rfl rfl rfl) ?_
    refine r_op (o_assign rfl rfl) ?_
    refine r_end ?_
    refine t_seq ?_
    refine t_seq ?_
    refine t_region ?_
    refine r_op (o_move rfl rfl) ?_
    refine r_op (o_bin rfl rfl rfl rfl) ?_
    refine r_end ?_
    refine t_cond rfl (fun h2 => ?_) (fun h2 => ?_)
    ·
      have h2' := h2
      try simp only [decide_eq_true_eq, decide_eq_false_iff_not, Bool.not_eq_true', Bool.not_eq_false', Bool.not_false, Bool.not_true] at h2'
      refine t_seq ?_
      refine t_region ?_
      refine r_op (o_assign rfl rfl) ?_
      refine r_end ?_
      refine t_ret Try.func25 (.tmp rfl .nil) rfl fun E S w u hI hd => ?_
      refine post_mk hI hd ?_ trivial rfl rfl rfl <;> clear hI hd
      all_goals first | rfl | (refine scI ?_; (try simp only [IntKind.wrap_i64] at *); omega)
    ·
      have h2' := h2
      try simp only [decide_eq_true_eq, decide_eq_false_iff_not, Bool.not_eq_true', Bool.not_eq_false', Bool.not_false, Bool.not_true] at h2'
      refine t_skip ?_
      refine t_seq ?_
      refine t_region ?_
      refine r_op (o_move rfl rfl) ?_
      refine r_op (o_assign rfl rfl) ?_
      refine r_end ?_
      refine t_ret Try.func25 (.tmp rfl .nil) rfl fun E S w u hI hd => ?_
      refine post_mk hI hd ?_ trivial rfl rfl rfl <;> clear hI hd
      all_goals first | rfl | (refine scI ?_; (try simp only [IntKind.wrap_i64] at *); omega)
set_option maxHeartbeats 1000000 in
set_option maxRecDepth 10000 in
theorem c_laws_szAtom (a0 : Int) (a1 : List (Int)) (k : Int) (hk : 0 ≤ k) (hk2 : k ≤ 1048576) (h1 : (okL okI) a1) : Pu Try.prog 97 [.agg [.t none (.v (.int .i64 (a0))), .t none (.sl 1 encI (a1))], .c (.t none (.v (.int .i64 (k))))] [] 0 (.c (.t none (.v (.int .i64 (if k - (((a1).length : Nat) : Int) < 0 then -1 else k - (((a1).length : Nat) : Int)))))) := by
  refine pu_enter Try.func97 rfl (Nat.le_of_ble_eq_true rfl) fun w S => ?_
  have g_a1 := h1.1
  refine t_seq ?_
  refine t_region ?_
  refine r_op (o_box 0 rfl rfl rfl rfl) ?_
  refine r_op (o_assign rfl rfl) ?_
  refine r_end ?_
  refine t_seq ?_
  refine t_region ?_
  refine r_op (o_fieldb rfl (off := 1) (by kernel_rfl) rfl) ?_
  refine r_op (o_load1b rfl (by kernel_rfl) rfl rfl rfl) ?_
  refine r_op (o_move rfl rfl) ?_
  refine r_op (o_call 1 1 false (Go.Proofs.enters_of Try.func154 (by kernel_rfl) rfl) (c_laws_szIntS (a1) (k) (by first | omega | (simp; omega)) (by first | omega | (simp; omega)) (by first | omega | (simp; omega))) rfl (.cons rfl (.c .t0) (.cons rfl (.c .t0) .nil)) rfl rfl rfl) ?_
  refine r_op (o_assign rfl rfl) ?_
  refine r_end ?_
  refine t_seq ?_
  refine t_seq ?_
  refine t_region ?_
  refine r_op (o_move rfl rfl) ?_
  refine r_op (o_bin rfl rfl rfl rfl) ?_
  refine r_end ?_
  refine t_cond rfl (fun h1 => ?_) (fun h1 => ?_)
  ·
    have h1' := h1
    try simp only [decide_eq_true_eq, decide_eq_false_iff_not, Bool.not_eq_true', Bool.not_eq_false', Bool.not_false, Bool.not_true] at h1'
    refine t_seq ?_
    refine t_region ?_
    refine r_op (o_assign rfl rfl) ?_
    refine r_end ?_
    refine t_ret Try.func97 (.tmp rfl .nil) rfl fun E S w u hI hd => ?_
    refine post_mk hI hd ?_ trivial rfl rfl rfl <;> clear hI hd
    all_goals first | rfl | (refine scI ?_; (try simp only [IntKind.wrap_i64] at *); omega)
  ·
    have h1' := h1
    try simp only [decide_eq_true_eq, decide_eq_false_iff_not, Bool.not_eq_true', Bool.not_eq_false', Bool.not_false, Bool.not_true] at h1'
    refine t_skip ?_
    refine t_seq ?_
    refine t_region ?_
    refine r_op (o_move rfl rfl) ?_
    refine r_op (o_assign rfl rfl) ?_
    refine r_end ?_
    refine t_ret Try.func97 (.tmp rfl .nil) rfl fun E S w u hI hd => ?_
    refine post_mk hI hd ?_ trivial rfl rfl rfl <;> clear hI hd
    all_goals first | rfl | (refine scI ?_; (try simp only [IntKind.wrap_i64] at *); omega)
set_option maxHeartbeats 1000000 in
set_option maxRecDepth 10000 in
theorem c_laws_szAtomS (l : List (Int × (List (Int)))) (k : Int) (hk : 0 ≤ k) (hk2 : k ≤ 1048576) (hl : (okL (fun (x : Int × (List (Int))) => okI (x.1) ∧ (okL okI) (x.2))) l) : Pu Try.prog 40 [.c (.t none (.sl 2 (enS2 encI (enSl 1 encI)) (l))), .c (.t none (.v (.int .i64 (k))))] [] 0 (.c (.t none (.v (.int .i64 (if k - ((szS (fun (x : Int × (List (Int))) => (x.2).length) l : Nat) : Int) < 0 then -1 else k - ((szS (fun (x : Int × (List (Int))) => (x.2).length) l : Nat) : Int)))))) := by
  refine pu_enter Try.func40 rfl (Nat.le_of_ble_eq_true rfl) fun w S => ?_
  have gl := hl.1
  refine t_seq ?_
  refine t_region ?_
  refine r_op (o_assign rfl rfl) ?_
  refine r_end ?_
  refine t_seq ?_
  refine t_region ?_
  refine r_op (o_move rfl rfl) ?_
  refine r_op (o_move rfl rfl) ?_
  refine r_op (o_len rfl rfl rfl) ?_
  refine r_op (o_bin rfl rfl rfl rfl) ?_
  refine r_op (o_assign rfl rfl) ?_
  refine r_end ?_
  refine t_seq ?_
  refine t_seq ?_
  refine t_region ?_
  refine r_op (o_move rfl rfl) ?_
  refine r_op (o_bin rfl rfl rfl rfl) ?_
  refine r_end ?_
  refine t_cond rfl (fun h1 => ?_) (fun h1 => ?_)
  ·
    have h1' := h1
    try simp only [decide_eq_true_eq, decide_eq_false_iff_not, Bool.not_eq_true', Bool.not_eq_false', Bool.not_false, Bool.not_true] at h1'
    refine t_seq ?_
    refine t_region ?_
    refine r_op (o_assign rfl rfl) ?_
    refine r_end ?_
    refine t_ret Try.func40 (.tmp rfl .nil) rfl fun E S w u hI hd => ?_
    refine post_mk hI hd ?_ trivial rfl rfl rfl <;> clear hI hd <;> (try clear ih0)
    all_goals first | rfl | (refine scI ?_; (simp only [IntKind.wrap_i64] at *); have e1 := sz_len (f := (fun (x : Int × (List (Int))) => (x.2).length)) (l := l); omega)
  ·
    have h1' := h1
    try simp only [decide_eq_true_eq, decide_eq_false_iff_not, Bool.not_eq_true', Bool.not_eq_false', Bool.not_false, Bool.not_true] at h1'
    refine t_skip ?_
    refine t_seq ?_
    refine t_seq ?_
    refine t_region ?_
    refine r_op (o_assign rfl rfl) ?_
    refine r_end ?_
    refine t_block ?_
    refine t_loopL (fun m => ⟨[(0, some (.c (.t none (.sl 2 (enS2 encI (enSl 1 encI)) (l))))), (1, some (.c (.t none (.v (.int .i64 (k - l.length - ((szT (fun (x : Int × (List (Int))) => (x.2).length) l m : Nat) : Int))))))), (5, some (.c (.t none (.v (.int .i64 ((m : Int)))))))], [], 0⟩ : Nat → St) (fun m => m ≤ l.length ∧ 0 ≤ k - l.length - ((szT (fun (x : Int × (List (Int))) => (x.2).length) l m : Nat) : Int)) (fun m => l.length - m) 0 ⟨⟨rfl, ⟨(eqI (by rw [wr64 (by omega) (by omega)]; simp [szT_zero])), ⟨rfl, trivial⟩⟩⟩, trivial, rfl⟩ (by exact ⟨Nat.zero_le _, by (simp only [IntKind.wrap_i64] at *); simp only [szT_zero]; omega⟩) ?_
    rintro m hI ih0
    try dsimp only at hI ih0
    obtain ⟨i1, i2⟩ := hI
    refine t_seq ?_
    refine t_seq ?_
    refine t_region ?_
    refine r_op (o_move rfl rfl) ?_
    refine r_op (o_move rfl rfl) ?_
    refine r_op (o_len rfl rfl rfl) ?_
    refine r_op (o_bin rfl rfl rfl rfl) ?_
    refine r_end ?_
    refine t_cond rfl (fun h2 => ?_) (fun h2 => ?_)
    ·
      have h2' := h2
      try simp only [decide_eq_true_eq, decide_eq_false_iff_not, Bool.not_eq_true', Bool.not_eq_false', Bool.not_false, Bool.not_true] at h2'
      refine t_skip ?_
      refine t_seq ?_
      refine t_block ?_
      refine t_seq ?_
      refine t_region ?_
      refine r_op (o_move rfl rfl) ?_
      refine r_op (o_move rfl rfl) ?_
      obtain ⟨z3, hz4, b5⟩ := at_get (xs := l) (n := (m : Int)) (by first | omega | (have ok := ok_at hl (by assumption); first | exact ok | exact ok.1 | exact ok.2 | exact ok.2.1 | exact ok.2.2 | exact ok.2.2.1 | exact ok.2.2.2.1 | exact ok.2.2.2.2)) (by first | omega | (have ok := ok_at hl (by assumption); first | exact ok | exact ok.1 | exact ok.2 | exact ok.2.1 | exact ok.2.2 | exact ok.2.2.1 | exact ok.2.2.2.1 | exact ok.2.2.2.2))
      refine r_op (o_index rfl (by kernel_rfl) rfl rfl b5 hz4) ?_
      refine r_op (o_loadA rfl (n := 2) (by kernel_rfl) (by kernel_rfl) rfl rfl) ?_
      refine r_op (o_move rfl rfl) ?_
      refine r_op (o_call 0 0 false (Go.Proofs.enters_of Try.func97 (by kernel_rfl) rfl) (c_laws_szAtom (z3.1) (z3.2) (k - l.length - ((szT (fun (x : Int × (List (Int))) => (x.2).length) l m : Nat) : Int)) (by first | omega | (have ok := ok_at hl (by assumption); first | exact ok | exact ok.1 | exact ok.2 | exact ok.2.1 | exact ok.2.2 | exact ok.2.2.1 | exact ok.2.2.2.1 | exact ok.2.2.2.2)) (by first | omega | (have ok := ok_at hl (by assumption); first | exact ok | exact ok.1 | exact ok.2 | exact ok.2.1 | exact ok.2.2 | exact ok.2.2.1 | exact ok.2.2.2.1 | exact ok.2.2.2.2)) (by first | omega | (have ok := ok_at hl (by assumption); first | exact ok | exact ok.1 | exact ok.2 | exact ok.2.1 | exact ok.2.2 | exact ok.2.2.1 | exact ok.2.2.2.1 | exact ok.2.2.2.2))) rfl (.cons rfl (.agg (.cons .t0 (.cons .t0 .nil))) (.cons rfl (.c .t0) .nil)) rfl rfl rfl) ?_
      refine r_op (o_assign rfl rfl) ?_
      refine r_end ?_
      refine t_seq ?_
      refine t_region ?_
      refine r_op (o_move rfl rfl) ?_
      refine r_op (o_bin rfl rfl rfl rfl) ?_
      refine r_end ?_
      refine t_cond rfl (fun h6 => ?_) (fun h6 => ?_)
      ·
        have h6' := h6
        try simp only [decide_eq_true_eq, decide_eq_false_iff_not, Bool.not_eq_true', Bool.not_eq_false', Bool.not_false, Bool.not_true] at h6'
        refine t_seq ?_
        refine t_region ?_
        refine r_op (o_assign rfl rfl) ?_
        refine r_end ?_
        refine t_ret Try.func40 (.tmp rfl .nil) rfl fun E S w u hI hd => ?_
        refine post_mk hI hd ?_ trivial rfl rfl rfl <;> clear hI hd <;> (try clear ih0)
        all_goals first | rfl | (refine scI ?_; have e1 := szT_step (f := (fun (x : Int × (List (Int))) => (x.2).length)) (l := l) (m := m) (by assumption); (try dsimp only at e1); have e2 := szT_le (f := (fun (x : Int × (List (Int))) => (x.2).length)) (l := l) (m + 1); omega)
      ·
        have h6' := h6
        try simp only [decide_eq_true_eq, decide_eq_false_iff_not, Bool.not_eq_true', Bool.not_eq_false', Bool.not_false, Bool.not_true] at h6'
        refine t_skip ?_
        refine t_endblock ?_
        refine t_region ?_
        refine r_op (o_move rfl rfl) ?_
        refine r_op (o_bin rfl rfl rfl rfl) ?_
        refine r_op (o_assign rfl rfl) ?_
        refine r_end ?_
        have e1 := szT_step (f := (fun (x : Int × (List (Int))) => (x.2).length)) (l := l) (m := m) (by assumption); try dsimp only at e1
        refine t_le ?_ (ih0 (m + 1) (by (try dsimp only); omega) (by (try dsimp only); constructor <;> omega))
        exact ⟨⟨rfl, ⟨(eqI (by omega)), ⟨(eqI (wrS (by omega))), trivial⟩⟩⟩, trivial, rfl⟩
    ·
      have h2' := h2
      try simp only [decide_eq_true_eq, decide_eq_false_iff_not, Bool.not_eq_true', Bool.not_eq_false', Bool.not_false, Bool.not_true] at h2'
      refine t_exit rfl ?_
      refine t_seq ?_
      refine t_region ?_
      refine r_op (o_move rfl rfl) ?_
      refine r_op (o_assign rfl rfl) ?_
      refine r_end ?_
      refine t_ret Try.func40 (.tmp rfl .nil) rfl fun E S w u hI hd => ?_
      refine post_mk hI hd ?_ trivial rfl rfl rfl <;> clear hI hd <;> (try clear ih0)
      all_goals first | rfl | (refine scI ?_; have e1 := szT_all (f := (fun (x : Int × (List (Int))) => (x.2).length)) (l := l) (m := m) (by omega); omega)
set_option maxHeartbeats 1000000 in
set_option maxRecDepth 10000 in
theorem c_laws_toRelation (a0 : List UInt8) (a1 : Int) (a2 : Bool) (hs : (a0).length ≤ 1048576) : Pu Try.prog 66 [.agg [.t none (.v (.string (mkS (a0)))), .t none (.v (.int .i64 (a1))), .t none (.v (.bool (a2)))]] [] 3 (.agg [.t none (.v (.string (mkS (a0)))), .t none (.v (.int .i64 (a1))), .t none (.v (.bool (a2)))]) := by
  refine pu_enter Try.func66 rfl (Nat.le_of_ble_eq_true rfl) fun w S => ?_
  refine t_seq ?_
  refine t_region ?_
  refine r_op (o_box 0 rfl rfl rfl rfl) ?_
  refine r_op (o_alloc 1 (zs := [.string (mkS ([])), .int .i64 (0), .bool (false)]) rfl rfl (by kernel_rfl) rfl) ?_
  refine r_end ?_
  refine t_seq ?_
  refine t_region ?_
  refine r_op (o_alloc 2 (zs := [.string (mkS ([])), .int .i64 (0), .bool (false)]) rfl rfl (by kernel_rfl) rfl) ?_
  refine r_end ?_
  refine t_seq ?_
  refine t_region ?_
  refine r_op (o_fieldb rfl (off := 0) (by kernel_rfl) rfl) ?_
  refine r_op (o_load1b rfl (by kernel_rfl) rfl rfl rfl) ?_
  refine r_op (o_fieldb rfl (off := 0) (by kernel_rfl) rfl) ?_
  refine r_op (o_storeb (n := 1) (by kernel_rfl) rfl rfl rfl rfl rfl rfl) ?_
  refine r_end ?_
  refine t_seq ?_
  refine t_region ?_
  refine r_op (o_fieldb rfl (off := 1) (by kernel_rfl) rfl) ?_
  refine r_op (o_load1b rfl (by kernel_rfl) rfl rfl rfl) ?_
  refine r_op (o_fieldb rfl (off := 1) (by kernel_rfl) rfl) ?_
  refine r_op (o_storeb (n := 1) (by kernel_rfl) rfl rfl rfl rfl rfl rfl) ?_
  refine r_end ?_
  refine t_seq ?_
  refine t_region ?_
  refine r_op (o_fieldb rfl (off := 2) (by kernel_rfl) rfl) ?_
  refine r_op (o_load1b rfl (by kernel_rfl) rfl rfl rfl) ?_
  refine r_op (o_fieldb rfl (off := 2) (by kernel_rfl) rfl) ?_
  refine r_op (o_storeb (n := 1) (by kernel_rfl) rfl rfl rfl rfl rfl rfl) ?_
  refine r_end ?_
  refine t_seq ?_
  refine t_region ?_
  refine r_op (o_loadAb rfl (n := 3) (by kernel_rfl) (by kernel_rfl) rfl rfl rfl) ?_
  refine r_op (o_storeb (n := 3) (by kernel_rfl) rfl rfl rfl rfl rfl rfl) ?_
  refine r_end ?_
  refine t_ret Try.func66 (.cells (n := 3) (by kernel_rfl) (by kernel_rfl) rfl rfl rfl .nil) rfl fun E S w u hI hd => ?_
  refine post_mk hI hd ?_ trivial rfl rfl rfl <;> clear hI hd
  all_goals first | rfl | (simp_all <;> omega)
set_option maxHeartbeats 1000000 in
set_option maxRecDepth 10000 in
theorem c_laws_toRelationS (l : List (List UInt8 × Int × Bool)) (hs : szS (fun (x : List UInt8 × Int × Bool) => (x.1).length) l ≤ 1048576) : Pu Try.prog 15 [.c (.t none (.sl 3 (enS3 encS encI encB) (l)))] [(0, some (.row none 93 true 3 (enS3 encS encI encB) (l)))] 1 (.c (.own 0)) := by
  refine pu_enter Try.func15 rfl (Nat.le_of_ble_eq_true rfl) fun w S => ?_
  have gl := sz_len (f := (fun (x : List UInt8 × Int × Bool) => (x.1).length)) (l := l)
  refine t_seq ?_
  refine t_region ?_
  refine r_op (o_assign rfl rfl) ?_
  refine r_end ?_
  refine t_seq ?_
  refine t_region ?_
  refine r_op (o_move rfl rfl) ?_
  refine r_op (o_len rfl rfl rfl) ?_
  refine r_op (o_make 0 true (et := 93) (sz := 3) (by' := 32) (enS3 encS encI encB) (([], 0, false)) (zs := [.string (mkS ([])), .int .i64 (0), .bool (false)]) rfl rfl (by kernel_rfl) (by kernel_rfl) rfl rfl (.cons (.v rfl) (.cons (.v rfl) (.cons (.v rfl) .nil))) rfl rfl (by first | omega | (simp; omega) | (have e1 := sz_at (f := (fun (x : List UInt8 × Int × Bool) => (x.1).length)) (l := l) (m := m) (by assumption); (try dsimp only at e1); omega)) (by first | omega | (simp; omega) | (have e1 := sz_at (f := (fun (x : List UInt8 × Int × Bool) => (x.1).length)) (l := l) (m := m) (by assumption); (try dsimp only at e1); omega)) (by first | omega | (simp; omega) | (have e1 := sz_at (f := (fun (x : List UInt8 × Int × Bool) => (x.1).length)) (l := l) (m := m) (by assumption); (try dsimp only at e1); omega))) ?_
  refine r_op (o_assign rfl rfl) ?_
  refine r_end ?_
  refine t_seq ?_
  refine t_seq ?_
  refine t_region ?_
  refine r_op (o_assign rfl rfl) ?_
  refine r_end ?_
  refine t_block ?_
  refine t_loopL (fun m => ⟨[(0, some (.c (.t none (.sl 3 (enS3 encS encI encB) (l))))), (2, some (.c (.t none (.v (.slice none 0 0))))), (3, some (.c (.own 0))), (4, some (.c (.t none (.v (.int .i64 ((m : Int)))))))], [(0, some (.row none 93 true 3 (enS3 encS encI encB) (l.take m ++ List.replicate (l.length - m) (([], 0, false)))))], 1⟩ : Nat → St) (fun m => m ≤ l.length) (fun m => l.length - m) 0 ⟨⟨rfl, ⟨rfl, ⟨rfl, ⟨rfl, trivial⟩⟩⟩⟩, ⟨(eqR (by simp)), trivial⟩, rfl⟩ (by simp) ?_
  rintro m hI ih0
  try dsimp only at hI ih0
  refine t_seq ?_
  refine t_seq ?_
  refine t_region ?_
  refine r_op (o_move rfl rfl) ?_
  refine r_op (o_move rfl rfl) ?_
  refine r_op (o_len rfl rfl rfl) ?_
  refine r_op (o_bin rfl rfl rfl rfl) ?_
  refine r_end ?_
  refine t_cond rfl (fun h1 => ?_) (fun h1 => ?_)
  ·
    have h1' := h1
    try simp only [decide_eq_true_eq, decide_eq_false_iff_not, Bool.not_eq_true', Bool.not_eq_false', Bool.not_false, Bool.not_true] at h1'
    refine t_skip ?_
    refine t_seq ?_
    refine t_block ?_
    refine t_region ?_
    refine r_op (o_move rfl rfl) ?_
    refine r_op (o_move rfl rfl) ?_
    refine r_op (o_move rfl rfl) ?_
    refine r_op (o_move rfl rfl) ?_
    obtain ⟨z2, hz3, b4⟩ := at_get (xs := l) (n := (m : Int)) (by first | omega | (simp; omega) | (have e1 := sz_at (f := (fun (x : List UInt8 × Int × Bool) => (x.1).length)) (l := l) (m := m) (by assumption); (try dsimp only at e1); omega)) (by first | omega | (simp; omega) | (have e1 := sz_at (f := (fun (x : List UInt8 × Int × Bool) => (x.1).length)) (l := l) (m := m) (by assumption); (try dsimp only at e1); omega))
    refine r_op (o_index rfl (by kernel_rfl) rfl rfl b4 hz3) ?_
    refine r_op (o_loadA rfl (n := 3) (by kernel_rfl) (by kernel_rfl) rfl rfl) ?_
    refine r_op (o_call 1 4 false (Go.Proofs.enters_of Try.func66 (by kernel_rfl) rfl) (c_laws_toRelation (z2.1) (z2.2.1) (z2.2.2) (by first | omega | (simp; omega) | (have e1 := sz_at (f := (fun (x : List UInt8 × Int × Bool) => (x.1).length)) (l := l) (m := m) (by assumption); (try dsimp only at e1); omega))) rfl (.cons rfl (.agg (.cons .t0 (.cons .t0 (.cons .t0 .nil)))) .nil) rfl rfl rfl) ?_
    obtain ⟨z5, hz6, b7⟩ := at_get (xs := l.take m ++ List.replicate (l.length - m) (([], 0, false))) (n := (m : Int)) (by first | omega | (simp; omega) | (have e1 := sz_at (f := (fun (x : List UInt8 × Int × Bool) => (x.1).length)) (l := l) (m := m) (by assumption); (try dsimp only at e1); omega)) (by first | omega | (simp; omega) | (have e1 := sz_at (f := (fun (x : List UInt8 × Int × Bool) => (x.1).length)) (l := l) (m := m) (by assumption); (try dsimp only at e1); omega))
    refine r_op (o_indexo rfl (by kernel_rfl) rfl rfl rfl b7 (at_lt b7 hz6)) ?_
    refine r_op (o_storeo (((z2.1), (z2.2.1), (z2.2.2))) (n := 3) (by kernel_rfl) rfl rfl hz6 rfl rfl rfl rfl (.cons .sc (.cons .sc (.cons .sc .nil))) rfl (fun j h1 h2 => by simp at h1 h2; omega)) ?_
    refine r_end ?_
    refine t_endblock ?_
    refine t_region ?_
    refine r_op (o_move rfl rfl) ?_
    refine r_op (o_bin rfl rfl rfl rfl) ?_
    refine r_op (o_assign rfl rfl) ?_
    refine r_end ?_
    refine t_le ?_ (ih0 (m + 1) (by (try dsimp only); omega) (by (try dsimp only); omega))
    exact ⟨⟨rfl, ⟨rfl, ⟨rfl, ⟨(eqI (wrS (by omega))), trivial⟩⟩⟩⟩, ⟨(eqR (fill_set (by assumption))), trivial⟩, rfl⟩
  ·
    have h1' := h1
    try simp only [decide_eq_true_eq, decide_eq_false_iff_not, Bool.not_eq_true', Bool.not_eq_false', Bool.not_false, Bool.not_true] at h1'
    refine t_exit rfl ?_
    refine t_seq ?_
    refine t_region ?_
    refine r_op (o_move rfl rfl) ?_
    refine r_op (o_assign rfl rfl) ?_
    refine r_end ?_
    refine t_ret Try.func15 (.tmp rfl .nil) rfl fun E S w u hI hd => ?_
    refine post_mk hI hd ?_ ⟨eqR ?_, trivial⟩ rfl rfl rfl <;> clear hI hd <;> (try clear ih0)
    all_goals first | rfl | ((obtain rfl : m = l.length := by omega); simp)
set_option maxHeartbeats 1000000 in
set_option maxRecDepth 10000 in
theorem c_laws_toIntS (l : List Int) (hl : l.length ≤ 1048576) : Pu Try.prog 43 [.c (.t none (.sl 1 encI (l)))] [(0, some (.row none 3 true 1 encI (l)))] 1 (.c (.own 0)) := by
  refine pu_enter Try.func43 rfl (Nat.le_of_ble_eq_true rfl) fun w S => ?_
  refine t_seq ?_
  refine t_region ?_
  refine r_op (o_assign rfl rfl) ?_
  refine r_end ?_
  refine t_seq ?_
  refine t_region ?_
  refine r_op (o_move rfl rfl) ?_
  refine r_op (o_len rfl rfl rfl) ?_
  refine r_op (o_make 0 true (et := 3) (sz := 1) (by' := 8) encI (0) (zs := [.int .i64 (0)]) rfl rfl (by kernel_rfl) (by kernel_rfl) rfl rfl (.cons (.v rfl) .nil) rfl rfl (by first | omega | (simp; omega)) (by first | omega | (simp; omega)) (by first | omega | (simp; omega))) ?_
  refine r_op (o_assign rfl rfl) ?_
  refine r_end ?_
  refine t_seq ?_
  refine t_seq ?_
  refine t_region ?_
  refine r_op (o_assign rfl rfl) ?_
  refine r_end ?_
  refine t_block ?_
  refine t_loopL (fun m => ⟨[(0, some (.c (.t none (.sl 1 encI (l))))), (2, some (.c (.t none (.v (.slice none 0 0))))), (3, some (.c (.own 0))), (4, some (.c (.t none (.v (.int .i64 ((m : Int)))))))], [(0, some (.row none 3 true 1 encI (l.take m ++ List.replicate (l.length - m) 0)))], 1⟩ : Nat → St) (fun m => m ≤ l.length) (fun m => l.length - m) 0 ⟨⟨rfl, ⟨rfl, ⟨rfl, ⟨rfl, trivial⟩⟩⟩⟩, ⟨(eqR (by simp)), trivial⟩, rfl⟩ (by simp) ?_
  rintro m hI ih0
  try dsimp only at hI ih0
  refine t_seq ?_
  refine t_seq ?_
  refine t_region ?_
  refine r_op (o_move rfl rfl) ?_
  refine r_op (o_move rfl rfl) ?_
  refine r_op (o_len rfl rfl rfl) ?_
  refine r_op (o_bin rfl rfl rfl rfl) ?_
  refine r_end ?_
  refine t_cond rfl (fun h1 => ?_) (fun h1 => ?_)
  ·
    have h1' := h1
    try simp only [decide_eq_true_eq, decide_eq_false_iff_not, Bool.not_eq_true', Bool.not_eq_false', Bool.not_false, Bool.not_true] at h1'
    refine t_skip ?_
    refine t_seq ?_
    refine t_block ?_
    refine t_region ?_
    refine r_op (o_move rfl rfl) ?_
    refine r_op (o_move rfl rfl) ?_
    refine r_op (o_move rfl rfl) ?_
    refine r_op (o_move rfl rfl) ?_
    obtain ⟨z2, hz3, b4⟩ := at_get (xs := l) (n := (m : Int)) (by first | omega | (simp; omega)) (by first | omega | (simp; omega))
    refine r_op (o_index rfl (by kernel_rfl) rfl rfl b4 hz3) ?_
    refine r_op (o_load1 rfl (by kernel_rfl) rfl rfl) ?_
    obtain ⟨z5, hz6, b7⟩ := at_get (xs := l.take m ++ List.replicate (l.length - m) 0) (n := (m : Int)) (by first | omega | (simp; omega)) (by first | omega | (simp; omega))
    refine r_op (o_indexo rfl (by kernel_rfl) rfl rfl rfl b7 (at_lt b7 hz6)) ?_
    refine r_op (o_storeo (z2) (n := 1) (by kernel_rfl) rfl rfl hz6 rfl rfl rfl rfl (.cons .sc .nil) rfl (fun j h1 h2 => by simp at h1 h2; omega)) ?_
    refine r_end ?_
    refine t_endblock ?_
    refine t_region ?_
    refine r_op (o_move rfl rfl) ?_
    refine r_op (o_bin rfl rfl rfl rfl) ?_
    refine r_op (o_assign rfl rfl) ?_
    refine r_end ?_
    refine t_le ?_ (ih0 (m + 1) (by (try dsimp only); omega) (by (try dsimp only); omega))
    exact ⟨⟨rfl, ⟨rfl, ⟨rfl, ⟨(eqI (wrS (by omega))), trivial⟩⟩⟩⟩, ⟨(eqR (fill_set (by assumption))), trivial⟩, rfl⟩
  ·
    have h1' := h1
    try simp only [decide_eq_true_eq, decide_eq_false_iff_not, Bool.not_eq_true', Bool.not_eq_false', Bool.not_false, Bool.not_true] at h1'
    refine t_exit rfl ?_
    refine t_seq ?_
    refine t_region ?_
    refine r_op (o_move rfl rfl) ?_
    refine r_op (o_assign rfl rfl) ?_
    refine r_end ?_
    refine t_ret Try.func43 (.tmp rfl .nil) rfl fun E S w u hI hd => ?_
    refine post_mk hI hd ?_ ⟨eqR ?_, trivial⟩ rfl rfl rfl <;> clear hI hd <;> (try clear ih0)
    all_goals first | rfl | ((obtain rfl : m = l.length := by omega); simp)
set_option maxHeartbeats 1000000 in
set_option maxRecDepth 10000 in
theorem c_laws_toFact (r : Int) (l : List Int) (hl : l.length ≤ 1048576) : Pu Try.prog 133 [.agg [.t none (.v (.int .i64 (r))), .t none (.sl 1 encI (l))]] [(3, some (.row none 3 true 1 encI (l)))] 4 (.agg [.t none (.v (.int .i64 (r))), .own 3]) := by
  refine pu_enter Try.func133 rfl (Nat.le_of_ble_eq_true rfl) fun w S => ?_
  refine t_seq ?_
  refine t_region ?_
  refine r_op (o_box 0 rfl rfl rfl rfl) ?_
  refine r_op (o_alloc 1 (zs := [.int .i64 (0), .slice none 0 0]) rfl rfl (by kernel_rfl) rfl) ?_
  refine r_end ?_
  refine t_seq ?_
  refine t_region ?_
  refine r_op (o_alloc 2 (zs := [.int .i64 (0), .slice none 0 0]) rfl rfl (by kernel_rfl) rfl) ?_
  refine r_end ?_
  refine t_seq ?_
  refine t_region ?_
  refine r_op (o_fieldb rfl (off := 0) (by kernel_rfl) rfl) ?_
  refine r_op (o_load1b rfl (by kernel_rfl) rfl rfl rfl) ?_
  refine r_op (o_fieldb rfl (off := 0) (by kernel_rfl) rfl) ?_
  refine r_op (o_storeb (n := 1) (by kernel_rfl) rfl rfl rfl rfl rfl rfl) ?_
  refine r_end ?_
  refine t_seq ?_
  refine t_region ?_
  refine r_op (o_fieldb rfl (off := 1) (by kernel_rfl) rfl) ?_
  refine r_op (o_load1b rfl (by kernel_rfl) rfl rfl rfl) ?_
  refine r_op (o_call 3 4 false (Go.Proofs.enters_of Try.func43 (by kernel_rfl) rfl) (c_laws_toIntS (l) (by first | omega | (simp; omega))) rfl (.cons rfl (.c .t0) .nil) rfl rfl rfl) ?_
  refine r_op (o_fieldb rfl (off := 1) (by kernel_rfl) rfl) ?_
  refine r_op (o_storeb (n := 1) (by kernel_rfl) rfl rfl rfl rfl rfl rfl) ?_
  refine r_end ?_
  refine t_seq ?_
  refine t_region ?_
  refine r_op (o_loadAb rfl (n := 2) (by kernel_rfl) (by kernel_rfl) rfl rfl rfl) ?_
  refine r_op (o_storeb (n := 2) (by kernel_rfl) rfl rfl rfl rfl rfl rfl) ?_
  refine r_end ?_
  refine t_ret Try.func133 (.cells (n := 2) (by kernel_rfl) (by kernel_rfl) rfl rfl rfl .nil) rfl fun E S w u hI hd => ?_
  refine post_mk hI hd ?_ ⟨eqR ?_, trivial⟩ rfl rfl rfl <;> clear hI hd
  all_goals first | rfl | (simp_all <;> omega)
set_option maxHeartbeats 1000000 in
set_option maxRecDepth 10000 in
theorem c_laws_toFactS (l : List (Int × (List (Int)))) (hs : szS (fun (x : Int × (List (Int))) => (x.2).length) l ≤ 1048576) : Pu Try.prog 78 [.c (.t none (.sl 2 (enS2 encI (enSl 1 encI)) (l)))] [(0, some (.row none 111 true 2 (enS2 encI (enSl 1 encI)) (l)))] 1 (.c (.own 0)) := by
  refine pu_enter Try.func78 rfl (Nat.le_of_ble_eq_true rfl) fun w S => ?_
  have gl := sz_len (f := (fun (x : Int × (List (Int))) => (x.2).length)) (l := l)
  refine t_seq ?_
  refine t_region ?_
  refine r_op (o_assign rfl rfl) ?_
  refine r_end ?_
  refine t_seq ?_
  refine t_region ?_
  refine r_op (o_move rfl rfl) ?_
  refine r_op (o_len rfl rfl rfl) ?_
  refine r_op (o_make 0 true (et := 111) (sz := 2) (by' := 32) (enS2 encI (enSl 1 encI)) ((0, [])) (zs := [.int .i64 (0), .slice none 0 0]) rfl rfl (by kernel_rfl) (by kernel_rfl) rfl rfl (.cons (.v rfl) (.cons .sl .nil)) rfl rfl (by first | omega | (simp; omega) | (have e1 := sz_at (f := (fun (x : Int × (List (Int))) => (x.2).length)) (l := l) (m := m) (by assumption); (try dsimp only at e1); omega)) (by first | omega | (simp; omega) | (have e1 := sz_at (f := (fun (x : Int × (List (Int))) => (x.2).length)) (l := l) (m := m) (by assumption); (try dsimp only at e1); omega)) (by first | omega | (simp; omega) | (have e1 := sz_at (f := (fun (x : Int × (List (Int))) => (x.2).length)) (l := l) (m := m) (by assumption); (try dsimp only at e1); omega))) ?_
  refine r_op (o_assign rfl rfl) ?_
  refine r_end ?_
  refine t_seq ?_
  refine t_seq ?_
  refine t_region ?_
  refine r_op (o_assign rfl rfl) ?_
  refine r_end ?_
  refine t_block ?_
  refine t_loopL (fun m => ⟨[(0, some (.c (.t none (.sl 2 (enS2 encI (enSl 1 encI)) (l))))), (2, some (.c (.t none (.v (.slice none 0 0))))), (3, some (.c (.own 0))), (4, some (.c (.t none (.v (.int .i64 ((m : Int)))))))], [(0, some (.row none 111 true 2 (enS2 encI (enSl 1 encI)) (l.take m ++ List.replicate (l.length - m) ((0, [])))))], 1⟩ : Nat → St) (fun m => m ≤ l.length) (fun m => l.length - m) 0 ⟨⟨rfl, ⟨rfl, ⟨rfl, ⟨rfl, trivial⟩⟩⟩⟩, ⟨(eqR (by simp)), trivial⟩, rfl⟩ (by simp) ?_
  rintro m hI ih0
  try dsimp only at hI ih0
  refine t_seq ?_
  refine t_seq ?_
  refine t_region ?_
  refine r_op (o_move rfl rfl) ?_
  refine r_op (o_move rfl rfl) ?_
  refine r_op (o_len rfl rfl rfl) ?_
  refine r_op (o_bin rfl rfl rfl rfl) ?_
  refine r_end ?_
  refine t_cond rfl (fun h1 => ?_) (fun h1 => ?_)
  ·
    have h1' := h1
    try simp only [decide_eq_true_eq, decide_eq_false_iff_not, Bool.not_eq_true', Bool.not_eq_false', Bool.not_false, Bool.not_true] at h1'
    refine t_skip ?_
    refine t_seq ?_
    refine t_block ?_
    refine t_region ?_
    refine r_op (o_move rfl rfl) ?_
    refine r_op (o_move rfl rfl) ?_
    refine r_op (o_move rfl rfl) ?_
    refine r_op (o_move rfl rfl) ?_
    obtain ⟨z2, hz3, b4⟩ := at_get (xs := l) (n := (m : Int)) (by first | omega | (simp; omega) | (have e1 := sz_at (f := (fun (x : Int × (List (Int))) => (x.2).length)) (l := l) (m := m) (by assumption); (try dsimp only at e1); omega)) (by first | omega | (simp; omega) | (have e1 := sz_at (f := (fun (x : Int × (List (Int))) => (x.2).length)) (l := l) (m := m) (by assumption); (try dsimp only at e1); omega))
    refine r_op (o_index rfl (by kernel_rfl) rfl rfl b4 hz3) ?_
    refine r_op (o_loadA rfl (n := 2) (by kernel_rfl) (by kernel_rfl) rfl rfl) ?_
    refine r_op (o_call 1 5 false (Go.Proofs.enters_of Try.func133 (by kernel_rfl) rfl) (c_laws_toFact (z2.1) (z2.2) (by first | omega | (simp; omega) | (have e1 := sz_at (f := (fun (x : Int × (List (Int))) => (x.2).length)) (l := l) (m := m) (by assumption); (try dsimp only at e1); omega))) rfl (.cons rfl (.agg (.cons .t0 (.cons .t0 .nil))) .nil) rfl rfl rfl) ?_
    obtain ⟨z5, hz6, b7⟩ := at_get (xs := l.take m ++ List.replicate (l.length - m) ((0, []))) (n := (m : Int)) (by first | omega | (simp; omega) | (have e1 := sz_at (f := (fun (x : Int × (List (Int))) => (x.2).length)) (l := l) (m := m) (by assumption); (try dsimp only at e1); omega)) (by first | omega | (simp; omega) | (have e1 := sz_at (f := (fun (x : Int × (List (Int))) => (x.2).length)) (l := l) (m := m) (by assumption); (try dsimp only at e1); omega))
    refine r_op (o_indexo rfl (by kernel_rfl) rfl rfl rfl b7 (at_lt b7 hz6)) ?_
    refine r_op (o_storeo (((z2.1), (z2.2))) (n := 2) (by kernel_rfl) rfl rfl hz6 rfl rfl rfl rfl (.cons .sc (.take (.own rfl) rfl .nil)) rfl (fun j h1 h2 => by simp at h1 h2; omega)) ?_
    refine r_end ?_
    refine t_endblock ?_
    refine t_region ?_
    refine r_op (o_move rfl rfl) ?_
    refine r_op (o_bin rfl rfl rfl rfl) ?_
    refine r_op (o_assign rfl rfl) ?_
    refine r_end ?_
    refine t_le ?_ (ih0 (m + 1) (by (try dsimp only); omega) (by (try dsimp only); omega))
    exact ⟨⟨rfl, ⟨rfl, ⟨rfl, ⟨(eqI (wrS (by omega))), trivial⟩⟩⟩⟩, ⟨(eqR (fill_set (by assumption))), trivial⟩, rfl⟩
  ·
    have h1' := h1
    try simp only [decide_eq_true_eq, decide_eq_false_iff_not, Bool.not_eq_true', Bool.not_eq_false', Bool.not_false, Bool.not_true] at h1'
    refine t_exit rfl ?_
    refine t_seq ?_
    refine t_region ?_
    refine r_op (o_move rfl rfl) ?_
    refine r_op (o_assign rfl rfl) ?_
    refine r_end ?_
    refine t_ret Try.func78 (.tmp rfl .nil) rfl fun E S w u hI hd => ?_
    refine post_mk hI hd ?_ ⟨eqR ?_, trivial⟩ rfl rfl rfl <;> clear hI hd <;> (try clear ih0)
    all_goals first | rfl | ((obtain rfl : m = l.length := by omega); simp)
set_option maxHeartbeats 1000000 in
set_option maxRecDepth 10000 in
theorem c_laws_toInstance (a0 : List (List UInt8 × Int × Bool)) (a1 : List (Int × (List (Int)))) (hs : (szS (fun (x : List UInt8 × Int × Bool) => (x.1).length) (a0)) + (szS (fun (x : Int × (List (Int))) => (x.2).length) (a1)) ≤ 1048576) : Pu Try.prog 27 [.agg [.t none (.sl 3 (enS3 encS encI encB) (a0)), .t none (.sl 2 (enS2 encI (enSl 1 encI)) (a1))]] [(3, some (.row none 93 true 3 (enS3 encS encI encB) (a0))), (4, some (.row none 111 true 2 (enS2 encI (enSl 1 encI)) (a1)))] 5 (.agg [.own 3, .own 4]) := by
  refine pu_enter Try.func27 rfl (Nat.le_of_ble_eq_true rfl) fun w S => ?_
  refine t_seq ?_
  refine t_region ?_
  refine r_op (o_box 0 rfl rfl rfl rfl) ?_
  refine r_op (o_alloc 1 (zs := [.slice none 0 0, .slice none 0 0]) rfl rfl (by kernel_rfl) rfl) ?_
  refine r_end ?_
  refine t_seq ?_
  refine t_region ?_
  refine r_op (o_alloc 2 (zs := [.slice none 0 0, .slice none 0 0]) rfl rfl (by kernel_rfl) rfl) ?_
  refine r_end ?_
  refine t_seq ?_
  refine t_region ?_
  refine r_op (o_fieldb rfl (off := 0) (by kernel_rfl) rfl) ?_
  refine r_op (o_load1b rfl (by kernel_rfl) rfl rfl rfl) ?_
  refine r_op (o_call 3 4 false (Go.Proofs.enters_of Try.func15 (by kernel_rfl) rfl) (c_laws_toRelationS (a0) (by first | omega | (simp; omega))) rfl (.cons rfl (.c .t0) .nil) rfl rfl rfl) ?_
  refine r_op (o_fieldb rfl (off := 0) (by kernel_rfl) rfl) ?_
  refine r_op (o_storeb (n := 1) (by kernel_rfl) rfl rfl rfl rfl rfl rfl) ?_
  refine r_end ?_
  refine t_seq ?_
  refine t_region ?_
  refine r_op (o_fieldb rfl (off := 1) (by kernel_rfl) rfl) ?_
  refine r_op (o_load1b rfl (by kernel_rfl) rfl rfl rfl) ?_
  refine r_op (o_call 4 5 false (Go.Proofs.enters_of Try.func78 (by kernel_rfl) rfl) (c_laws_toFactS (a1) (by first | omega | (simp; omega))) rfl (.cons rfl (.c .t0) .nil) rfl rfl rfl) ?_
  refine r_op (o_fieldb rfl (off := 1) (by kernel_rfl) rfl) ?_
  refine r_op (o_storeb (n := 1) (by kernel_rfl) rfl rfl rfl rfl rfl rfl) ?_
  refine r_end ?_
  refine t_seq ?_
  refine t_region ?_
  refine r_op (o_loadAb rfl (n := 2) (by kernel_rfl) (by kernel_rfl) rfl rfl rfl) ?_
  refine r_op (o_storeb (n := 2) (by kernel_rfl) rfl rfl rfl rfl rfl rfl) ?_
  refine r_end ?_
  refine t_ret Try.func27 (.cells (n := 2) (by kernel_rfl) (by kernel_rfl) rfl rfl rfl .nil) rfl fun E S w u hI hd => ?_
  refine post_mk hI hd ?_ ⟨eqR ?_, ⟨eqR ?_, trivial⟩⟩ rfl rfl rfl <;> clear hI hd
  all_goals first | rfl | (simp_all <;> omega)
set_option maxHeartbeats 1000000 in
set_option maxRecDepth 10000 in
theorem c_laws_toAtom (a0 : Int) (a1 : List (Int)) (hs : (a1).length ≤ 1048576) : Pu Try.prog 100 [.agg [.t none (.v (.int .i64 (a0))), .t none (.sl 1 encI (a1))]] [(3, some (.row none 3 true 1 encI (a1)))] 4 (.agg [.t none (.v (.int .i64 (a0))), .own 3]) := by
  refine pu_enter Try.func100 rfl (Nat.le_of_ble_eq_true rfl) fun w S => ?_
  refine t_seq ?_
  refine t_region ?_
  refine r_op (o_box 0 rfl rfl rfl rfl) ?_
  refine r_op (o_alloc 1 (zs := [.int .i64 (0), .slice none 0 0]) rfl rfl (by kernel_rfl) rfl) ?_
  refine r_end ?_
  refine t_seq ?_
  refine t_region ?_
  refine r_op (o_alloc 2 (zs := [.int .i64 (0), .slice none 0 0]) rfl rfl (by kernel_rfl) rfl) ?_
  refine r_end ?_
  refine t_seq ?_
  refine t_region ?_
  refine r_op (o_fieldb rfl (off := 0) (by kernel_rfl) rfl) ?_
  refine r_op (o_load1b rfl (by kernel_rfl) rfl rfl rfl) ?_
  refine r_op (o_fieldb rfl (off := 0) (by kernel_rfl) rfl) ?_
  refine r_op (o_storeb (n := 1) (by kernel_rfl) rfl rfl rfl rfl rfl rfl) ?_
  refine r_end ?_
  refine t_seq ?_
  refine t_region ?_
  refine r_op (o_fieldb rfl (off := 1) (by kernel_rfl) rfl) ?_
  refine r_op (o_load1b rfl (by kernel_rfl) rfl rfl rfl) ?_
  refine r_op (o_call 3 4 false (Go.Proofs.enters_of Try.func43 (by kernel_rfl) rfl) (c_laws_toIntS (a1) (by first | omega | (simp; omega))) rfl (.cons rfl (.c .t0) .nil) rfl rfl rfl) ?_
  refine r_op (o_fieldb rfl (off := 1) (by kernel_rfl) rfl) ?_
  refine r_op (o_storeb (n := 1) (by kernel_rfl) rfl rfl rfl rfl rfl rfl) ?_
  refine r_end ?_
  refine t_seq ?_
  refine t_region ?_
  refine r_op (o_loadAb rfl (n := 2) (by kernel_rfl) (by kernel_rfl) rfl rfl rfl) ?_
  refine r_op (o_storeb (n := 2) (by kernel_rfl) rfl rfl rfl rfl rfl rfl) ?_
  refine r_end ?_
  refine t_ret Try.func100 (.cells (n := 2) (by kernel_rfl) (by kernel_rfl) rfl rfl rfl .nil) rfl fun E S w u hI hd => ?_
  refine post_mk hI hd ?_ ⟨eqR ?_, trivial⟩ rfl rfl rfl <;> clear hI hd
  all_goals first | rfl | (simp_all <;> omega)
set_option maxHeartbeats 1000000 in
set_option maxRecDepth 10000 in
theorem c_laws_toAtomS (l : List (Int × (List (Int)))) (hs : szS (fun (x : Int × (List (Int))) => (x.2).length) l ≤ 1048576) : Pu Try.prog 42 [.c (.t none (.sl 2 (enS2 encI (enSl 1 encI)) (l)))] [(0, some (.row none 90 true 2 (enS2 encI (enSl 1 encI)) (l)))] 1 (.c (.own 0)) := by
  refine pu_enter Try.func42 rfl (Nat.le_of_ble_eq_true rfl) fun w S => ?_
  have gl := sz_len (f := (fun (x : Int × (List (Int))) => (x.2).length)) (l := l)
  refine t_seq ?_
  refine t_region ?_
  refine r_op (o_assign rfl rfl) ?_
  refine r_end ?_
  refine t_seq ?_
  refine t_region ?_
  refine r_op (o_move rfl rfl) ?_
  refine r_op (o_len rfl rfl rfl) ?_
  refine r_op (o_make 0 true (et := 90) (sz := 2) (by' := 32) (enS2 encI (enSl 1 encI)) ((0, [])) (zs := [.int .i64 (0), .slice none 0 0]) rfl rfl (by kernel_rfl) (by kernel_rfl) rfl rfl (.cons (.v rfl) (.cons .sl .nil)) rfl rfl (by first | omega | (simp; omega) | (have e1 := sz_at (f := (fun (x : Int × (List (Int))) => (x.2).length)) (l := l) (m := m) (by assumption); (try dsimp only at e1); omega)) (by first | omega | (simp; omega) | (have e1 := sz_at (f := (fun (x : Int × (List (Int))) => (x.2).length)) (l := l) (m := m) (by assumption); (try dsimp only at e1); omega)) (by first | omega | (simp; omega) | (have e1 := sz_at (f := (fun (x : Int × (List (Int))) => (x.2).length)) (l := l) (m := m) (by assumption); (try dsimp only at e1); omega))) ?_
  refine r_op (o_assign rfl rfl) ?_
  refine r_end ?_
  refine t_seq ?_
  refine t_seq ?_
  refine t_region ?_
  refine r_op (o_assign rfl rfl) ?_
  refine r_end ?_
  refine t_block ?_
  refine t_loopL (fun m => ⟨[(0, some (.c (.t none (.sl 2 (enS2 encI (enSl 1 encI)) (l))))), (2, some (.c (.t none (.v (.slice none 0 0))))), (3, some (.c (.own 0))), (4, some (.c (.t none (.v (.int .i64 ((m : Int)))))))], [(0, some (.row none 90 true 2 (enS2 encI (enSl 1 encI)) (l.take m ++ List.replicate (l.length - m) ((0, [])))))], 1⟩ : Nat → St) (fun m => m ≤ l.length) (fun m => l.length - m) 0 ⟨⟨rfl, ⟨rfl, ⟨rfl, ⟨rfl, trivial⟩⟩⟩⟩, ⟨(eqR (by simp)), trivial⟩, rfl⟩ (by simp) ?_
  rintro m hI ih0
  try dsimp only at hI ih0
  refine t_seq ?_
  refine t_seq ?_
  refine t_region ?_
  refine r_op (o_move rfl rfl) ?_
  refine r_op (o_move rfl rfl) ?_
  refine r_op (o_len rfl rfl rfl) ?_
  refine r_op (o_bin rfl rfl rfl rfl) ?_
  refine r_end ?_
  refine t_cond rfl (fun h1 => ?_) (fun h1 => ?_)
  ·
    have h1' := h1
    try simp only [decide_eq_true_eq, decide_eq_false_iff_not, Bool.not_eq_true', Bool.not_eq_false', Bool.not_false, Bool.not_true] at h1'
    refine t_skip ?_
    refine t_seq ?_
    refine t_block ?_
    refine t_region ?_
    refine r_op (o_move rfl rfl) ?_
    refine r_op (o_move rfl rfl) ?_
    refine r_op (o_move rfl rfl) ?_
    refine r_op (o_move rfl rfl) ?_
    obtain ⟨z2, hz3, b4⟩ := at_get (xs := l) (n := (m : Int)) (by first | omega | (simp; omega) | (have e1 := sz_at (f := (fun (x : Int × (List (Int))) => (x.2).length)) (l := l) (m := m) (by assumption); (try dsimp only at e1); omega)) (by first | omega | (simp; omega) | (have e1 := sz_at (f := (fun (x : Int × (List (Int))) => (x.2).length)) (l := l) (m := m) (by assumption); (try dsimp only at e1); omega))
    refine r_op (o_index rfl (by kernel_rfl) rfl rfl b4 hz3) ?_
    refine r_op (o_loadA rfl (n := 2) (by kernel_rfl) (by kernel_rfl) rfl rfl) ?_
    refine r_op (o_call 1 5 false (Go.Proofs.enters_of Try.func100 (by kernel_rfl) rfl) (c_laws_toAtom (z2.1) (z2.2) (by first | omega | (simp; omega) | (have e1 := sz_at (f := (fun (x : Int × (List (Int))) => (x.2).length)) (l := l) (m := m) (by assumption); (try dsimp only at e1); omega))) rfl (.cons rfl (.agg (.cons .t0 (.cons .t0 .nil))) .nil) rfl rfl rfl) ?_
    obtain ⟨z5, hz6, b7⟩ := at_get (xs := l.take m ++ List.replicate (l.length - m) ((0, []))) (n := (m : Int)) (by first | omega | (simp; omega) | (have e1 := sz_at (f := (fun (x : Int × (List (Int))) => (x.2).length)) (l := l) (m := m) (by assumption); (try dsimp only at e1); omega)) (by first | omega | (simp; omega) | (have e1 := sz_at (f := (fun (x : Int × (List (Int))) => (x.2).length)) (l := l) (m := m) (by assumption); (try dsimp only at e1); omega))
    refine r_op (o_indexo rfl (by kernel_rfl) rfl rfl rfl b7 (at_lt b7 hz6)) ?_
    refine r_op (o_storeo (((z2.1), (z2.2))) (n := 2) (by kernel_rfl) rfl rfl hz6 rfl rfl rfl rfl (.cons .sc (.take (.own rfl) rfl .nil)) rfl (fun j h1 h2 => by simp at h1 h2; omega)) ?_
    refine r_end ?_
    refine t_endblock ?_
    refine t_region ?_
    refine r_op (o_move rfl rfl) ?_
    refine r_op (o_bin rfl rfl rfl rfl) ?_
    refine r_op (o_assign rfl rfl) ?_
    refine r_end ?_
    refine t_le ?_ (ih0 (m + 1) (by (try dsimp only); omega) (by (try dsimp only); omega))
    exact ⟨⟨rfl, ⟨rfl, ⟨rfl, ⟨(eqI (wrS (by omega))), trivial⟩⟩⟩⟩, ⟨(eqR (fill_set (by assumption))), trivial⟩, rfl⟩
  ·
    have h1' := h1
    try simp only [decide_eq_true_eq, decide_eq_false_iff_not, Bool.not_eq_true', Bool.not_eq_false', Bool.not_false, Bool.not_true] at h1'
    refine t_exit rfl ?_
    refine t_seq ?_
    refine t_region ?_
    refine r_op (o_move rfl rfl) ?_
    refine r_op (o_assign rfl rfl) ?_
    refine r_end ?_
    refine t_ret Try.func42 (.tmp rfl .nil) rfl fun E S w u hI hd => ?_
    refine post_mk hI hd ?_ ⟨eqR ?_, trivial⟩ rfl rfl rfl <;> clear hI hd <;> (try clear ih0)
    all_goals first | rfl | ((obtain rfl : m = l.length := by omega); simp)
set_option maxHeartbeats 1000000 in
set_option maxRecDepth 10000 in
theorem c_spec_l11Ok (rs : Rels) (fs l : Atoms) (hrs : rs.length ≤ 4611686018427387904) (hfs : szS (fun (x : Int × (List (Int))) => (x.2).length) fs ≤ 1048576) (hll : szS (fun (x : Int × (List (Int))) => (x.2).length) l ≤ 1048576) (ho : ∀ z ∈ fs, ∀ x ∈ z.2, okI x) : Pu Try.prog 98 [.agg [.t none (.sl 3 (enS3 encS encI encB) (rs)), .t none (.sl 2 (enS2 encI (enSl 1 encI)) (fs))], .c (.t none (.sl 2 (enS2 encI (enSl 1 encI)) (l)))] [] 0 (.c (.t none (.v (.bool (mtOk rs fs l))))) := by
  refine pu_enter Try.func98 rfl (Nat.le_of_ble_eq_true rfl) fun w S => ?_
  have gl := sz_len (f := (fun (x : Int × (List (Int))) => (x.2).length)) (l := l)
  refine t_seq ?_
  refine t_region ?_
  refine r_op (o_box 0 rfl rfl rfl rfl) ?_
  refine r_op (o_assign rfl rfl) ?_
  refine r_end ?_
  refine t_seq ?_
  refine t_seq ?_
  refine t_region ?_
  refine r_op (o_assign rfl rfl) ?_
  refine r_end ?_
  refine t_block ?_
  refine t_loopL (fun m => ⟨[(1, some (.c (.t none (.sl 2 (enS2 encI (enSl 1 encI)) (l))))), (2, some (.c (.ptr 0 0))), (5, some (.c (.t none (.v (.int .i64 ((m : Int)))))))], [(0, some (.box [.t none (.sl 3 (enS3 encS encI encB) (rs)), .t none (.sl 2 (enS2 encI (enSl 1 encI)) (fs))]))], 1⟩ : Nat → St) (fun m => m ≤ l.length ∧ ∀ j z, j < m → l[j]? = some z → badA rs z = false) (fun m => l.length - m) 0 ⟨⟨rfl, ⟨rfl, ⟨rfl, trivial⟩⟩⟩, ⟨rfl, trivial⟩, rfl⟩ (by exact ⟨Nat.zero_le _, fun j z h => by omega⟩) ?_
  rintro m hI ih0
  try dsimp only at hI ih0
  obtain ⟨i1, i2⟩ := hI; have iA : l.length ≤ m → l.any (badA rs) = false := fun e => any_false i2 e
  refine t_seq ?_
  refine t_seq ?_
  refine t_region ?_
  refine r_op (o_move rfl rfl) ?_
  refine r_op (o_move rfl rfl) ?_
  refine r_op (o_len rfl rfl rfl) ?_
  refine r_op (o_bin rfl rfl rfl rfl) ?_
  refine r_end ?_
  refine t_cond rfl (fun h1 => ?_) (fun h1 => ?_)
  ·
    have h1' := h1
    try simp only [decide_eq_true_eq, decide_eq_false_iff_not, Bool.not_eq_true', Bool.not_eq_false', Bool.not_false, Bool.not_true] at h1'
    refine t_skip ?_
    refine t_seq ?_
    refine t_block ?_
    refine t_seq ?_
    refine t_draw (fun _ => true) (by kernel_rfl) ?_
    refine d_take 0 rfl rfl (by kernel_rfl) (by kernel_rfl) (by kernel_rfl) (p_fieldb (off := 0) (by kernel_rfl) rfl) ?_
    refine d_take 1 rfl rfl (by kernel_rfl) (by kernel_rfl) (by kernel_rfl) (p_load1b (by kernel_rfl) rfl rfl rfl) ?_
    refine d_take 2 rfl rfl (by kernel_rfl) (by kernel_rfl) (by kernel_rfl) (p_move rfl) ?_
    refine d_take 3 rfl rfl (by kernel_rfl) (by kernel_rfl) (by kernel_rfl) (p_move rfl) ?_
    obtain ⟨z2, hz3, b4⟩ := at_get (xs := l) (n := (m : Int)) (by first | omega | assumption | (have e1 := sz_at (f := (fun (x : Int × (List (Int))) => (x.2).length)) (l := l) (m := m) (by assumption); (try dsimp only at e1); omega)) (by first | omega | assumption | (have e1 := sz_at (f := (fun (x : Int × (List (Int))) => (x.2).length)) (l := l) (m := m) (by assumption); (try dsimp only at e1); omega))
    refine d_take 4 rfl rfl (by kernel_rfl) (by kernel_rfl) (by kernel_rfl) (p_index (by kernel_rfl) rfl rfl b4 hz3) ?_
    refine d_take 5 rfl rfl (by kernel_rfl) (by kernel_rfl) (by kernel_rfl) (p_loadA (n := 2) (by kernel_rfl) (by kernel_rfl) rfl rfl) ?_
    refine d_only 6 rfl (by kernel_rfl) rfl (o_call 1 1 false (Go.Proofs.enters_of Try.func63 (by kernel_rfl) rfl) (c_spec_IsValidAtom (rs) (z2.1) (z2.2) (by first | omega | assumption | (have e1 := sz_at (f := (fun (x : Int × (List (Int))) => (x.2).length)) (l := l) (m := m) (by assumption); (try dsimp only at e1); omega)) (by first | omega | assumption | (have e1 := sz_at (f := (fun (x : Int × (List (Int))) => (x.2).length)) (l := l) (m := m) (by assumption); (try dsimp only at e1); omega))) rfl (.cons rfl (.c .t0) (.cons rfl (.agg (.cons .t0 (.cons .t0 .nil))) .nil)) rfl rfl rfl) ?_
    refine d_take 7 rfl rfl (by kernel_rfl) (by kernel_rfl) (by kernel_rfl) (p_not rfl) ?_
    refine d_end (by kernel_rfl) ?_
    refine t_cond rfl (fun h5 => ?_) (fun h5 => ?_)
    ·
      have h5' := h5
      try simp only [decide_eq_true_eq, decide_eq_false_iff_not, Bool.not_eq_true', Bool.not_eq_false', Bool.not_false, Bool.not_true] at h5'
      refine t_seq ?_
      refine t_region ?_
      refine r_op (o_assign rfl rfl) ?_
      refine r_end ?_
      refine t_ret Try.func98 (.tmp rfl .nil) rfl fun E S w u hI hd => ?_
      refine post_mk hI hd ?_ trivial rfl rfl rfl <;> clear hI hd <;> (try clear ih0)
      all_goals first | rfl | (refine scB ?_; (try (have qA := iA (by omega))); (try (have qB := any_true (p := badA rs) (l := l) (m := m) hz3 (by unfold badA; grind))); clear hrs hfs hll ho gl; unfold mtOk; grind)
    ·
      have h5' := h5
      try simp only [decide_eq_true_eq, decide_eq_false_iff_not, Bool.not_eq_true', Bool.not_eq_false', Bool.not_false, Bool.not_true] at h5'
      refine t_skip ?_
      refine t_endblock ?_
      refine t_region ?_
      refine r_op (o_move rfl rfl) ?_
      refine r_op (o_bin rfl rfl rfl rfl) ?_
      refine r_op (o_assign rfl rfl) ?_
      refine r_end ?_
      refine t_le ?_ (ih0 (m + 1) (by (try dsimp only); omega) (by (try dsimp only); exact ⟨by omega, no_step i2 (by assumption) rfl (by unfold badA; grind)⟩))
      exact ⟨⟨rfl, ⟨rfl, ⟨(eqI (wr64 (by omega) (by omega))), trivial⟩⟩⟩, ⟨rfl, trivial⟩, rfl⟩
  ·
    have h1' := h1
    try simp only [decide_eq_true_eq, decide_eq_false_iff_not, Bool.not_eq_true', Bool.not_eq_false', Bool.not_false, Bool.not_true] at h1'
    refine t_exit rfl ?_
    refine t_seq ?_
    refine t_region ?_
    refine r_op (o_loadAb rfl (n := 2) (by kernel_rfl) (by kernel_rfl) rfl rfl rfl) ?_
    refine r_op (o_call 1 1 false (Go.Proofs.enters_of Try.func36 (by kernel_rfl) rfl) (c_spec_IsValidInstance (rs) (fs) (by first | omega | assumption | (have e1 := sz_at (f := (fun (x : Int × (List (Int))) => (x.2).length)) (l := l) (m := m) (by assumption); (try dsimp only at e1); omega)) (by first | omega | assumption | (have e1 := sz_at (f := (fun (x : Int × (List (Int))) => (x.2).length)) (l := l) (m := m) (by assumption); (try dsimp only at e1); omega)) (by first | omega | assumption | (have e1 := sz_at (f := (fun (x : Int × (List (Int))) => (x.2).length)) (l := l) (m := m) (by assumption); (try dsimp only at e1); omega))) rfl (.cons rfl (.agg (.cons .t0 (.cons .t0 .nil))) .nil) rfl rfl rfl) ?_
    refine r_op (o_move rfl rfl) ?_
    refine r_guard rfl rfl rfl (fun g6 => ?_) (fun g6 => ?_)
    ·
      have g6' := g6
      skip
      refine r_op (o_move rfl rfl) ?_
      refine r_guard rfl rfl rfl (fun _ => ?_) (fun h' => (Bool.noConfusion (g6.symm.trans h')))
      refine r_op (o_len rfl rfl rfl) ?_
      refine r_guard rfl rfl rfl (fun _ => ?_) (fun h' => (Bool.noConfusion (g6.symm.trans h')))
      refine r_op (o_bin rfl rfl rfl rfl) ?_
      refine r_op (o_pickT rfl rfl g6 rfl) ?_
      refine r_op (o_assign rfl rfl) ?_
      refine r_end ?_
      refine t_ret Try.func98 (.tmp rfl .nil) rfl fun E S w u hI hd => ?_
      refine post_mk hI hd ?_ trivial rfl rfl rfl <;> clear hI hd <;> (try clear ih0)
      all_goals first | rfl | (refine scB ?_; (try (have qA := iA (by omega))); (try (have qB := any_true (p := badA rs) (l := l) (m := m) (by assumption) (by unfold badA; grind))); clear hrs hfs hll ho gl; unfold mtOk; grind)
    ·
      have g6' := g6
      skip
      refine r_guard rfl rfl rfl (fun h' => (Bool.noConfusion (g6.symm.trans h'))) (fun _ => ?_)
      refine r_guard rfl rfl rfl (fun h' => (Bool.noConfusion (g6.symm.trans h'))) (fun _ => ?_)
      refine r_op (o_pickF rfl rfl g6 rfl) ?_
      refine r_op (o_assign rfl rfl) ?_
      refine r_end ?_
      refine t_ret Try.func98 (.tmp rfl .nil) rfl fun E S w u hI hd => ?_
      refine post_mk hI hd ?_ trivial rfl rfl rfl <;> clear hI hd <;> (try clear ih0)
      all_goals first | rfl | (refine scB ?_; (try (have qA := iA (by omega))); (try (have qB := any_true (p := badA rs) (l := l) (m := m) (by assumption) (by unfold badA; grind))); clear hrs hfs hll ho gl; unfold mtOk; grind)
set_option maxHeartbeats 1000000 in
set_option maxRecDepth 10000 in
theorem c_spec_l11None  : Pu Try.prog 177 [] [] 0 (.c (.t none (.v (.int .i64 (10))))) := by
  refine pu_enter Try.func177 rfl (Nat.le_of_ble_eq_true rfl) fun w S => ?_
  refine t_seq ?_
  refine t_region ?_
  refine r_op (o_assign rfl rfl) ?_
  refine r_end ?_
  refine t_seq ?_
  refine t_region ?_
  refine r_op (o_assign rfl rfl) ?_
  refine r_end ?_
  refine t_ret Try.func177 (.tmp rfl .nil) rfl fun E S w u hI hd => ?_
  refine post_mk hI hd ?_ trivial rfl rfl rfl <;> clear hI hd
  all_goals first | rfl | (rfl)
set_option maxHeartbeats 1000000 in
set_option maxRecDepth 10000 in
theorem c_spec_l11Fit (b : List Int) (r : Int) (ts : List Int) (r2 : Int) (vs : List Int) (hb : b.length = 5) (ha : ts.length ≤ 4611686018427387904) (ht : ∀ t ∈ ts, -10 ≤ t ∧ t ≤ 4) (hv : r = r2 → ts.length = vs.length) : Pu Try.prog 155 [.agg [.t none (.v (.int .i64 (r))), .t none (.sl 1 encI (ts))], .agg [.t none (.v (.int .i64 (r2))), .t none (.sl 1 encI (vs))], .c (.t none (.sl 1 encI (b)))] [(0, some (.row none 3 true 1 encI ((fitF (r, ts) (r2, vs) b).1)))] 1 (.tup [(false, [.own 0]), (false, [.t none (.v (.bool ((fitF (r, ts) (r2, vs) b).2)))])]) := by
  refine pu_enter Try.func155 rfl (Nat.le_of_ble_eq_true rfl) fun w S => ?_
  refine t_seq ?_
  refine t_region ?_
  refine r_op (o_box 0 rfl rfl rfl rfl) ?_
  refine r_op (o_box 1 rfl rfl rfl rfl) ?_
  refine r_op (o_assign rfl rfl) ?_
  refine r_op (o_assign rfl rfl) ?_
  refine r_end ?_
  refine t_seq ?_
  refine t_region ?_
  refine r_op (o_lit0 2 (e := 3) (sz := 1) (zs := [.int .i64 (0)]) encI rfl rfl (by kernel_rfl) rfl) ?_
  refine r_op (o_move rfl rfl) ?_
  refine r_op (o_appendS 2 (e := 3) (sz := 1) (by' := 8) rfl (by kernel_rfl) rfl rfl rfl rfl (fun _ _ => ⟨_, rfl⟩) (by first | omega | (have o1 := ht _ (List.mem_of_getElem? (by assumption)); omega) | (have e9 := hv (by omega); omega) | (simp; omega)) (by first | omega | (have o1 := ht _ (List.mem_of_getElem? (by assumption)); omega) | (have e9 := hv (by omega); omega) | (simp; omega))) ?_
  refine r_op (o_assign rfl rfl) ?_
  refine r_end ?_
  refine t_seq ?_
  refine t_seq ?_
  refine t_region ?_
  refine r_op (o_fieldb rfl (off := 0) (by kernel_rfl) rfl) ?_
  refine r_op (o_load1b rfl (by kernel_rfl) rfl rfl rfl) ?_
  refine r_op (o_fieldb rfl (off := 0) (by kernel_rfl) rfl) ?_
  refine r_op (o_load1b rfl (by kernel_rfl) rfl rfl rfl) ?_
  refine r_op (o_bin rfl rfl rfl rfl) ?_
  refine r_op (o_move rfl rfl) ?_
  refine r_guard rfl rfl rfl (fun g1 => ?_) (fun g1 => ?_)
  ·
    have g1' := g1
    try simp only [decide_eq_true_eq, decide_eq_false_iff_not, Bool.not_eq_true', Bool.not_eq_false', Bool.not_false, Bool.not_true] at g1'
    refine r_op (o_fieldb rfl (off := 1) (by kernel_rfl) rfl) ?_
    refine r_guard rfl rfl rfl (fun _ => ?_) (fun h' => (Bool.noConfusion (g1.symm.trans h')))
    refine r_op (o_load1b rfl (by kernel_rfl) rfl rfl rfl) ?_
    refine r_guard rfl rfl rfl (fun _ => ?_) (fun h' => (Bool.noConfusion (g1.symm.trans h')))
    refine r_op (o_len rfl rfl rfl) ?_
    refine r_guard rfl rfl rfl (fun _ => ?_) (fun h' => (Bool.noConfusion (g1.symm.trans h')))
    refine r_op (o_fieldb rfl (off := 1) (by kernel_rfl) rfl) ?_
    refine r_guard rfl rfl rfl (fun _ => ?_) (fun h' => (Bool.noConfusion (g1.symm.trans h')))
    refine r_op (o_load1b rfl (by kernel_rfl) rfl rfl rfl) ?_
    refine r_guard rfl rfl rfl (fun _ => ?_) (fun h' => (Bool.noConfusion (g1.symm.trans h')))
    refine r_op (o_len rfl rfl rfl) ?_
    refine r_guard rfl rfl rfl (fun _ => ?_) (fun h' => (Bool.noConfusion (g1.symm.trans h')))
    refine r_op (o_bin rfl rfl rfl rfl) ?_
    refine r_op (o_pickF rfl rfl g1 rfl) ?_
    refine r_end ?_
    refine t_cond rfl (fun h2 => ?_) (fun h2 => ?_)
    ·
      have h2' := h2
      try simp only [decide_eq_true_eq, decide_eq_false_iff_not, Bool.not_eq_true', Bool.not_eq_false', Bool.not_false, Bool.not_true] at h2'
      refine t_seq ?_
      refine t_region ?_
      refine r_op (o_move rfl rfl) ?_
      refine r_op (o_assign rfl rfl) ?_
      refine r_op (o_assign rfl rfl) ?_
      refine r_end ?_
      refine gt_as0b 6 2 7 rfl rfl rfl rfl ?_
      refine t_ret Try.func155 (.tmp rfl (.tmp rfl .nil)) rfl fun E S w u hI hd => ?_
      refine post_mk hI hd ?_ ⟨eqR ?_, trivial⟩ rfl rfl rfl <;> clear hI hd <;> (try clear ih0)
      all_goals first | rfl | (first | (exfalso; have e9 := hv (by omega); omega) | (have e : fitF (r, ts) (r2, vs) b = _ := (by first | exact fitF_no (by omega) | exact fitF_yes (by omega) (fit_end i3 (by omega)) | exact fitF_yes (by omega) (fit_bad i3 (zip_at (by assumption) (by assumption) rfl rfl) (fs_neg_bad (by omega) (by (have o1 := ht _ (List.mem_of_getElem? (by assumption)); have o2 : IntKind.i64.wrap (-1 - (by assumption)) = -1 - (by assumption) := wr64 (by omega) (by omega); omega)))) | exact fitF_yes (by omega) (fit_bad i3 (zip_at (by assumption) (by assumption) rfl rfl) (fs_bad (by omega) (by assumption) (by omega) (by omega))) | exact fitF_yes (by omega) (fit_bad i3 (zip_at (by assumption) (by assumption) rfl rfl) (fs_neg_bad (by omega) (by (have o1 := ht _ (List.mem_of_getElem? (by assumption)); have o2 : IntKind.i64.wrap (-1 - (by assumption)) = -1 - (by assumption) := wr64 (by omega) (by omega); omega)))) | exact fitF_yes (by omega) (fit_bad i3 (zip_at (by assumption) (by assumption) rfl rfl) (fs_bad (by omega) (by assumption) (by omega) (by omega))) | exact fitF_yes (by omega) (fit_bad i3 (zip_at (by assumption) (by assumption) rfl rfl) (fs_neg_bad (by omega) (by (have o1 := ht _ (List.mem_of_getElem? (by assumption)); have o2 : IntKind.i64.wrap (-1 - (by assumption)) = -1 - (by assumption) := wr64 (by omega) (by omega); omega)))) | exact fitF_yes (by omega) (fit_bad i3 (zip_at (by assumption) (by assumption) rfl rfl) (fs_bad (by omega) (by assumption) (by omega) (by omega))))); first | (rw [e]; done) | (rw [e]; rfl) | (simp [e]; done))
    ·
      have h2' := h2
      try simp only [decide_eq_true_eq, decide_eq_false_iff_not, Bool.not_eq_true', Bool.not_eq_false', Bool.not_false, Bool.not_true] at h2'
      refine t_skip ?_
      refine t_seq ?_
      refine t_seq ?_
      refine t_region ?_
      refine r_op (o_assign rfl rfl) ?_
      refine r_end ?_
      refine t_block ?_
      refine t_loopL (fun (m, q) => ⟨[(3, some (.c (.ptr 0 0))), (4, some (.c (.ptr 1 0))), (8, some (.c (.own 2))), (9, some (.c (.t none (.v (.int .i64 ((m : Int)))))))], [(0, some (.box [.t none (.v (.int .i64 (r))), .t none (.sl 1 encI (ts))])), (1, some (.box [.t none (.v (.int .i64 (r2))), .t none (.sl 1 encI (vs))])), (2, some (.row none 3 true 1 encI (q)))], 3⟩ : Nat × List Int → St) (fun (m, q) => m ≤ ts.length ∧ q.length = 5 ∧ fitP b ((ts.zip vs).take m) = (q, true)) (fun (m, q) => ts.length - m) (0, b) ⟨⟨rfl, ⟨rfl, ⟨rfl, ⟨rfl, trivial⟩⟩⟩⟩, ⟨rfl, ⟨rfl, ⟨(eqR rfl), trivial⟩⟩⟩, rfl⟩ (by exact ⟨Nat.zero_le _, hb, rfl⟩) ?_
      rintro ⟨m, q⟩ hI ih0
      try dsimp only at hI ih0
      obtain ⟨i1, i2, i3⟩ := hI
      refine t_seq ?_
      refine t_seq ?_
      refine t_region ?_
      refine r_op (o_move rfl rfl) ?_
      refine r_op (o_fieldb rfl (off := 1) (by kernel_rfl) rfl) ?_
      refine r_op (o_load1b rfl (by kernel_rfl) rfl rfl rfl) ?_
      refine r_op (o_len rfl rfl rfl) ?_
      refine r_op (o_bin rfl rfl rfl rfl) ?_
      refine r_end ?_
      refine t_cond rfl (fun h3 => ?_) (fun h3 => ?_)
      ·
        have h3' := h3
        try simp only [decide_eq_true_eq, decide_eq_false_iff_not, Bool.not_eq_true', Bool.not_eq_false', Bool.not_false, Bool.not_true] at h3'
        refine t_skip ?_
        refine t_seq ?_
        refine t_block ?_
        refine t_seq ?_
        refine t_region ?_
        refine r_op (o_fieldb rfl (off := 1) (by kernel_rfl) rfl) ?_
        refine r_op (o_load1b rfl (by kernel_rfl) rfl rfl rfl) ?_
        refine r_op (o_move rfl rfl) ?_
        obtain ⟨z4, hz5, b6⟩ := at_get (xs := ts) (n := (m : Int)) (by first | omega | (have o1 := ht _ (List.mem_of_getElem? (by assumption)); omega) | (have e9 := hv (by omega); omega) | (simp; omega)) (by first | omega | (have o1 := ht _ (List.mem_of_getElem? (by assumption)); omega) | (have e9 := hv (by omega); omega) | (simp; omega))
        refine r_op (o_index rfl (by kernel_rfl) rfl rfl b6 hz5) ?_
        refine r_op (o_load1 rfl (by kernel_rfl) rfl rfl) ?_
        refine r_op (o_assign rfl rfl) ?_
        refine r_end ?_
        refine t_seq ?_
        refine t_seq ?_
        refine t_region ?_
        refine r_op (o_move rfl rfl) ?_
        refine r_op (o_bin rfl rfl rfl rfl) ?_
        refine r_end ?_
        refine t_cond rfl (fun h7 => ?_) (fun h7 => ?_)
        ·
          have h7' := h7
          try simp only [decide_eq_true_eq, decide_eq_false_iff_not, Bool.not_eq_true', Bool.not_eq_false', Bool.not_false, Bool.not_true] at h7'
          refine t_seq ?_
          refine t_seq ?_
          refine t_region ?_
          refine r_op (o_move rfl rfl) ?_
          refine r_op (o_bin rfl rfl rfl rfl) ?_
          refine r_op (o_fieldb rfl (off := 1) (by kernel_rfl) rfl) ?_
          refine r_op (o_load1b rfl (by kernel_rfl) rfl rfl rfl) ?_
          refine r_op (o_move rfl rfl) ?_
          obtain ⟨z8, hz9, b10⟩ := at_get (xs := vs) (n := (m : Int)) (by first | omega | (have o1 := ht _ (List.mem_of_getElem? (by assumption)); omega) | (have e9 := hv (by omega); omega) | (simp; omega)) (by first | omega | (have o1 := ht _ (List.mem_of_getElem? (by assumption)); omega) | (have e9 := hv (by omega); omega) | (simp; omega))
          refine r_op (o_index rfl (by kernel_rfl) rfl rfl b10 hz9) ?_
          refine r_op (o_load1 rfl (by kernel_rfl) rfl rfl) ?_
          refine r_op (o_bin rfl rfl rfl rfl) ?_
          refine r_end ?_
          refine t_cond rfl (fun h11 => ?_) (fun h11 => ?_)
          ·
            have h11' := h11
            try simp only [decide_eq_true_eq, decide_eq_false_iff_not, Bool.not_eq_true', Bool.not_eq_false', Bool.not_false, Bool.not_true] at h11'
            refine t_seq ?_
            refine t_region ?_
            refine r_op (o_move rfl rfl) ?_
            refine r_op (o_assign rfl rfl) ?_
            refine r_op (o_assign rfl rfl) ?_
            refine r_end ?_
            refine gt_as0b 6 2 7 rfl rfl rfl rfl ?_
            refine t_ret Try.func155 (.tmp rfl (.tmp rfl .nil)) rfl fun E S w u hI hd => ?_
            refine post_mk hI hd ?_ ⟨eqR ?_, trivial⟩ rfl rfl rfl <;> clear hI hd <;> (try clear ih0)
            all_goals first | rfl | (first | (exfalso; have e9 := hv (by omega); omega) | (have e : fitF (r, ts) (r2, vs) b = _ := (by first | exact fitF_no (by omega) | exact fitF_yes (by omega) (fit_end i3 (by omega)) | exact fitF_yes (by omega) (fit_bad i3 (zip_at hz5 hz9 rfl rfl) (fs_neg_bad (by omega) (by (have o1 := ht _ (List.mem_of_getElem? hz5); have o2 : IntKind.i64.wrap (-1 - z4) = -1 - z4 := wr64 (by omega) (by omega); omega)))) | exact fitF_yes (by omega) (fit_bad i3 (zip_at hz5 hz9 rfl rfl) (fs_bad (by omega) (by assumption) (by omega) (by omega))) | exact fitF_yes (by omega) (fit_bad i3 (zip_at hz5 (by assumption) rfl rfl) (fs_neg_bad (by omega) (by (have o1 := ht _ (List.mem_of_getElem? hz5); have o2 : IntKind.i64.wrap (-1 - z4) = -1 - z4 := wr64 (by omega) (by omega); omega)))) | exact fitF_yes (by omega) (fit_bad i3 (zip_at hz5 (by assumption) rfl rfl) (fs_bad (by omega) hz9 (by omega) (by omega))) | exact fitF_yes (by omega) (fit_bad i3 (zip_at hz5 (by assumption) rfl rfl) (fs_neg_bad (by omega) (by (have o1 := ht _ (List.mem_of_getElem? hz5); have o2 : IntKind.i64.wrap (-1 - z4) = -1 - z4 := wr64 (by omega) (by omega); omega)))) | exact fitF_yes (by omega) (fit_bad i3 (zip_at hz5 (by assumption) rfl rfl) (fs_bad (by omega) hz9 (by omega) (by omega))))); first | (rw [e]; done) | (rw [e]; rfl) | (simp [e]; done))
          ·
            have h11' := h11
            try simp only [decide_eq_true_eq, decide_eq_false_iff_not, Bool.not_eq_true', Bool.not_eq_false', Bool.not_false, Bool.not_true] at h11'
            refine t_skip ?_
            refine t_exit rfl ?_
            refine t_region ?_
            refine r_op (o_move rfl rfl) ?_
            refine r_op (o_bin rfl rfl rfl rfl) ?_
            refine r_op (o_assign rfl rfl) ?_
            refine r_end ?_
            refine t_le ?_ (ih0 (m + 1, q) (by (try dsimp only); omega) (by (try dsimp only); exact ⟨by omega, (by first | exact i2 | (rw [List.length_set]; exact i2)), by first | exact fit_more i3 (zip_at hz5 hz9 rfl rfl) (fs_neg (by omega) (by (have o1 := ht _ (List.mem_of_getElem? hz5); have o2 : IntKind.i64.wrap (-1 - z4) = -1 - z4 := wr64 (by omega) (by omega); omega))) | exact fit_more i3 (zip_at hz5 hz9 rfl rfl) (fs_set (by omega) (by assumption) (by omega)) | exact fit_more i3 (zip_at hz5 hz9 rfl rfl) (fs_same (by omega) (by assumption) (by omega)) | exact fit_more i3 (zip_at hz5 (by assumption) rfl rfl) (fs_neg (by omega) (by (have o1 := ht _ (List.mem_of_getElem? hz5); have o2 : IntKind.i64.wrap (-1 - z4) = -1 - z4 := wr64 (by omega) (by omega); omega))) | exact fit_more i3 (zip_at hz5 (by assumption) rfl rfl) (fs_set (by omega) hz9 (by omega)) | exact fit_more i3 (zip_at hz5 (by assumption) rfl rfl) (fs_same (by omega) hz9 (by omega)) | exact fit_more i3 (zip_at hz5 (by assumption) rfl rfl) (fs_neg (by omega) (by (have o1 := ht _ (List.mem_of_getElem? hz5); have o2 : IntKind.i64.wrap (-1 - z4) = -1 - z4 := wr64 (by omega) (by omega); omega))) | exact fit_more i3 (zip_at hz5 (by assumption) rfl rfl) (fs_set (by omega) hz9 (by omega)) | exact fit_more i3 (zip_at hz5 (by assumption) rfl rfl) (fs_same (by omega) hz9 (by omega))⟩))
            exact ⟨⟨rfl, ⟨rfl, ⟨rfl, ⟨(eqI (wr64 (by omega) (by omega))), trivial⟩⟩⟩⟩, ⟨rfl, ⟨rfl, ⟨rfl, trivial⟩⟩⟩, rfl⟩
        ·
          have h7' := h7
          try simp only [decide_eq_true_eq, decide_eq_false_iff_not, Bool.not_eq_true', Bool.not_eq_false', Bool.not_false, Bool.not_true] at h7'
          refine t_skip ?_
          refine t_seq ?_
          refine t_seq ?_
          refine t_draw (fun _ => true) (by kernel_rfl) ?_
          refine d_take 0 rfl rfl (by kernel_rfl) (by kernel_rfl) (by kernel_rfl) (p_move rfl) ?_
          refine d_take 1 rfl rfl (by kernel_rfl) (by kernel_rfl) (by kernel_rfl) (p_move rfl) ?_
          obtain ⟨z12, hz13, b14⟩ := at_get (xs := q) (n := z4) (by first | omega | (have o1 := ht _ (List.mem_of_getElem? (by assumption)); omega) | (have e9 := hv (by omega); omega) | (simp; omega)) (by first | omega | (have o1 := ht _ (List.mem_of_getElem? (by assumption)); omega) | (have e9 := hv (by omega); omega) | (simp; omega))
          refine d_take 2 rfl rfl (by kernel_rfl) (by kernel_rfl) (by kernel_rfl) (p_indexo (by kernel_rfl) rfl rfl rfl b14 (at_lt b14 hz13)) ?_
          refine d_take 3 rfl rfl (by kernel_rfl) (by kernel_rfl) (by kernel_rfl) (p_load1o (by kernel_rfl) rfl rfl rfl hz13) ?_
          refine d_only 4 rfl (by kernel_rfl) rfl (o_call 3 3 false (Go.Proofs.enters_of Try.func177 (by kernel_rfl) rfl) (c_spec_l11None ) rfl .nil rfl rfl rfl) ?_
          refine d_take 5 rfl rfl (by kernel_rfl) (by kernel_rfl) (by kernel_rfl) (p_bin rfl rfl rfl) ?_
          refine d_take 6 rfl rfl (by kernel_rfl) (by kernel_rfl) (by kernel_rfl) (p_move rfl) ?_
          refine d_guard 7 rfl rfl (by kernel_rfl) (by kernel_rfl) (by kernel_rfl) rfl rfl (fun _ => p_move rfl) (fun g15 => ?_) (fun g15 => ?_)
          ·
            have g15' := g15
            try simp only [decide_eq_true_eq, decide_eq_false_iff_not, Bool.not_eq_true', Bool.not_eq_false', Bool.not_false, Bool.not_true] at g15'
            refine d_guard 8 rfl rfl (by kernel_rfl) (by kernel_rfl) (by kernel_rfl) rfl rfl (fun _ => p_move rfl) (fun _ => ?_) (fun h' => Bool.noConfusion (g15.symm.trans h'))
            refine d_guard 9 rfl rfl (by kernel_rfl) (by kernel_rfl) (by kernel_rfl) rfl rfl (fun _ => p_indexo (by kernel_rfl) rfl rfl rfl b14 (at_lt b14 hz13)) (fun _ => ?_) (fun h' => Bool.noConfusion (g15.symm.trans h'))
            refine d_guard 10 rfl rfl (by kernel_rfl) (by kernel_rfl) (by kernel_rfl) rfl rfl (fun _ => p_load1o (by kernel_rfl) rfl rfl rfl hz13) (fun _ => ?_) (fun h' => Bool.noConfusion (g15.symm.trans h'))
            refine d_guard 11 rfl rfl (by kernel_rfl) (by kernel_rfl) (by kernel_rfl) rfl rfl (fun _ => p_fieldb (off := 1) (by kernel_rfl) rfl) (fun _ => ?_) (fun h' => Bool.noConfusion (g15.symm.trans h'))
            refine d_guard 12 rfl rfl (by kernel_rfl) (by kernel_rfl) (by kernel_rfl) rfl rfl (fun _ => p_load1b (by kernel_rfl) rfl rfl rfl) (fun _ => ?_) (fun h' => Bool.noConfusion (g15.symm.trans h'))
            refine d_guard 13 rfl rfl (by kernel_rfl) (by kernel_rfl) (by kernel_rfl) rfl rfl (fun _ => p_move rfl) (fun _ => ?_) (fun h' => Bool.noConfusion (g15.symm.trans h'))
            obtain ⟨z16, hz17, b18⟩ := at_get (xs := vs) (n := (m : Int)) (by first | omega | (have o1 := ht _ (List.mem_of_getElem? (by assumption)); omega) | (have e9 := hv (by omega); omega) | (simp; omega)) (by first | omega | (have o1 := ht _ (List.mem_of_getElem? (by assumption)); omega) | (have e9 := hv (by omega); omega) | (simp; omega))
            refine d_guard 14 rfl rfl (by kernel_rfl) (by kernel_rfl) (by kernel_rfl) rfl rfl (fun _ => p_index (by kernel_rfl) rfl rfl b18 hz17) (fun _ => ?_) (fun h' => Bool.noConfusion (g15.symm.trans h'))
            refine d_guard 15 rfl rfl (by kernel_rfl) (by kernel_rfl) (by kernel_rfl) rfl rfl (fun _ => p_load1 (by kernel_rfl) rfl rfl) (fun _ => ?_) (fun h' => Bool.noConfusion (g15.symm.trans h'))
            refine d_guard 16 rfl rfl (by kernel_rfl) (by kernel_rfl) (by kernel_rfl) rfl rfl (fun _ => p_bin rfl rfl rfl) (fun _ => ?_) (fun h' => Bool.noConfusion (g15.symm.trans h'))
            refine d_take 17 rfl rfl (by kernel_rfl) (by kernel_rfl) (by kernel_rfl) (p_pickT rfl g15 rfl) ?_
            refine d_end (by kernel_rfl) ?_
            refine t_cond rfl (fun h19 => ?_) (fun h19 => ?_)
            ·
              have h19' := h19
              try simp only [decide_eq_true_eq, decide_eq_false_iff_not, Bool.not_eq_true', Bool.not_eq_false', Bool.not_false, Bool.not_true] at h19'
              refine t_seq ?_
              refine t_region ?_
              refine r_op (o_move rfl rfl) ?_
              refine r_op (o_assign rfl rfl) ?_
              refine r_op (o_assign rfl rfl) ?_
              refine r_end ?_
              refine gt_as0b 6 2 7 rfl rfl rfl rfl ?_
              refine t_ret Try.func155 (.tmp rfl (.tmp rfl .nil)) rfl fun E S w u hI hd => ?_
              refine post_mk hI hd ?_ ⟨eqR ?_, trivial⟩ rfl rfl rfl <;> clear hI hd <;> (try clear ih0)
              all_goals first | rfl | (first | (exfalso; have e9 := hv (by omega); omega) | (have e : fitF (r, ts) (r2, vs) b = _ := (by first | exact fitF_no (by omega) | exact fitF_yes (by omega) (fit_end i3 (by omega)) | exact fitF_yes (by omega) (fit_bad i3 (zip_at hz5 hz13 rfl rfl) (fs_neg_bad (by omega) (by (have o1 := ht _ (List.mem_of_getElem? hz5); have o2 : IntKind.i64.wrap (-1 - z4) = -1 - z4 := wr64 (by omega) (by omega); omega)))) | exact fitF_yes (by omega) (fit_bad i3 (zip_at hz5 hz13 rfl rfl) (fs_bad (by omega) hz17 (by omega) (by omega))) | exact fitF_yes (by omega) (fit_bad i3 (zip_at hz5 hz17 rfl rfl) (fs_neg_bad (by omega) (by (have o1 := ht _ (List.mem_of_getElem? hz5); have o2 : IntKind.i64.wrap (-1 - z4) = -1 - z4 := wr64 (by omega) (by omega); omega)))) | exact fitF_yes (by omega) (fit_bad i3 (zip_at hz5 hz17 rfl rfl) (fs_bad (by omega) hz13 (by omega) (by omega))) | exact fitF_yes (by omega) (fit_bad i3 (zip_at hz5 (by assumption) rfl rfl) (fs_neg_bad (by omega) (by (have o1 := ht _ (List.mem_of_getElem? hz5); have o2 : IntKind.i64.wrap (-1 - z4) = -1 - z4 := wr64 (by omega) (by omega); omega)))) | exact fitF_yes (by omega) (fit_bad i3 (zip_at hz5 (by assumption) rfl rfl) (fs_bad (by omega) hz13 (by omega) (by omega))))); first | (rw [e]; done) | (rw [e]; rfl) | (simp [e]; done))
            ·
              have h19' := h19
              try simp only [decide_eq_true_eq, decide_eq_false_iff_not, Bool.not_eq_true', Bool.not_eq_false', Bool.not_false, Bool.not_true] at h19'
              refine t_skip ?_
              refine t_region ?_
              refine r_op (o_move rfl rfl) ?_
              refine r_op (o_move rfl rfl) ?_
              refine r_op (o_fieldb rfl (off := 1) (by kernel_rfl) rfl) ?_
              refine r_op (o_load1b rfl (by kernel_rfl) rfl rfl rfl) ?_
              refine r_op (o_move rfl rfl) ?_
              refine r_op (o_index rfl (by kernel_rfl) rfl rfl b18 hz17) ?_
              refine r_op (o_load1 rfl (by kernel_rfl) rfl rfl) ?_
              refine r_op (o_indexo rfl (by kernel_rfl) rfl rfl rfl b14 (at_lt b14 hz13)) ?_
              refine r_op (o_storeo (z16) (n := 1) (by kernel_rfl) rfl rfl hz13 rfl rfl rfl rfl (.cons .sc .nil) rfl (fun j h1 h2 => by simp at h1 h2; omega)) ?_
              refine r_end ?_
              refine t_endblock ?_
              refine t_region ?_
              refine r_op (o_move rfl rfl) ?_
              refine r_op (o_bin rfl rfl rfl rfl) ?_
              refine r_op (o_assign rfl rfl) ?_
              refine r_end ?_
              refine t_le ?_ (ih0 (m + 1, (q).set (z4).toNat (z16)) (by (try dsimp only); omega) (by (try dsimp only); exact ⟨by omega, (by first | exact i2 | (rw [List.length_set]; exact i2)), by first | exact fit_more i3 (zip_at hz5 hz13 rfl rfl) (fs_neg (by omega) (by (have o1 := ht _ (List.mem_of_getElem? hz5); have o2 : IntKind.i64.wrap (-1 - z4) = -1 - z4 := wr64 (by omega) (by omega); omega))) | exact fit_more i3 (zip_at hz5 hz13 rfl rfl) (fs_set (by omega) hz17 (by omega)) | exact fit_more i3 (zip_at hz5 hz13 rfl rfl) (fs_same (by omega) hz17 (by omega)) | exact fit_more i3 (zip_at hz5 hz17 rfl rfl) (fs_neg (by omega) (by (have o1 := ht _ (List.mem_of_getElem? hz5); have o2 : IntKind.i64.wrap (-1 - z4) = -1 - z4 := wr64 (by omega) (by omega); omega))) | exact fit_more i3 (zip_at hz5 hz17 rfl rfl) (fs_set (by omega) hz13 (by omega)) | exact fit_more i3 (zip_at hz5 hz17 rfl rfl) (fs_same (by omega) hz13 (by omega)) | exact fit_more i3 (zip_at hz5 (by assumption) rfl rfl) (fs_neg (by omega) (by (have o1 := ht _ (List.mem_of_getElem? hz5); have o2 : IntKind.i64.wrap (-1 - z4) = -1 - z4 := wr64 (by omega) (by omega); omega))) | exact fit_more i3 (zip_at hz5 (by assumption) rfl rfl) (fs_set (by omega) hz13 (by omega)) | exact fit_more i3 (zip_at hz5 (by assumption) rfl rfl) (fs_same (by omega) hz13 (by omega))⟩))
              exact ⟨⟨rfl, ⟨rfl, ⟨rfl, ⟨(eqI (wr64 (by omega) (by omega))), trivial⟩⟩⟩⟩, ⟨rfl, ⟨rfl, ⟨rfl, trivial⟩⟩⟩, rfl⟩
          ·
            have g15' := g15
            try simp only [decide_eq_true_eq, decide_eq_false_iff_not, Bool.not_eq_true', Bool.not_eq_false', Bool.not_false, Bool.not_true] at g15'
            refine d_guard 8 rfl rfl (by kernel_rfl) (by kernel_rfl) (by kernel_rfl) rfl rfl (v := .c .top) (fun h' => Bool.noConfusion (g15.symm.trans h')) (fun h' => Bool.noConfusion (g15.symm.trans h')) (fun _ => ?_)
            refine d_guard 9 rfl rfl (by kernel_rfl) (by kernel_rfl) (by kernel_rfl) rfl rfl (v := .c .top) (fun h' => Bool.noConfusion (g15.symm.trans h')) (fun h' => Bool.noConfusion (g15.symm.trans h')) (fun _ => ?_)
            refine d_guard 10 rfl rfl (by kernel_rfl) (by kernel_rfl) (by kernel_rfl) rfl rfl (v := .c .top) (fun h' => Bool.noConfusion (g15.symm.trans h')) (fun h' => Bool.noConfusion (g15.symm.trans h')) (fun _ => ?_)
            refine d_guard 11 rfl rfl (by kernel_rfl) (by kernel_rfl) (by kernel_rfl) rfl rfl (v := .c .top) (fun h' => Bool.noConfusion (g15.symm.trans h')) (fun h' => Bool.noConfusion (g15.symm.trans h')) (fun _ => ?_)
            refine d_guard 12 rfl rfl (by kernel_rfl) (by kernel_rfl) (by kernel_rfl) rfl rfl (v := .c .top) (fun h' => Bool.noConfusion (g15.symm.trans h')) (fun h' => Bool.noConfusion (g15.symm.trans h')) (fun _ => ?_)
            refine d_guard 13 rfl rfl (by kernel_rfl) (by kernel_rfl) (by kernel_rfl) rfl rfl (v := .c .top) (fun h' => Bool.noConfusion (g15.symm.trans h')) (fun h' => Bool.noConfusion (g15.symm.trans h')) (fun _ => ?_)
            refine d_guard 14 rfl rfl (by kernel_rfl) (by kernel_rfl) (by kernel_rfl) rfl rfl (v := .c .top) (fun h' => Bool.noConfusion (g15.symm.trans h')) (fun h' => Bool.noConfusion (g15.symm.trans h')) (fun _ => ?_)
            refine d_guard 15 rfl rfl (by kernel_rfl) (by kernel_rfl) (by kernel_rfl) rfl rfl (v := .c .top) (fun h' => Bool.noConfusion (g15.symm.trans h')) (fun h' => Bool.noConfusion (g15.symm.trans h')) (fun _ => ?_)
            refine d_guard 16 rfl rfl (by kernel_rfl) (by kernel_rfl) (by kernel_rfl) rfl rfl (v := .c .top) (fun h' => Bool.noConfusion (g15.symm.trans h')) (fun h' => Bool.noConfusion (g15.symm.trans h')) (fun _ => ?_)
            refine d_take 17 rfl rfl (by kernel_rfl) (by kernel_rfl) (by kernel_rfl) (p_pickF rfl g15 rfl) ?_
            refine d_end (by kernel_rfl) ?_
            refine t_cond rfl (fun h' => Bool.noConfusion (rfl.symm.trans h')) (fun _ => ?_)
            refine t_skip ?_
            refine t_region ?_
            refine r_op (o_move rfl rfl) ?_
            refine r_op (o_move rfl rfl) ?_
            refine r_op (o_fieldb rfl (off := 1) (by kernel_rfl) rfl) ?_
            refine r_op (o_load1b rfl (by kernel_rfl) rfl rfl rfl) ?_
            refine r_op (o_move rfl rfl) ?_
            obtain ⟨z20, hz21, b22⟩ := at_get (xs := vs) (n := (m : Int)) (by first | omega | (have o1 := ht _ (List.mem_of_getElem? (by assumption)); omega) | (have e9 := hv (by omega); omega) | (simp; omega)) (by first | omega | (have o1 := ht _ (List.mem_of_getElem? (by assumption)); omega) | (have e9 := hv (by omega); omega) | (simp; omega))
            refine r_op (o_index rfl (by kernel_rfl) rfl rfl b22 hz21) ?_
            refine r_op (o_load1 rfl (by kernel_rfl) rfl rfl) ?_
            refine r_op (o_indexo rfl (by kernel_rfl) rfl rfl rfl b14 (at_lt b14 hz13)) ?_
            refine r_op (o_storeo (z20) (n := 1) (by kernel_rfl) rfl rfl hz13 rfl rfl rfl rfl (.cons .sc .nil) rfl (fun j h1 h2 => by simp at h1 h2; omega)) ?_
            refine r_end ?_
            refine t_endblock ?_
            refine t_region ?_
            refine r_op (o_move rfl rfl) ?_
            refine r_op (o_bin rfl rfl rfl rfl) ?_
            refine r_op (o_assign rfl rfl) ?_
            refine r_end ?_
            refine t_le ?_ (ih0 (m + 1, (q).set (z4).toNat (z20)) (by (try dsimp only); omega) (by (try dsimp only); exact ⟨by omega, (by first | exact i2 | (rw [List.length_set]; exact i2)), by first | exact fit_more i3 (zip_at hz5 hz13 rfl rfl) (fs_neg (by omega) (by (have o1 := ht _ (List.mem_of_getElem? hz5); have o2 : IntKind.i64.wrap (-1 - z4) = -1 - z4 := wr64 (by omega) (by omega); omega))) | exact fit_more i3 (zip_at hz5 hz13 rfl rfl) (fs_set (by omega) hz21 (by omega)) | exact fit_more i3 (zip_at hz5 hz13 rfl rfl) (fs_same (by omega) hz21 (by omega)) | exact fit_more i3 (zip_at hz5 hz21 rfl rfl) (fs_neg (by omega) (by (have o1 := ht _ (List.mem_of_getElem? hz5); have o2 : IntKind.i64.wrap (-1 - z4) = -1 - z4 := wr64 (by omega) (by omega); omega))) | exact fit_more i3 (zip_at hz5 hz21 rfl rfl) (fs_set (by omega) hz13 (by omega)) | exact fit_more i3 (zip_at hz5 hz21 rfl rfl) (fs_same (by omega) hz13 (by omega)) | exact fit_more i3 (zip_at hz5 (by assumption) rfl rfl) (fs_neg (by omega) (by (have o1 := ht _ (List.mem_of_getElem? hz5); have o2 : IntKind.i64.wrap (-1 - z4) = -1 - z4 := wr64 (by omega) (by omega); omega))) | exact fit_more i3 (zip_at hz5 (by assumption) rfl rfl) (fs_set (by omega) hz13 (by omega)) | exact fit_more i3 (zip_at hz5 (by assumption) rfl rfl) (fs_same (by omega) hz13 (by omega))⟩))
            exact ⟨⟨rfl, ⟨rfl, ⟨rfl, ⟨(eqI (wr64 (by omega) (by omega))), trivial⟩⟩⟩⟩, ⟨rfl, ⟨rfl, ⟨rfl, trivial⟩⟩⟩, rfl⟩
      ·
        have h3' := h3
        try simp only [decide_eq_true_eq, decide_eq_false_iff_not, Bool.not_eq_true', Bool.not_eq_false', Bool.not_false, Bool.not_true] at h3'
        refine t_exit rfl ?_
        refine t_seq ?_
        refine t_region ?_
        refine r_op (o_move rfl rfl) ?_
        refine r_op (o_assign rfl rfl) ?_
        refine r_op (o_assign rfl rfl) ?_
        refine r_end ?_
        refine gt_as0b 6 2 7 rfl rfl rfl rfl ?_
        refine t_ret Try.func155 (.tmp rfl (.tmp rfl .nil)) rfl fun E S w u hI hd => ?_
        refine post_mk hI hd ?_ ⟨eqR ?_, trivial⟩ rfl rfl rfl <;> clear hI hd <;> (try clear ih0)
        all_goals first | rfl | (first | (exfalso; have e9 := hv (by omega); omega) | (have e : fitF (r, ts) (r2, vs) b = _ := (by first | exact fitF_no (by omega) | exact fitF_yes (by omega) (fit_end i3 (by omega)) | exact fitF_yes (by omega) (fit_bad i3 (zip_at (by assumption) (by assumption) rfl rfl) (fs_neg_bad (by omega) (by (have o1 := ht _ (List.mem_of_getElem? (by assumption)); have o2 : IntKind.i64.wrap (-1 - (by assumption)) = -1 - (by assumption) := wr64 (by omega) (by omega); omega)))) | exact fitF_yes (by omega) (fit_bad i3 (zip_at (by assumption) (by assumption) rfl rfl) (fs_bad (by omega) (by assumption) (by omega) (by omega))) | exact fitF_yes (by omega) (fit_bad i3 (zip_at (by assumption) (by assumption) rfl rfl) (fs_neg_bad (by omega) (by (have o1 := ht _ (List.mem_of_getElem? (by assumption)); have o2 : IntKind.i64.wrap (-1 - (by assumption)) = -1 - (by assumption) := wr64 (by omega) (by omega); omega)))) | exact fitF_yes (by omega) (fit_bad i3 (zip_at (by assumption) (by assumption) rfl rfl) (fs_bad (by omega) (by assumption) (by omega) (by omega))) | exact fitF_yes (by omega) (fit_bad i3 (zip_at (by assumption) (by assumption) rfl rfl) (fs_neg_bad (by omega) (by (have o1 := ht _ (List.mem_of_getElem? (by assumption)); have o2 : IntKind.i64.wrap (-1 - (by assumption)) = -1 - (by assumption) := wr64 (by omega) (by omega); omega)))) | exact fitF_yes (by omega) (fit_bad i3 (zip_at (by assumption) (by assumption) rfl rfl) (fs_bad (by omega) (by assumption) (by omega) (by omega))))); first | (rw [e]; done) | (rw [e]; rfl) | (simp [e]; done))
  ·
    have g1' := g1
    try simp only [decide_eq_true_eq, decide_eq_false_iff_not, Bool.not_eq_true', Bool.not_eq_false', Bool.not_false, Bool.not_true] at g1'
    refine r_guard rfl rfl rfl (fun h' => (Bool.noConfusion (g1.symm.trans h'))) (fun _ => ?_)
    refine r_guard rfl rfl rfl (fun h' => (Bool.noConfusion (g1.symm.trans h'))) (fun _ => ?_)
    refine r_guard rfl rfl rfl (fun h' => (Bool.noConfusion (g1.symm.trans h'))) (fun _ => ?_)
    refine r_guard rfl rfl rfl (fun h' => (Bool.noConfusion (g1.symm.trans h'))) (fun _ => ?_)
    refine r_guard rfl rfl rfl (fun h' => (Bool.noConfusion (g1.symm.trans h'))) (fun _ => ?_)
    refine r_guard rfl rfl rfl (fun h' => (Bool.noConfusion (g1.symm.trans h'))) (fun _ => ?_)
    refine r_op (o_pickT rfl rfl g1 rfl) ?_
    refine r_end ?_
    refine t_cond rfl (fun _ => ?_) (fun h' => Bool.noConfusion (rfl.symm.trans h'))
    refine t_seq ?_
    refine t_region ?_
    refine r_op (o_move rfl rfl) ?_
    refine r_op (o_assign rfl rfl) ?_
    refine r_op (o_assign rfl rfl) ?_
    refine r_end ?_
    refine gt_as0b 6 2 7 rfl rfl rfl rfl ?_
    refine t_ret Try.func155 (.tmp rfl (.tmp rfl .nil)) rfl fun E S w u hI hd => ?_
    refine post_mk hI hd ?_ ⟨eqR ?_, trivial⟩ rfl rfl rfl <;> clear hI hd <;> (try clear ih0)
    all_goals first | rfl | (first | (exfalso; have e9 := hv (by omega); omega) | (have e : fitF (r, ts) (r2, vs) b = _ := (by first | exact fitF_no (by omega) | exact fitF_yes (by omega) (fit_end i3 (by omega)) | exact fitF_yes (by omega) (fit_bad i3 (zip_at (by assumption) (by assumption) rfl rfl) (fs_neg_bad (by omega) (by (have o1 := ht _ (List.mem_of_getElem? (by assumption)); have o2 : IntKind.i64.wrap (-1 - (by assumption)) = -1 - (by assumption) := wr64 (by omega) (by omega); omega)))) | exact fitF_yes (by omega) (fit_bad i3 (zip_at (by assumption) (by assumption) rfl rfl) (fs_bad (by omega) (by assumption) (by omega) (by omega))) | exact fitF_yes (by omega) (fit_bad i3 (zip_at (by assumption) (by assumption) rfl rfl) (fs_neg_bad (by omega) (by (have o1 := ht _ (List.mem_of_getElem? (by assumption)); have o2 : IntKind.i64.wrap (-1 - (by assumption)) = -1 - (by assumption) := wr64 (by omega) (by omega); omega)))) | exact fitF_yes (by omega) (fit_bad i3 (zip_at (by assumption) (by assumption) rfl rfl) (fs_bad (by omega) (by assumption) (by omega) (by omega))) | exact fitF_yes (by omega) (fit_bad i3 (zip_at (by assumption) (by assumption) rfl rfl) (fs_neg_bad (by omega) (by (have o1 := ht _ (List.mem_of_getElem? (by assumption)); have o2 : IntKind.i64.wrap (-1 - (by assumption)) = -1 - (by assumption) := wr64 (by omega) (by omega); omega)))) | exact fitF_yes (by omega) (fit_bad i3 (zip_at (by assumption) (by assumption) rfl rfl) (fs_bad (by omega) (by assumption) (by omega) (by omega))))); first | (rw [e]; done) | (rw [e]; rfl) | (simp [e]; done))
set_option maxHeartbeats 1000000 in
set_option maxRecDepth 10000 in
theorem c_spec_l11Walk_n : ∀ (n : Nat) (rs : Rels) (fs l : Atoms) (k : Int) (b : List Int) (hf : fs.length ≤ 30) (hl : l.length ≤ 3) (hb : b.length = 5) (hv : ∀ a ∈ l, ∀ f ∈ fs, a.1 = f.1 → a.2.length = f.2.length) (ht : ∀ a ∈ l, (∀ t ∈ a.2, -10 ≤ t ∧ t ≤ 4) ∧ a.2.length ≤ 4611686018427387904) (hk : 0 ≤ k ∧ k ≤ l.length) (hn : l.length - k.toNat = n), Pu Try.prog 99 [.agg [.t none (.sl 3 (enS3 encS encI encB) (rs)), .t none (.sl 2 (enS2 encI (enSl 1 encI)) (fs))], .c (.t none (.sl 2 (enS2 encI (enSl 1 encI)) (l))), .c (.t none (.v (.int .i64 (k)))), .c (.t none (.sl 1 encI (b)))] [(0, some (.row none 60 true 1 (enSl 1 encI) (matchL fs (l.drop k.toNat) b)))] 1 (.c (.own 0)) := by
  refine rec_on fun n ih => ?_
  intro rs fs l k b hf hl hb hv ht hk hn
  have rec_ : ∀ (rs : Rels) (fs l : Atoms) (k : Int) (b : List Int) (hdec : l.length - k.toNat < n) (hf : fs.length ≤ 30) (hl : l.length ≤ 3) (hb : b.length = 5) (hv : ∀ a ∈ l, ∀ f ∈ fs, a.1 = f.1 → a.2.length = f.2.length) (ht : ∀ a ∈ l, (∀ t ∈ a.2, -10 ≤ t ∧ t ≤ 4) ∧ a.2.length ≤ 4611686018427387904) (hk : 0 ≤ k ∧ k ≤ l.length), Pu Try.prog 99 [.agg [.t none (.sl 3 (enS3 encS encI encB) (rs)), .t none (.sl 2 (enS2 encI (enSl 1 encI)) (fs))], .c (.t none (.sl 2 (enS2 encI (enSl 1 encI)) (l))), .c (.t none (.v (.int .i64 (k)))), .c (.t none (.sl 1 encI (b)))] [(0, some (.row none 60 true 1 (enSl 1 encI) (matchL fs (l.drop k.toNat) b)))] 1 (.c (.own 0)) := fun rs fs l k b hdec hf hl hb hv ht hk => ih _ hdec rs fs l k b hf hl hb hv ht hk rfl
  refine pu_enter Try.func99 rfl (Nat.le_of_ble_eq_true rfl) fun w S => ?_
  refine t_seq ?_
  refine t_region ?_
  refine r_op (o_box 0 rfl rfl rfl rfl) ?_
  refine r_op (o_assign rfl rfl) ?_
  refine r_end ?_
  refine t_seq ?_
  refine t_seq ?_
  refine t_region ?_
  refine r_op (o_move rfl rfl) ?_
  refine r_op (o_move rfl rfl) ?_
  refine r_op (o_len rfl rfl rfl) ?_
  refine r_op (o_bin rfl rfl rfl rfl) ?_
  refine r_end ?_
  refine t_cond rfl (fun h1 => ?_) (fun h1 => ?_)
  ·
    have h1' := h1
    try simp only [decide_eq_true_eq, decide_eq_false_iff_not, Bool.not_eq_true', Bool.not_eq_false', Bool.not_false, Bool.not_true] at h1'
    refine t_seq ?_
    refine t_region ?_
    refine r_op (o_lit0 1 (e := 3) (sz := 1) (zs := [.int .i64 (0)]) encI rfl rfl (by kernel_rfl) rfl) ?_
    refine r_op (o_move rfl rfl) ?_
    refine r_op (o_appendS 1 (e := 3) (sz := 1) (by' := 8) rfl (by kernel_rfl) rfl rfl rfl rfl (fun _ _ => ⟨_, rfl⟩) (by first | omega | assumption | (rw [wr64 (by omega) (by omega)]; omega) | (simp; omega) | exact (fitF_len _ _ _).trans hb | (refine Nat.le_trans (Nat.mul_le_mul_right _ (room_w hf hl (by assumption) hk (by simp only [List.length_drop]; omega))) (by decide)) | exact Nat.le_trans (room_w hf hl (by assumption) hk (by simp only [List.length_drop]; omega)) (by decide) | exact (ht _ (List.mem_of_getElem? (by assumption))).1 | exact (ht _ (List.mem_of_getElem? (by assumption))).2 | exact hv _ (List.mem_of_getElem? (by assumption)) _ (List.mem_of_getElem? (by assumption))) (by first | omega | assumption | (rw [wr64 (by omega) (by omega)]; omega) | (simp; omega) | exact (fitF_len _ _ _).trans hb | (refine Nat.le_trans (Nat.mul_le_mul_right _ (room_w hf hl (by assumption) hk (by simp only [List.length_drop]; omega))) (by decide)) | exact Nat.le_trans (room_w hf hl (by assumption) hk (by simp only [List.length_drop]; omega)) (by decide) | exact (ht _ (List.mem_of_getElem? (by assumption))).1 | exact (ht _ (List.mem_of_getElem? (by assumption))).2 | exact hv _ (List.mem_of_getElem? (by assumption)) _ (List.mem_of_getElem? (by assumption)))) ?_
    refine r_op (o_lit2 2 (e := 60) (sz := 1) (zs := [.slice none 0 0]) (enc := (enSl 1 encI)) (([]) ++ b) rfl rfl (by kernel_rfl) rfl rfl rfl rfl rfl rfl (.take (.own rfl) rfl .nil) rfl) ?_
    refine r_op (o_assign rfl rfl) ?_
    refine r_end ?_
    refine gt_as0 8 2 rfl rfl ?_
    refine t_ret Try.func99 (.tmp rfl .nil) rfl fun E S w u hI hd => ?_
    refine post_mk hI hd ?_ ⟨eqR ?_, trivial⟩ rfl rfl rfl <;> clear hI hd <;> (try clear ih0)
    all_goals first | rfl | (first | rfl | exact (walk_nil (by assumption)).symm | exact matchM_end (drop_ne (by assumption) hk) (by omega))
  ·
    have h1' := h1
    try simp only [decide_eq_true_eq, decide_eq_false_iff_not, Bool.not_eq_true', Bool.not_eq_false', Bool.not_false, Bool.not_true] at h1'
    refine t_skip ?_
    refine t_seq ?_
    refine t_region ?_
    refine r_op (o_lit0 1 (e := 60) (sz := 1) (zs := [.slice none 0 0]) (enSl 1 encI) rfl rfl (by kernel_rfl) rfl) ?_
    refine r_op (o_assign rfl rfl) ?_
    refine r_end ?_
    refine t_seq ?_
    refine t_seq ?_
    refine t_region ?_
    refine r_op (o_assign rfl rfl) ?_
    refine r_end ?_
    refine t_block ?_
    refine t_loopL (fun m => ⟨[(1, some (.c (.t none (.sl 2 (enS2 encI (enSl 1 encI)) (l))))), (2, some (.c (.t none (.v (.int .i64 (k)))))), (3, some (.c (.t none (.sl 1 encI (b))))), (4, some (.c (.ptr 0 0))), (8, some (.c (.t none (.v (.slice none 0 0))))), (9, some (.c (.own 1))), (10, some (.c (.t none (.v (.int .i64 ((m : Int)))))))], [(0, some (.box [.t none (.sl 3 (enS3 encS encI encB) (rs)), .t none (.sl 2 (enS2 encI (enSl 1 encI)) (fs))])), (1, some (.row none 60 true 1 (enSl 1 encI) (matchM fs (l.drop k.toNat) b m)))], 2⟩ : Nat → St) (fun m => m ≤ fs.length) (fun m => fs.length - m) 0 ⟨⟨rfl, ⟨rfl, ⟨rfl, ⟨rfl, ⟨rfl, ⟨rfl, ⟨rfl, trivial⟩⟩⟩⟩⟩⟩⟩, ⟨rfl, ⟨(eqR (walk_z (by assumption) hk).symm), trivial⟩⟩, rfl⟩ (by exact Nat.zero_le _) ?_
    rintro m hI ih0
    try dsimp only at hI ih0
    have i1 := hI
    refine t_seq ?_
    refine t_seq ?_
    refine t_region ?_
    refine r_op (o_move rfl rfl) ?_
    refine r_op (o_fieldb rfl (off := 1) (by kernel_rfl) rfl) ?_
    refine r_op (o_load1b rfl (by kernel_rfl) rfl rfl rfl) ?_
    refine r_op (o_len rfl rfl rfl) ?_
    refine r_op (o_bin rfl rfl rfl rfl) ?_
    refine r_end ?_
    refine t_cond rfl (fun h2 => ?_) (fun h2 => ?_)
    ·
      have h2' := h2
      try simp only [decide_eq_true_eq, decide_eq_false_iff_not, Bool.not_eq_true', Bool.not_eq_false', Bool.not_false, Bool.not_true] at h2'
      refine t_skip ?_
      refine t_seq ?_
      refine t_block ?_
      refine t_seq ?_
      refine t_draw (fun _ => true) (by kernel_rfl) ?_
      refine d_take 0 rfl rfl (by kernel_rfl) (by kernel_rfl) (by kernel_rfl) (p_move rfl) ?_
      refine d_take 1 rfl rfl (by kernel_rfl) (by kernel_rfl) (by kernel_rfl) (p_move rfl) ?_
      obtain ⟨z3, hz4, b5⟩ := at_get (xs := l) (n := k) (by first | omega | assumption | (rw [wr64 (by omega) (by omega)]; omega) | (simp; omega) | exact (fitF_len _ _ _).trans hb | (refine Nat.le_trans (Nat.mul_le_mul_right _ (room_w hf hl (by assumption) hk (by simp only [List.length_drop]; omega))) (by decide)) | exact Nat.le_trans (room_w hf hl (by assumption) hk (by simp only [List.length_drop]; omega)) (by decide) | exact (ht _ (List.mem_of_getElem? (by assumption))).1 | exact (ht _ (List.mem_of_getElem? (by assumption))).2 | exact hv _ (List.mem_of_getElem? (by assumption)) _ (List.mem_of_getElem? (by assumption))) (by first | omega | assumption | (rw [wr64 (by omega) (by omega)]; omega) | (simp; omega) | exact (fitF_len _ _ _).trans hb | (refine Nat.le_trans (Nat.mul_le_mul_right _ (room_w hf hl (by assumption) hk (by simp only [List.length_drop]; omega))) (by decide)) | exact Nat.le_trans (room_w hf hl (by assumption) hk (by simp only [List.length_drop]; omega)) (by decide) | exact (ht _ (List.mem_of_getElem? (by assumption))).1 | exact (ht _ (List.mem_of_getElem? (by assumption))).2 | exact hv _ (List.mem_of_getElem? (by assumption)) _ (List.mem_of_getElem? (by assumption)))
      refine d_take 2 rfl rfl (by kernel_rfl) (by kernel_rfl) (by kernel_rfl) (p_index (by kernel_rfl) rfl rfl b5 hz4) ?_
      refine d_take 3 rfl rfl (by kernel_rfl) (by kernel_rfl) (by kernel_rfl) (p_loadA (n := 2) (by kernel_rfl) (by kernel_rfl) rfl rfl) ?_
      refine d_take 4 rfl rfl (by kernel_rfl) (by kernel_rfl) (by kernel_rfl) (p_fieldb (off := 1) (by kernel_rfl) rfl) ?_
      refine d_take 5 rfl rfl (by kernel_rfl) (by kernel_rfl) (by kernel_rfl) (p_load1b (by kernel_rfl) rfl rfl rfl) ?_
      refine d_take 6 rfl rfl (by kernel_rfl) (by kernel_rfl) (by kernel_rfl) (p_move rfl) ?_
      obtain ⟨z6, hz7, b8⟩ := at_get (xs := fs) (n := (m : Int)) (by first | omega | assumption | (rw [wr64 (by omega) (by omega)]; omega) | (simp; omega) | exact (fitF_len _ _ _).trans hb | (refine Nat.le_trans (Nat.mul_le_mul_right _ (room_w hf hl (by assumption) hk (by simp only [List.length_drop]; omega))) (by decide)) | exact Nat.le_trans (room_w hf hl (by assumption) hk (by simp only [List.length_drop]; omega)) (by decide) | exact (ht _ (List.mem_of_getElem? (by assumption))).1 | exact (ht _ (List.mem_of_getElem? (by assumption))).2 | exact hv _ (List.mem_of_getElem? (by assumption)) _ (List.mem_of_getElem? (by assumption))) (by first | omega | assumption | (rw [wr64 (by omega) (by omega)]; omega) | (simp; omega) | exact (fitF_len _ _ _).trans hb | (refine Nat.le_trans (Nat.mul_le_mul_right _ (room_w hf hl (by assumption) hk (by simp only [List.length_drop]; omega))) (by decide)) | exact Nat.le_trans (room_w hf hl (by assumption) hk (by simp only [List.length_drop]; omega)) (by decide) | exact (ht _ (List.mem_of_getElem? (by assumption))).1 | exact (ht _ (List.mem_of_getElem? (by assumption))).2 | exact hv _ (List.mem_of_getElem? (by assumption)) _ (List.mem_of_getElem? (by assumption)))
      refine d_take 7 rfl rfl (by kernel_rfl) (by kernel_rfl) (by kernel_rfl) (p_index (by kernel_rfl) rfl rfl b8 hz7) ?_
      refine d_take 8 rfl rfl (by kernel_rfl) (by kernel_rfl) (by kernel_rfl) (p_loadA (n := 2) (by kernel_rfl) (by kernel_rfl) rfl rfl) ?_
      refine d_take 9 rfl rfl (by kernel_rfl) (by kernel_rfl) (by kernel_rfl) (p_move rfl) ?_
      refine d_only 10 rfl (by kernel_rfl) rfl (o_call 2 3 false (Go.Proofs.enters_of Try.func155 (by kernel_rfl) rfl) (c_spec_l11Fit (b) (z3.1) (z3.2) (z6.1) (z6.2) (by first | omega | assumption | (rw [wr64 (by omega) (by omega)]; omega) | (simp; omega) | exact (fitF_len _ _ _).trans hb | (refine Nat.le_trans (Nat.mul_le_mul_right _ (room_w hf hl (by assumption) hk (by simp only [List.length_drop]; omega))) (by decide)) | exact Nat.le_trans (room_w hf hl (by assumption) hk (by simp only [List.length_drop]; omega)) (by decide) | exact (ht _ (List.mem_of_getElem? (by assumption))).1 | exact (ht _ (List.mem_of_getElem? (by assumption))).2 | exact hv _ (List.mem_of_getElem? (by assumption)) _ (List.mem_of_getElem? (by assumption))) (by first | omega | assumption | (rw [wr64 (by omega) (by omega)]; omega) | (simp; omega) | exact (fitF_len _ _ _).trans hb | (refine Nat.le_trans (Nat.mul_le_mul_right _ (room_w hf hl (by assumption) hk (by simp only [List.length_drop]; omega))) (by decide)) | exact Nat.le_trans (room_w hf hl (by assumption) hk (by simp only [List.length_drop]; omega)) (by decide) | exact (ht _ (List.mem_of_getElem? (by assumption))).1 | exact (ht _ (List.mem_of_getElem? (by assumption))).2 | exact hv _ (List.mem_of_getElem? (by assumption)) _ (List.mem_of_getElem? (by assumption))) (by first | omega | assumption | (rw [wr64 (by omega) (by omega)]; omega) | (simp; omega) | exact (fitF_len _ _ _).trans hb | (refine Nat.le_trans (Nat.mul_le_mul_right _ (room_w hf hl (by assumption) hk (by simp only [List.length_drop]; omega))) (by decide)) | exact Nat.le_trans (room_w hf hl (by assumption) hk (by simp only [List.length_drop]; omega)) (by decide) | exact (ht _ (List.mem_of_getElem? (by assumption))).1 | exact (ht _ (List.mem_of_getElem? (by assumption))).2 | exact hv _ (List.mem_of_getElem? (by assumption)) _ (List.mem_of_getElem? (by assumption))) (by first | omega | assumption | (rw [wr64 (by omega) (by omega)]; omega) | (simp; omega) | exact (fitF_len _ _ _).trans hb | (refine Nat.le_trans (Nat.mul_le_mul_right _ (room_w hf hl (by assumption) hk (by simp only [List.length_drop]; omega))) (by decide)) | exact Nat.le_trans (room_w hf hl (by assumption) hk (by simp only [List.length_drop]; omega)) (by decide) | exact (ht _ (List.mem_of_getElem? (by assumption))).1 | exact (ht _ (List.mem_of_getElem? (by assumption))).2 | exact hv _ (List.mem_of_getElem? (by assumption)) _ (List.mem_of_getElem? (by assumption)))) rfl (.cons rfl (.agg (.cons .t0 (.cons .t0 .nil))) (.cons rfl (.agg (.cons .t0 (.cons .t0 .nil))) (.cons rfl (.c .t0) .nil))) rfl rfl rfl) ?_
      refine d_take 11 rfl rfl (by kernel_rfl) (by kernel_rfl) (by kernel_rfl) (p_move rfl) ?_
      refine d_take 12 rfl rfl (by kernel_rfl) (by kernel_rfl) (by kernel_rfl) (p_extract rfl rfl rfl) ?_
      refine d_take 13 rfl rfl (by kernel_rfl) (by kernel_rfl) (by kernel_rfl) (p_extract rfl rfl rfl) ?_
      refine d_take 14 rfl rfl (by kernel_rfl) (by kernel_rfl) (by kernel_rfl) (p_assign rfl) ?_
      refine d_take 15 rfl rfl (by kernel_rfl) (by kernel_rfl) (by kernel_rfl) (p_assign rfl) ?_
      refine d_end (by kernel_rfl) ?_
      refine t_seq ?_
      refine t_region ?_
      refine r_op (o_move rfl rfl) ?_
      refine r_end ?_
      refine t_cond rfl (fun h9 => ?_) (fun h9 => ?_)
      ·
        have h9' := h9
        skip
        refine t_region ?_
        refine r_op (o_move rfl rfl) ?_
        refine r_op (o_loadAb rfl (n := 2) (by kernel_rfl) (by kernel_rfl) rfl rfl rfl) ?_
        refine r_op (o_move rfl rfl) ?_
        refine r_op (o_move rfl rfl) ?_
        refine r_op (o_bin rfl rfl rfl rfl) ?_
        refine r_op (o_move rfl rfl) ?_
        refine r_op (o_call 3 4 false (Go.Proofs.enters_of Try.func99 (by kernel_rfl) rfl) (rec_ (rs) (fs) (l) (IntKind.i64.wrap (k + 1)) ((fitF ((z3.1), (z3.2)) ((z6.1), (z6.2)) (b)).1) (by first | omega | assumption | (rw [wr64 (by omega) (by omega)]; omega) | (simp; omega) | exact (fitF_len _ _ _).trans hb | (refine Nat.le_trans (Nat.mul_le_mul_right _ (room_w hf hl (by assumption) hk (by simp only [List.length_drop]; omega))) (by decide)) | exact Nat.le_trans (room_w hf hl (by assumption) hk (by simp only [List.length_drop]; omega)) (by decide) | exact (ht _ (List.mem_of_getElem? (by assumption))).1 | exact (ht _ (List.mem_of_getElem? (by assumption))).2 | exact hv _ (List.mem_of_getElem? (by assumption)) _ (List.mem_of_getElem? (by assumption))) (by first | omega | assumption | (rw [wr64 (by omega) (by omega)]; omega) | (simp; omega) | exact (fitF_len _ _ _).trans hb | (refine Nat.le_trans (Nat.mul_le_mul_right _ (room_w hf hl (by assumption) hk (by simp only [List.length_drop]; omega))) (by decide)) | exact Nat.le_trans (room_w hf hl (by assumption) hk (by simp only [List.length_drop]; omega)) (by decide) | exact (ht _ (List.mem_of_getElem? (by assumption))).1 | exact (ht _ (List.mem_of_getElem? (by assumption))).2 | exact hv _ (List.mem_of_getElem? (by assumption)) _ (List.mem_of_getElem? (by assumption))) (by first | omega | assumption | (rw [wr64 (by omega) (by omega)]; omega) | (simp; omega) | exact (fitF_len _ _ _).trans hb | (refine Nat.le_trans (Nat.mul_le_mul_right _ (room_w hf hl (by assumption) hk (by simp only [List.length_drop]; omega))) (by decide)) | exact Nat.le_trans (room_w hf hl (by assumption) hk (by simp only [List.length_drop]; omega)) (by decide) | exact (ht _ (List.mem_of_getElem? (by assumption))).1 | exact (ht _ (List.mem_of_getElem? (by assumption))).2 | exact hv _ (List.mem_of_getElem? (by assumption)) _ (List.mem_of_getElem? (by assumption))) (by first | omega | assumption | (rw [wr64 (by omega) (by omega)]; omega) | (simp; omega) | exact (fitF_len _ _ _).trans hb | (refine Nat.le_trans (Nat.mul_le_mul_right _ (room_w hf hl (by assumption) hk (by simp only [List.length_drop]; omega))) (by decide)) | exact Nat.le_trans (room_w hf hl (by assumption) hk (by simp only [List.length_drop]; omega)) (by decide) | exact (ht _ (List.mem_of_getElem? (by assumption))).1 | exact (ht _ (List.mem_of_getElem? (by assumption))).2 | exact hv _ (List.mem_of_getElem? (by assumption)) _ (List.mem_of_getElem? (by assumption))) (by first | omega | assumption | (rw [wr64 (by omega) (by omega)]; omega) | (simp; omega) | exact (fitF_len _ _ _).trans hb | (refine Nat.le_trans (Nat.mul_le_mul_right _ (room_w hf hl (by assumption) hk (by simp only [List.length_drop]; omega))) (by decide)) | exact Nat.le_trans (room_w hf hl (by assumption) hk (by simp only [List.length_drop]; omega)) (by decide) | exact (ht _ (List.mem_of_getElem? (by assumption))).1 | exact (ht _ (List.mem_of_getElem? (by assumption))).2 | exact hv _ (List.mem_of_getElem? (by assumption)) _ (List.mem_of_getElem? (by assumption))) (by first | omega | assumption | (rw [wr64 (by omega) (by omega)]; omega) | (simp; omega) | exact (fitF_len _ _ _).trans hb | (refine Nat.le_trans (Nat.mul_le_mul_right _ (room_w hf hl (by assumption) hk (by simp only [List.length_drop]; omega))) (by decide)) | exact Nat.le_trans (room_w hf hl (by assumption) hk (by simp only [List.length_drop]; omega)) (by decide) | exact (ht _ (List.mem_of_getElem? (by assumption))).1 | exact (ht _ (List.mem_of_getElem? (by assumption))).2 | exact hv _ (List.mem_of_getElem? (by assumption)) _ (List.mem_of_getElem? (by assumption))) (by first | omega | assumption | (rw [wr64 (by omega) (by omega)]; omega) | (simp; omega) | exact (fitF_len _ _ _).trans hb | (refine Nat.le_trans (Nat.mul_le_mul_right _ (room_w hf hl (by assumption) hk (by simp only [List.length_drop]; omega))) (by decide)) | exact Nat.le_trans (room_w hf hl (by assumption) hk (by simp only [List.length_drop]; omega)) (by decide) | exact (ht _ (List.mem_of_getElem? (by assumption))).1 | exact (ht _ (List.mem_of_getElem? (by assumption))).2 | exact hv _ (List.mem_of_getElem? (by assumption)) _ (List.mem_of_getElem? (by assumption)))) rfl (.cons rfl (.agg (.cons .t0 (.cons .t0 .nil))) (.cons rfl (.c .t0) (.cons rfl (.c .t0) (.cons rfl (.c (.own rfl)) .nil)))) rfl rfl rfl) ?_
        refine r_op (o_appendD 1 (e := 60) (sz := 1) (by' := 24) rfl (by kernel_rfl) rfl rfl rfl rfl rfl rfl (by first | omega | assumption | (rw [wr64 (by omega) (by omega)]; omega) | (simp; omega) | exact (fitF_len _ _ _).trans hb | (refine Nat.le_trans (Nat.mul_le_mul_right _ (room_w hf hl (by assumption) hk (by simp only [List.length_drop]; omega))) (by decide)) | exact Nat.le_trans (room_w hf hl (by assumption) hk (by simp only [List.length_drop]; omega)) (by decide) | exact (ht _ (List.mem_of_getElem? (by assumption))).1 | exact (ht _ (List.mem_of_getElem? (by assumption))).2 | exact hv _ (List.mem_of_getElem? (by assumption)) _ (List.mem_of_getElem? (by assumption))) (by first | omega | assumption | (rw [wr64 (by omega) (by omega)]; omega) | (simp; omega) | exact (fitF_len _ _ _).trans hb | (refine Nat.le_trans (Nat.mul_le_mul_right _ (room_w hf hl (by assumption) hk (by simp only [List.length_drop]; omega))) (by decide)) | exact Nat.le_trans (room_w hf hl (by assumption) hk (by simp only [List.length_drop]; omega)) (by decide) | exact (ht _ (List.mem_of_getElem? (by assumption))).1 | exact (ht _ (List.mem_of_getElem? (by assumption))).2 | exact hv _ (List.mem_of_getElem? (by assumption)) _ (List.mem_of_getElem? (by assumption)))) ?_
        refine r_op (o_assign rfl rfl) ?_
        refine r_end ?_
        refine t_endblock ?_
        refine t_region ?_
        refine r_op (o_move rfl rfl) ?_
        refine r_op (o_bin rfl rfl rfl rfl) ?_
        refine r_op (o_assign rfl rfl) ?_
        refine r_end ?_
        refine t_le ?_ (ih0 (m + 1) (by (try dsimp only); omega) (by (try dsimp only); omega))
        exact ⟨⟨rfl, ⟨rfl, ⟨rfl, ⟨rfl, ⟨rfl, ⟨rfl, ⟨(eqI (wr64 (by omega) (by omega))), trivial⟩⟩⟩⟩⟩⟩⟩, ⟨rfl, ⟨(eqR (by first | exact walk_yes hz4 hz7 rfl (by assumption) (by rw [wr64 (by omega) (by omega)]; omega) rfl | exact walk_no hz4 hz7 rfl (by assumption))), trivial⟩⟩, rfl⟩
      ·
        have h9' := h9
        skip
        refine t_skip ?_
        refine t_endblock ?_
        refine t_region ?_
        refine r_op (o_move rfl rfl) ?_
        refine r_op (o_bin rfl rfl rfl rfl) ?_
        refine r_op (o_assign rfl rfl) ?_
        refine r_end ?_
        refine t_le ?_ (ih0 (m + 1) (by (try dsimp only); omega) (by (try dsimp only); omega))
        exact ⟨⟨rfl, ⟨rfl, ⟨rfl, ⟨rfl, ⟨rfl, ⟨rfl, ⟨(eqI (wr64 (by omega) (by omega))), trivial⟩⟩⟩⟩⟩⟩⟩, ⟨rfl, ⟨(eqR (by first | exact walk_yes hz4 hz7 rfl (by assumption) (by rw [wr64 (by omega) (by omega)]; omega) rfl | exact walk_no hz4 hz7 rfl (by assumption))), trivial⟩⟩, rfl⟩
    ·
      have h2' := h2
      try simp only [decide_eq_true_eq, decide_eq_false_iff_not, Bool.not_eq_true', Bool.not_eq_false', Bool.not_false, Bool.not_true] at h2'
      refine t_exit rfl ?_
      refine t_seq ?_
      refine t_region ?_
      refine r_op (o_move rfl rfl) ?_
      refine r_op (o_assign rfl rfl) ?_
      refine r_end ?_
      refine gt_as0 8 1 rfl rfl ?_
      refine t_ret Try.func99 (.tmp rfl .nil) rfl fun E S w u hI hd => ?_
      refine post_mk hI hd ?_ ⟨eqR ?_, trivial⟩ rfl rfl rfl <;> clear hI hd <;> (try clear ih0)
      all_goals first | rfl | (first | rfl | exact (walk_nil (by assumption)).symm | exact matchM_end (drop_ne (by assumption) hk) (by omega))
theorem c_spec_l11Walk (rs : Rels) (fs l : Atoms) (k : Int) (b : List Int) (hf : fs.length ≤ 30) (hl : l.length ≤ 3) (hb : b.length = 5) (hv : ∀ a ∈ l, ∀ f ∈ fs, a.1 = f.1 → a.2.length = f.2.length) (ht : ∀ a ∈ l, (∀ t ∈ a.2, -10 ≤ t ∧ t ≤ 4) ∧ a.2.length ≤ 4611686018427387904) (hk : 0 ≤ k ∧ k ≤ l.length) : Pu Try.prog 99 [.agg [.t none (.sl 3 (enS3 encS encI encB) (rs)), .t none (.sl 2 (enS2 encI (enSl 1 encI)) (fs))], .c (.t none (.sl 2 (enS2 encI (enSl 1 encI)) (l))), .c (.t none (.v (.int .i64 (k)))), .c (.t none (.sl 1 encI (b)))] [(0, some (.row none 60 true 1 (enSl 1 encI) (matchL fs (l.drop k.toNat) b)))] 1 (.c (.own 0)) := c_spec_l11Walk_n _ rs fs l k b hf hl hb hv ht hk rfl
set_option maxHeartbeats 1000000 in
set_option maxRecDepth 10000 in
theorem c_spec_HasExtension (rs : Rels) (fs l : Atoms) (b : List Int) (hrs : rs.length ≤ 4611686018427387904) (hfs : szS (fun (x : Int × (List (Int))) => (x.2).length) fs ≤ 1048576) (hll : szS (fun (x : Int × (List (Int))) => (x.2).length) l ≤ 1048576) (ho : ∀ z ∈ fs, ∀ x ∈ z.2, okI x) (hbl : b.length ≤ 1048576) : Pu Try.prog 41 [.agg [.t none (.sl 3 (enS3 encS encI encB) (rs)), .t none (.sl 2 (enS2 encI (enSl 1 encI)) (fs))], .c (.t none (.sl 2 (enS2 encI (enSl 1 encI)) (l))), .c (.t none (.sl 1 encI (b)))] [] 0 (.c (.t none (.v (.bool (hasE rs fs l b))))) := by
  refine pu_enter Try.func41 rfl (Nat.le_of_ble_eq_true rfl) fun w S => ?_
  have gl := sz_len (f := (fun (x : Int × (List (Int))) => (x.2).length)) (l := l)
  refine t_seq ?_
  refine t_region ?_
  refine r_op (o_box 0 rfl rfl rfl rfl) ?_
  refine r_op (o_assign rfl rfl) ?_
  refine r_end ?_
  refine t_seq ?_
  refine t_region ?_
  refine r_op (o_loadAb rfl (n := 2) (by kernel_rfl) (by kernel_rfl) rfl rfl rfl) ?_
  refine r_op (o_move rfl rfl) ?_
  refine r_op (o_call 1 1 false (Go.Proofs.enters_of Try.func98 (by kernel_rfl) rfl) (c_spec_l11Ok (rs) (fs) (l) (by first | omega | assumption | exact (mt_pre (by assumption)).1 | exact (mt_pre (by assumption)).2.1 | exact (mt_pre (by assumption)).2.2.1 | exact (mt_pre (by assumption)).2.2.2) (by first | omega | assumption | exact (mt_pre (by assumption)).1 | exact (mt_pre (by assumption)).2.1 | exact (mt_pre (by assumption)).2.2.1 | exact (mt_pre (by assumption)).2.2.2) (by first | omega | assumption | exact (mt_pre (by assumption)).1 | exact (mt_pre (by assumption)).2.1 | exact (mt_pre (by assumption)).2.2.1 | exact (mt_pre (by assumption)).2.2.2) (by first | omega | assumption | exact (mt_pre (by assumption)).1 | exact (mt_pre (by assumption)).2.1 | exact (mt_pre (by assumption)).2.2.1 | exact (mt_pre (by assumption)).2.2.2)) rfl (.cons rfl (.agg (.cons .t0 (.cons .t0 .nil))) (.cons rfl (.c .t0) .nil)) rfl rfl rfl) ?_
  refine r_op (o_move rfl rfl) ?_
  refine r_guard rfl rfl rfl (fun g1 => ?_) (fun g1 => ?_)
  ·
    have g1' := g1
    skip
    refine r_op (o_move rfl rfl) ?_
    refine r_guard rfl rfl rfl (fun _ => ?_) (fun h' => (Bool.noConfusion (g1.symm.trans h')))
    refine r_op (o_len rfl rfl rfl) ?_
    refine r_guard rfl rfl rfl (fun _ => ?_) (fun h' => (Bool.noConfusion (g1.symm.trans h')))
    refine r_op (o_bin rfl rfl rfl rfl) ?_
    refine r_op (o_pickT rfl rfl g1 rfl) ?_
    refine r_op (o_move rfl rfl) ?_
    refine r_guard rfl rfl rfl (fun g2 => ?_) (fun g2 => ?_)
    ·
      have g2' := g2
      try simp only [decide_eq_true_eq, decide_eq_false_iff_not, Bool.not_eq_true', Bool.not_eq_false', Bool.not_false, Bool.not_true] at g2'
      refine r_op (o_loadAb rfl (n := 2) (by kernel_rfl) (by kernel_rfl) rfl rfl rfl) ?_
      refine r_guard rfl rfl rfl (fun _ => ?_) (fun h' => (Bool.noConfusion (g2.symm.trans h')))
      refine r_op (o_move rfl rfl) ?_
      refine r_guard rfl rfl rfl (fun _ => ?_) (fun h' => (Bool.noConfusion (g2.symm.trans h')))
      refine r_op (o_move rfl rfl) ?_
      refine r_guard rfl rfl rfl (fun _ => ?_) (fun h' => (Bool.noConfusion (g2.symm.trans h')))
      refine r_op (o_call 1 2 false (Go.Proofs.enters_of Try.func99 (by kernel_rfl) rfl) (c_spec_l11Walk (rs) (fs) (l) (0) (b) (by first | omega | assumption | exact (mt_pre (by assumption)).1 | exact (mt_pre (by assumption)).2.1 | exact (mt_pre (by assumption)).2.2.1 | exact (mt_pre (by assumption)).2.2.2) (by first | omega | assumption | exact (mt_pre (by assumption)).1 | exact (mt_pre (by assumption)).2.1 | exact (mt_pre (by assumption)).2.2.1 | exact (mt_pre (by assumption)).2.2.2) (by first | omega | assumption | exact (mt_pre (by assumption)).1 | exact (mt_pre (by assumption)).2.1 | exact (mt_pre (by assumption)).2.2.1 | exact (mt_pre (by assumption)).2.2.2) (by first | omega | assumption | exact (mt_pre (by assumption)).1 | exact (mt_pre (by assumption)).2.1 | exact (mt_pre (by assumption)).2.2.1 | exact (mt_pre (by assumption)).2.2.2) (by first | omega | assumption | exact (mt_pre (by assumption)).1 | exact (mt_pre (by assumption)).2.1 | exact (mt_pre (by assumption)).2.2.1 | exact (mt_pre (by assumption)).2.2.2) (by first | omega | assumption | exact (mt_pre (by assumption)).1 | exact (mt_pre (by assumption)).2.1 | exact (mt_pre (by assumption)).2.2.1 | exact (mt_pre (by assumption)).2.2.2)) rfl (.cons rfl (.agg (.cons .t0 (.cons .t0 .nil))) (.cons rfl (.c .t0) (.cons rfl (.c .t0) (.cons rfl (.c .t0) .nil)))) rfl rfl rfl) ?_
      refine r_guard rfl rfl rfl (fun _ => ?_) (fun h' => (Bool.noConfusion (g2.symm.trans h')))
      refine r_op (o_leno rfl rfl rfl rfl) ?_
      refine r_guard rfl rfl rfl (fun _ => ?_) (fun h' => (Bool.noConfusion (g2.symm.trans h')))
      refine r_op (o_bin rfl rfl rfl rfl) ?_
      refine r_op (o_pickT rfl rfl g2 rfl) ?_
      refine r_op (o_assign rfl rfl) ?_
      refine r_end ?_
      refine t_ret Try.func41 (.tmp rfl .nil) rfl fun E S w u hI hd => ?_
      refine post_mk hI hd ?_ trivial rfl rfl rfl <;> clear hI hd
      all_goals first | rfl | (refine scB ?_; (try simp only [show (0 : Int).toNat = 0 from rfl, List.drop_zero] at *); clear hrs hfs hll ho gl; unfold hasE; grind)
    ·
      have g2' := g2
      try simp only [decide_eq_true_eq, decide_eq_false_iff_not, Bool.not_eq_true', Bool.not_eq_false', Bool.not_false, Bool.not_true] at g2'
      refine r_guard rfl rfl rfl (fun h' => (Bool.noConfusion (g2.symm.trans h'))) (fun _ => ?_)
      refine r_guard rfl rfl rfl (fun h' => (Bool.noConfusion (g2.symm.trans h'))) (fun _ => ?_)
      refine r_guard rfl rfl rfl (fun h' => (Bool.noConfusion (g2.symm.trans h'))) (fun _ => ?_)
      refine r_guard rfl rfl rfl (fun h' => (Bool.noConfusion (g2.symm.trans h'))) (fun _ => ?_)
      refine r_guard rfl rfl rfl (fun h' => (Bool.noConfusion (g2.symm.trans h'))) (fun _ => ?_)
      refine r_op (o_pickF rfl rfl g2 rfl) ?_
      refine r_op (o_assign rfl rfl) ?_
      refine r_end ?_
      refine t_ret Try.func41 (.tmp rfl .nil) rfl fun E S w u hI hd => ?_
      refine post_mk hI hd ?_ trivial rfl rfl rfl <;> clear hI hd
      all_goals first | rfl | (refine scB ?_; (try simp only [show (0 : Int).toNat = 0 from rfl, List.drop_zero] at *); clear hrs hfs hll ho gl; unfold hasE; grind)
  ·
    have g1' := g1
    skip
    refine r_guard rfl rfl rfl (fun h' => (Bool.noConfusion (g1.symm.trans h'))) (fun _ => ?_)
    refine r_guard rfl rfl rfl (fun h' => (Bool.noConfusion (g1.symm.trans h'))) (fun _ => ?_)
    refine r_op (o_pickF rfl rfl g1 rfl) ?_
    refine r_op (o_move rfl rfl) ?_
    refine r_guard rfl rfl rfl (fun h' => (Bool.noConfusion (rfl.symm.trans h'))) (fun _ => ?_)
    refine r_guard rfl rfl rfl (fun h' => (Bool.noConfusion (rfl.symm.trans h'))) (fun _ => ?_)
    refine r_guard rfl rfl rfl (fun h' => (Bool.noConfusion (rfl.symm.trans h'))) (fun _ => ?_)
    refine r_guard rfl rfl rfl (fun h' => (Bool.noConfusion (rfl.symm.trans h'))) (fun _ => ?_)
    refine r_guard rfl rfl rfl (fun h' => (Bool.noConfusion (rfl.symm.trans h'))) (fun _ => ?_)
    refine r_guard rfl rfl rfl (fun h' => (Bool.noConfusion (rfl.symm.trans h'))) (fun _ => ?_)
    refine r_op (o_pickF rfl rfl rfl rfl) ?_
    refine r_op (o_assign rfl rfl) ?_
    refine r_end ?_
    refine t_ret Try.func41 (.tmp rfl .nil) rfl fun E S w u hI hd => ?_
    refine post_mk hI hd ?_ trivial rfl rfl rfl <;> clear hI hd
    all_goals first | rfl | (refine scB ?_; (try simp only [show (0 : Int).toNat = 0 from rfl, List.drop_zero] at *); clear hrs hfs hll ho gl; unfold hasE; grind)
set_option maxHeartbeats 1000000 in
set_option maxRecDepth 10000 in
theorem c_impl_areMatchable (rs : Rels) (fs l : Atoms) (hrs : rs.length ≤ 4611686018427387904) (hfs : szS (fun (x : Int × (List (Int))) => (x.2).length) fs ≤ 1048576) (hll : szS (fun (x : Int × (List (Int))) => (x.2).length) l ≤ 1048576) (ho : ∀ z ∈ fs, ∀ x ∈ z.2, okI x) : Pu Try.prog 101 [.agg [.t none (.sl 3 (enS3 encS encI encB) (rs)), .t none (.sl 2 (enS2 encI (enSl 1 encI)) (fs))], .c (.t none (.sl 2 (enS2 encI (enSl 1 encI)) (l)))] [] 0 (.c (.t none (.v (.bool (mtOk rs fs l))))) := by
  refine pu_enter Try.func101 rfl (Nat.le_of_ble_eq_true rfl) fun w S => ?_
  have gl := sz_len (f := (fun (x : Int × (List (Int))) => (x.2).length)) (l := l)
  refine t_seq ?_
  refine t_region ?_
  refine r_op (o_box 0 rfl rfl rfl rfl) ?_
  refine r_op (o_assign rfl rfl) ?_
  refine r_end ?_
  refine t_seq ?_
  refine t_region ?_
  refine r_op (o_loadAb rfl (n := 2) (by kernel_rfl) (by kernel_rfl) rfl rfl rfl) ?_
  refine r_op (o_call 1 1 false (Go.Proofs.enters_of Try.func79 (by kernel_rfl) rfl) (c_impl_IsValidInstance (rs) (fs) (by first | omega | assumption) (by first | omega | assumption) (by first | omega | assumption)) rfl (.cons rfl (.agg (.cons .t0 (.cons .t0 .nil))) .nil) rfl rfl rfl) ?_
  refine r_op (o_move rfl rfl) ?_
  refine r_guard rfl rfl rfl (fun g1 => ?_) (fun g1 => ?_)
  ·
    have g1' := g1
    skip
    refine r_op (o_move rfl rfl) ?_
    refine r_guard rfl rfl rfl (fun _ => ?_) (fun h' => (Bool.noConfusion (g1.symm.trans h')))
    refine r_op (o_len rfl rfl rfl) ?_
    refine r_guard rfl rfl rfl (fun _ => ?_) (fun h' => (Bool.noConfusion (g1.symm.trans h')))
    refine r_op (o_bin rfl rfl rfl rfl) ?_
    refine r_guard rfl rfl rfl (fun _ => ?_) (fun h' => (Bool.noConfusion (g1.symm.trans h')))
    refine r_op (o_move rfl rfl) ?_
    refine r_guard rfl rfl rfl (fun g2 => ?_) (fun g2 => ?_)
    ·
      have g2' := g2
      try simp only [decide_eq_true_eq, decide_eq_false_iff_not, Bool.not_eq_true', Bool.not_eq_false', Bool.not_false, Bool.not_true] at g2'
      refine r_op (o_fieldb rfl (off := 0) (by kernel_rfl) rfl) ?_
      refine r_guard rfl rfl rfl (fun _ => ?_) (fun h' => (Bool.noConfusion (g2.symm.trans h')))
      refine r_op (o_load1b rfl (by kernel_rfl) rfl rfl rfl) ?_
      refine r_guard rfl rfl rfl (fun _ => ?_) (fun h' => (Bool.noConfusion (g2.symm.trans h')))
      refine r_op (o_move rfl rfl) ?_
      refine r_guard rfl rfl rfl (fun _ => ?_) (fun h' => (Bool.noConfusion (g2.symm.trans h')))
      refine r_op (o_call 1 1 false (Go.Proofs.enters_of Try.func67 (by kernel_rfl) rfl) (c_impl_areAtoms (rs) (l) (3) (by first | omega | assumption) (by first | omega | assumption)) rfl (.cons rfl (.c .t0) (.cons rfl (.c .t0) (.cons rfl (.c .t0) .nil))) rfl rfl rfl) ?_
      refine r_guard rfl rfl rfl (fun _ => ?_) (fun h' => (Bool.noConfusion (g1.symm.trans h')))
      refine r_op (o_pickF rfl rfl g2 rfl) ?_
      refine r_op (o_pickT rfl rfl g1 rfl) ?_
      refine r_op (o_assign rfl rfl) ?_
      refine r_end ?_
      refine t_ret Try.func101 (.tmp rfl .nil) rfl fun E S w u hI hd => ?_
      refine post_mk hI hd ?_ trivial rfl rfl rfl <;> clear hI hd
      all_goals first | rfl | (refine scB ?_; clear hrs hfs hll ho gl; unfold mtOk; (try unfold atomsOk at *); grind)
    ·
      have g2' := g2
      try simp only [decide_eq_true_eq, decide_eq_false_iff_not, Bool.not_eq_true', Bool.not_eq_false', Bool.not_false, Bool.not_true] at g2'
      refine r_guard rfl rfl rfl (fun h' => (Bool.noConfusion (g2.symm.trans h'))) (fun _ => ?_)
      refine r_guard rfl rfl rfl (fun h' => (Bool.noConfusion (g2.symm.trans h'))) (fun _ => ?_)
      refine r_guard rfl rfl rfl (fun h' => (Bool.noConfusion (g2.symm.trans h'))) (fun _ => ?_)
      refine r_guard rfl rfl rfl (fun _ => ?_) (fun h' => (Bool.noConfusion (g1.symm.trans h')))
      refine r_op (o_pickT rfl rfl g2 rfl) ?_
      refine r_op (o_pickT rfl rfl g1 rfl) ?_
      refine r_op (o_assign rfl rfl) ?_
      refine r_end ?_
      refine t_ret Try.func101 (.tmp rfl .nil) rfl fun E S w u hI hd => ?_
      refine post_mk hI hd ?_ trivial rfl rfl rfl <;> clear hI hd
      all_goals first | rfl | (refine scB ?_; clear hrs hfs hll ho gl; unfold mtOk; (try unfold atomsOk at *); grind)
  ·
    have g1' := g1
    skip
    refine r_guard rfl rfl rfl (fun h' => (Bool.noConfusion (g1.symm.trans h'))) (fun _ => ?_)
    refine r_guard rfl rfl rfl (fun h' => (Bool.noConfusion (g1.symm.trans h'))) (fun _ => ?_)
    refine r_guard rfl rfl rfl (fun h' => (Bool.noConfusion (g1.symm.trans h'))) (fun _ => ?_)
    refine r_skip rfl rfl rfl ?_
    refine r_skip rfl rfl rfl ?_
    refine r_skip rfl rfl rfl ?_
    refine r_skip rfl rfl rfl ?_
    refine r_guard rfl rfl rfl (fun h' => (Bool.noConfusion (g1.symm.trans h'))) (fun _ => ?_)
    refine r_op (o_pickF rfl rfl g1 rfl) ?_
    refine r_op (o_assign rfl rfl) ?_
    refine r_end ?_
    refine t_ret Try.func101 (.tmp rfl .nil) rfl fun E S w u hI hd => ?_
    refine post_mk hI hd ?_ trivial rfl rfl rfl <;> clear hI hd
    all_goals first | rfl | (refine scB ?_; clear hrs hfs hll ho gl; unfold mtOk; (try unfold atomsOk at *); grind)
set_option maxHeartbeats 1000000 in
set_option maxRecDepth 10000 in
theorem c_slices_Clone___int_int_ (l : List Int) (hl : l.length ≤ 1099511627776) : Pu Try.prog 103 [.c (.t none (.sl 1 encI (l)))] [(0, some (.row none 3 true 1 encI (l)))] 1 (.c (.own 0)) := by
  refine pu_enter Try.func103 rfl (Nat.le_of_ble_eq_true rfl) fun w S => ?_
  refine t_seq ?_
  refine t_region ?_
  refine r_op (o_assign rfl rfl) ?_
  refine r_end ?_
  refine t_seq ?_
  refine t_seq ?_
  refine t_region ?_
  refine r_op (o_move rfl rfl) ?_
  refine r_eqnil rfl rfl rfl (fun en1 => ?_) ?_
  ·
    refine r_end ?_
    refine t_cond rfl (fun _ => ?_) (fun h' => Bool.noConfusion (rfl.symm.trans h'))
    refine t_seq ?_
    refine t_region ?_
    refine r_op (o_assign rfl rfl) ?_
    refine r_end ?_
    refine gt_nil 0 (t := 2) (et := 3) (sz := 1) true encI rfl rfl ?_
    refine t_ret Try.func103 (.tmp rfl .nil) rfl fun E S w u hI hd => ?_
    refine post_mk hI hd ?_ ⟨eqR ?_, trivial⟩ rfl rfl rfl <;> clear hI hd
    all_goals first | rfl | (first | exact en1.symm | simp)
  ·
    refine r_end ?_
    refine t_cond rfl (fun h' => Bool.noConfusion (rfl.symm.trans h')) (fun _ => ?_)
    refine t_skip ?_
    refine t_seq ?_
    refine t_region ?_
    refine r_op (o_lit0 0 (e := 3) (sz := 1) (zs := [.int .i64 (0)]) encI rfl rfl (by kernel_rfl) rfl) ?_
    refine r_op (o_move rfl rfl) ?_
    refine r_op (o_appendS 0 (e := 3) (sz := 1) (by' := 8) rfl (by kernel_rfl) rfl rfl rfl rfl (fun _ _ => ⟨_, rfl⟩) (by first | omega | (simp; omega)) (by first | omega | (simp; omega))) ?_
    refine r_op (o_assign rfl rfl) ?_
    refine r_end ?_
    refine t_ret Try.func103 (.tmp rfl .nil) rfl fun E S w u hI hd => ?_
    refine post_mk hI hd ?_ ⟨eqR ?_, trivial⟩ rfl rfl rfl <;> clear hI hd
    all_goals first | rfl | (first | exact en1.symm | simp)
set_option maxHeartbeats 1000000 in
set_option maxRecDepth 10000 in
theorem c_impl_bind (b : List Int) (r : Int) (ts : List Int) (r2 : Int) (vs : List Int) (hb : b.length = 5) (ha : ts.length ≤ 4611686018427387904) (ht : ∀ t ∈ ts, -10 ≤ t ∧ t ≤ 4) (hv : r = r2 → ts.length = vs.length) : Pu Try.prog 156 [.c (.t none (.sl 1 encI (b))), .agg [.t none (.v (.int .i64 (r))), .t none (.sl 1 encI (ts))], .agg [.t none (.v (.int .i64 (r2))), .t none (.sl 1 encI (vs))]] [(0, some (.row none 3 true 1 encI (if (fitF (r, ts) (r2, vs) b).2 = true then (fitF (r, ts) (r2, vs) b).1 else [])))] 1 (.tup [(false, [.own 0]), (false, [.t none (.v (.bool ((fitF (r, ts) (r2, vs) b).2)))])]) := by
  refine pu_enter Try.func156 rfl (Nat.le_of_ble_eq_true rfl) fun w S => ?_
  refine t_seq ?_
  refine t_region ?_
  refine r_op (o_box 0 rfl rfl rfl rfl) ?_
  refine r_op (o_box 1 rfl rfl rfl rfl) ?_
  refine r_op (o_assign rfl rfl) ?_
  refine r_op (o_assign rfl rfl) ?_
  refine r_end ?_
  refine t_seq ?_
  refine t_seq ?_
  refine t_region ?_
  refine r_op (o_fieldb rfl (off := 0) (by kernel_rfl) rfl) ?_
  refine r_op (o_load1b rfl (by kernel_rfl) rfl rfl rfl) ?_
  refine r_op (o_fieldb rfl (off := 0) (by kernel_rfl) rfl) ?_
  refine r_op (o_load1b rfl (by kernel_rfl) rfl rfl rfl) ?_
  refine r_op (o_bin rfl rfl rfl rfl) ?_
  refine r_end ?_
  refine t_cond rfl (fun h1 => ?_) (fun h1 => ?_)
  ·
    have h1' := h1
    try simp only [decide_eq_true_eq, decide_eq_false_iff_not, Bool.not_eq_true', Bool.not_eq_false', Bool.not_false, Bool.not_true] at h1'
    refine t_seq ?_
    refine t_region ?_
    refine r_op (o_assign rfl rfl) ?_
    refine r_op (o_assign rfl rfl) ?_
    refine r_end ?_
    refine gt_nil 2 (t := 6) (et := 3) (sz := 1) true encI rfl rfl ?_
    refine gt_as0b 6 2 7 rfl rfl rfl rfl ?_
    refine t_ret Try.func156 (.tmp rfl (.tmp rfl .nil)) rfl fun E S w u hI hd => ?_
    refine post_mk hI hd ?_ ⟨eqR ?_, trivial⟩ rfl rfl rfl <;> clear hI hd <;> (try clear ih0)
    all_goals first | rfl | ((have e : fitF (r, ts) (r2, vs) b = _ := (by first | exact fitF_no (by omega) | exact fitF_yes (by omega) (fit_end i3 (by omega)) | exact fitF_yes (by omega) (fit_bad i3 (zip_at (by assumption) (by assumption) rfl rfl) (fs_neg_bad (by omega) (by (have o1 := ht _ (List.mem_of_getElem? (by assumption)); have o2 : IntKind.i64.wrap (-1 - (by assumption)) = -1 - (by assumption) := wr64 (by omega) (by omega); omega)))) | exact fitF_yes (by omega) (fit_bad i3 (zip_at (by assumption) (by assumption) rfl rfl) (fs_bad (by omega) (by assumption) (by omega) (by omega))) | exact fitF_yes (by omega) (fit_bad i3 (zip_at (by assumption) (by assumption) rfl rfl) (fs_neg_bad (by omega) (by (have o1 := ht _ (List.mem_of_getElem? (by assumption)); have o2 : IntKind.i64.wrap (-1 - (by assumption)) = -1 - (by assumption) := wr64 (by omega) (by omega); omega)))) | exact fitF_yes (by omega) (fit_bad i3 (zip_at (by assumption) (by assumption) rfl rfl) (fs_bad (by omega) (by assumption) (by omega) (by omega))) | exact fitF_yes (by omega) (fit_bad i3 (zip_at (by assumption) (by assumption) rfl rfl) (fs_neg_bad (by omega) (by (have o1 := ht _ (List.mem_of_getElem? (by assumption)); have o2 : IntKind.i64.wrap (-1 - (by assumption)) = -1 - (by assumption) := wr64 (by omega) (by omega); omega)))) | exact fitF_yes (by omega) (fit_bad i3 (zip_at (by assumption) (by assumption) rfl rfl) (fs_bad (by omega) (by assumption) (by omega) (by omega))))); first | (rw [e]; done) | (rw [e]; rfl) | (simp [e]; done))
  ·
    have h1' := h1
    try simp only [decide_eq_true_eq, decide_eq_false_iff_not, Bool.not_eq_true', Bool.not_eq_false', Bool.not_false, Bool.not_true] at h1'
    refine t_skip ?_
    refine t_seq ?_
    refine t_region ?_
    refine r_op (o_move rfl rfl) ?_
    refine r_op (o_call 2 3 false (Go.Proofs.enters_of Try.func103 (by kernel_rfl) rfl) (c_slices_Clone___int_int_ (b) (by first | omega | (have o1 := ht _ (List.mem_of_getElem? (by assumption)); omega) | (have e9 := hv (by omega); omega))) rfl (.cons rfl (.c .t0) .nil) rfl rfl rfl) ?_
    refine r_op (o_assign rfl rfl) ?_
    refine r_end ?_
    refine t_seq ?_
    refine t_seq ?_
    refine t_region ?_
    refine r_op (o_fieldb rfl (off := 1) (by kernel_rfl) rfl) ?_
    refine r_op (o_load1b rfl (by kernel_rfl) rfl rfl rfl) ?_
    refine r_op (o_len rfl rfl rfl) ?_
    refine r_op (o_move rfl rfl) ?_
    refine r_end ?_
    refine t_block ?_
    refine t_loopL (fun (m, q) => ⟨[(5, some (.c (.ptr 1 0))), (8, some (.c (.own 2))), (20, some (.c (.t none (.sl 1 encI (ts))))), (21, some (.c (.t none (.v (.int .i64 (((ts).length : Int))))))), (22, some (.c (.t none (.v (.int .i64 ((m : Int)))))))], [(0, some (.box [.t none (.v (.int .i64 (r))), .t none (.sl 1 encI (ts))])), (1, some (.box [.t none (.v (.int .i64 (r2))), .t none (.sl 1 encI (vs))])), (2, some (.row none 3 true 1 encI (q)))], 3⟩ : Nat × List Int → St) (fun (m, q) => m ≤ ts.length ∧ q.length = 5 ∧ fitP b ((ts.zip vs).take m) = (q, true)) (fun (m, q) => ts.length - m) (0, b) ⟨⟨rfl, ⟨rfl, ⟨rfl, ⟨rfl, ⟨rfl, trivial⟩⟩⟩⟩⟩, ⟨rfl, ⟨rfl, ⟨rfl, trivial⟩⟩⟩, rfl⟩ (by exact ⟨Nat.zero_le _, hb, rfl⟩) ?_
    rintro ⟨m, q⟩ hI ih0
    try dsimp only at hI ih0
    obtain ⟨i1, i2, i3⟩ := hI
    refine t_seq ?_
    refine t_region ?_
    refine r_op (o_bin rfl rfl rfl rfl) ?_
    refine r_end ?_
    refine t_seq ?_
    refine t_cond rfl (fun h2 => ?_) (fun h2 => ?_)
    ·
      have h2' := h2
      try simp only [decide_eq_true_eq, decide_eq_false_iff_not, Bool.not_eq_true', Bool.not_eq_false', Bool.not_false, Bool.not_true] at h2'
      refine t_skip ?_
      refine t_seq ?_
      refine t_block ?_
      refine t_seq ?_
      refine t_region ?_
      refine r_op (o_move rfl rfl) ?_
      obtain ⟨z3, hz4, b5⟩ := at_get (xs := ts) (n := (m : Int)) (by first | omega | (have o1 := ht _ (List.mem_of_getElem? (by assumption)); omega) | (have e9 := hv (by omega); omega)) (by first | omega | (have o1 := ht _ (List.mem_of_getElem? (by assumption)); omega) | (have e9 := hv (by omega); omega))
      refine r_op (o_index rfl (by kernel_rfl) rfl rfl b5 hz4) ?_
      refine r_op (o_load1 rfl (by kernel_rfl) rfl rfl) ?_
      refine r_op (o_assign rfl rfl) ?_
      refine r_op (o_assign rfl rfl) ?_
      refine r_end ?_
      refine t_seq ?_
      refine t_region ?_
      refine r_op (o_fieldb rfl (off := 1) (by kernel_rfl) rfl) ?_
      refine r_op (o_load1b rfl (by kernel_rfl) rfl rfl rfl) ?_
      refine r_op (o_move rfl rfl) ?_
      obtain ⟨z6, hz7, b8⟩ := at_get (xs := vs) (n := (m : Int)) (by first | omega | (have o1 := ht _ (List.mem_of_getElem? (by assumption)); omega) | (have e9 := hv (by omega); omega)) (by first | omega | (have o1 := ht _ (List.mem_of_getElem? (by assumption)); omega) | (have e9 := hv (by omega); omega))
      refine r_op (o_index rfl (by kernel_rfl) rfl rfl b8 hz7) ?_
      refine r_op (o_load1 rfl (by kernel_rfl) rfl rfl) ?_
      refine r_op (o_assign rfl rfl) ?_
      refine r_end ?_
      refine t_block ?_
      refine t_seq ?_
      refine t_region ?_
      refine r_op (o_move rfl rfl) ?_
      refine r_op (o_bin rfl rfl rfl rfl) ?_
      refine r_op (o_assign rfl rfl) ?_
      refine r_end ?_
      refine t_cond rfl (fun h9 => ?_) (fun h9 => ?_)
      ·
        have h9' := h9
        try simp only [decide_eq_true_eq, decide_eq_false_iff_not, Bool.not_eq_true', Bool.not_eq_false', Bool.not_false, Bool.not_true] at h9'
        refine t_seq ?_
        refine t_region ?_
        refine r_op (o_move rfl rfl) ?_
        refine r_op (o_move rfl rfl) ?_
        refine r_op (o_bin rfl rfl rfl rfl) ?_
        refine r_op (o_bin rfl rfl rfl rfl) ?_
        refine r_end ?_
        refine t_cond rfl (fun h10 => ?_) (fun h10 => ?_)
        ·
          have h10' := h10
          try simp only [decide_eq_true_eq, decide_eq_false_iff_not, Bool.not_eq_true', Bool.not_eq_false', Bool.not_false, Bool.not_true] at h10'
          refine t_seq ?_
          refine t_region ?_
          refine r_op (o_assign rfl rfl) ?_
          refine r_op (o_assign rfl rfl) ?_
          refine r_end ?_
          refine gt_nil 3 (t := 6) (et := 3) (sz := 1) true encI rfl rfl ?_
          refine gt_as0b 6 3 7 rfl rfl rfl rfl ?_
          refine t_ret Try.func156 (.tmp rfl (.tmp rfl .nil)) rfl fun E S w u hI hd => ?_
          refine post_mk hI hd ?_ ⟨eqR ?_, trivial⟩ rfl rfl rfl <;> clear hI hd <;> (try clear ih0)
          all_goals first | rfl | ((have e : fitF (r, ts) (r2, vs) b = _ := (by first | exact fitF_no (by omega) | exact fitF_yes (by omega) (fit_end i3 (by omega)) | exact fitF_yes (by omega) (fit_bad i3 (zip_at hz4 hz7 rfl rfl) (fs_neg_bad (by omega) (by (have o1 := ht _ (List.mem_of_getElem? hz4); have o2 : IntKind.i64.wrap (-1 - z3) = -1 - z3 := wr64 (by omega) (by omega); omega)))) | exact fitF_yes (by omega) (fit_bad i3 (zip_at hz4 hz7 rfl rfl) (fs_bad (by omega) (by assumption) (by omega) (by omega))) | exact fitF_yes (by omega) (fit_bad i3 (zip_at hz4 (by assumption) rfl rfl) (fs_neg_bad (by omega) (by (have o1 := ht _ (List.mem_of_getElem? hz4); have o2 : IntKind.i64.wrap (-1 - z3) = -1 - z3 := wr64 (by omega) (by omega); omega)))) | exact fitF_yes (by omega) (fit_bad i3 (zip_at hz4 (by assumption) rfl rfl) (fs_bad (by omega) hz7 (by omega) (by omega))) | exact fitF_yes (by omega) (fit_bad i3 (zip_at hz4 (by assumption) rfl rfl) (fs_neg_bad (by omega) (by (have o1 := ht _ (List.mem_of_getElem? hz4); have o2 : IntKind.i64.wrap (-1 - z3) = -1 - z3 := wr64 (by omega) (by omega); omega)))) | exact fitF_yes (by omega) (fit_bad i3 (zip_at hz4 (by assumption) rfl rfl) (fs_bad (by omega) hz7 (by omega) (by omega))))); first | (rw [e]; done) | (rw [e]; rfl) | (simp [e]; done))
        ·
          have h10' := h10
          try simp only [decide_eq_true_eq, decide_eq_false_iff_not, Bool.not_eq_true', Bool.not_eq_false', Bool.not_false, Bool.not_true] at h10'
          refine t_skip ?_
          refine t_endblock ?_
          refine t_endblock ?_
          refine t_region ?_
          refine r_op (o_bin rfl rfl rfl rfl) ?_
          refine r_op (o_move rfl rfl) ?_
          refine r_end ?_
          refine t_le ?_ (ih0 (m + 1, q) (by (try dsimp only); omega) (by (try dsimp only); exact ⟨by omega, (by first | exact i2 | (rw [List.length_set]; exact i2)), by first | exact fit_more i3 (zip_at hz4 hz7 rfl rfl) (fs_neg (by omega) (by (have o1 := ht _ (List.mem_of_getElem? hz4); have o2 : IntKind.i64.wrap (-1 - z3) = -1 - z3 := wr64 (by omega) (by omega); omega))) | exact fit_more i3 (zip_at hz4 hz7 rfl rfl) (fs_set (by omega) (by assumption) (by omega)) | exact fit_more i3 (zip_at hz4 hz7 rfl rfl) (fs_same (by omega) (by assumption) (by omega)) | exact fit_more i3 (zip_at hz4 (by assumption) rfl rfl) (fs_neg (by omega) (by (have o1 := ht _ (List.mem_of_getElem? hz4); have o2 : IntKind.i64.wrap (-1 - z3) = -1 - z3 := wr64 (by omega) (by omega); omega))) | exact fit_more i3 (zip_at hz4 (by assumption) rfl rfl) (fs_set (by omega) hz7 (by omega)) | exact fit_more i3 (zip_at hz4 (by assumption) rfl rfl) (fs_same (by omega) hz7 (by omega)) | exact fit_more i3 (zip_at hz4 (by assumption) rfl rfl) (fs_neg (by omega) (by (have o1 := ht _ (List.mem_of_getElem? hz4); have o2 : IntKind.i64.wrap (-1 - z3) = -1 - z3 := wr64 (by omega) (by omega); omega))) | exact fit_more i3 (zip_at hz4 (by assumption) rfl rfl) (fs_set (by omega) hz7 (by omega)) | exact fit_more i3 (zip_at hz4 (by assumption) rfl rfl) (fs_same (by omega) hz7 (by omega))⟩))
          exact ⟨⟨rfl, ⟨rfl, ⟨rfl, ⟨rfl, ⟨(eqI (wr64 (by omega) (by omega))), trivial⟩⟩⟩⟩⟩, ⟨rfl, ⟨rfl, ⟨rfl, trivial⟩⟩⟩, rfl⟩
      ·
        have h9' := h9
        try simp only [decide_eq_true_eq, decide_eq_false_iff_not, Bool.not_eq_true', Bool.not_eq_false', Bool.not_false, Bool.not_true] at h9'
        refine t_seq ?_
        refine t_region ?_
        refine r_op (o_move rfl rfl) ?_
        refine r_op (o_move rfl rfl) ?_
        obtain ⟨z11, hz12, b13⟩ := at_get (xs := q) (n := z3) (by first | omega | (have o1 := ht _ (List.mem_of_getElem? (by assumption)); omega) | (have e9 := hv (by omega); omega)) (by first | omega | (have o1 := ht _ (List.mem_of_getElem? (by assumption)); omega) | (have e9 := hv (by omega); omega))
        refine r_op (o_indexo rfl (by kernel_rfl) rfl rfl rfl b13 (at_lt b13 hz12)) ?_
        refine r_op (o_load1o rfl (by kernel_rfl) rfl rfl rfl hz12) ?_
        refine r_op (o_bin rfl rfl rfl rfl) ?_
        refine r_op (o_assign rfl rfl) ?_
        refine r_end ?_
        refine t_cond rfl (fun h14 => ?_) (fun h14 => ?_)
        ·
          have h14' := h14
          try simp only [decide_eq_true_eq, decide_eq_false_iff_not, Bool.not_eq_true', Bool.not_eq_false', Bool.not_false, Bool.not_true] at h14'
          refine t_region ?_
          refine r_op (o_move rfl rfl) ?_
          refine r_op (o_move rfl rfl) ?_
          refine r_op (o_move rfl rfl) ?_
          refine r_op (o_indexo rfl (by kernel_rfl) rfl rfl rfl b13 (at_lt b13 hz12)) ?_
          refine r_op (o_storeo (z6) (n := 1) (by kernel_rfl) rfl rfl hz12 rfl rfl rfl rfl (.cons .sc .nil) rfl (fun j h1 h2 => by simp at h1 h2; omega)) ?_
          refine r_end ?_
          refine t_endblock ?_
          refine t_endblock ?_
          refine t_region ?_
          refine r_op (o_bin rfl rfl rfl rfl) ?_
          refine r_op (o_move rfl rfl) ?_
          refine r_end ?_
          refine t_le ?_ (ih0 (m + 1, (q).set (z3).toNat (z6)) (by (try dsimp only); omega) (by (try dsimp only); exact ⟨by omega, (by first | exact i2 | (rw [List.length_set]; exact i2)), by first | exact fit_more i3 (zip_at hz4 hz7 rfl rfl) (fs_neg (by omega) (by (have o1 := ht _ (List.mem_of_getElem? hz4); have o2 : IntKind.i64.wrap (-1 - z3) = -1 - z3 := wr64 (by omega) (by omega); omega))) | exact fit_more i3 (zip_at hz4 hz7 rfl rfl) (fs_set (by omega) hz12 (by omega)) | exact fit_more i3 (zip_at hz4 hz7 rfl rfl) (fs_same (by omega) hz12 (by omega)) | exact fit_more i3 (zip_at hz4 hz12 rfl rfl) (fs_neg (by omega) (by (have o1 := ht _ (List.mem_of_getElem? hz4); have o2 : IntKind.i64.wrap (-1 - z3) = -1 - z3 := wr64 (by omega) (by omega); omega))) | exact fit_more i3 (zip_at hz4 hz12 rfl rfl) (fs_set (by omega) hz7 (by omega)) | exact fit_more i3 (zip_at hz4 hz12 rfl rfl) (fs_same (by omega) hz7 (by omega)) | exact fit_more i3 (zip_at hz4 (by assumption) rfl rfl) (fs_neg (by omega) (by (have o1 := ht _ (List.mem_of_getElem? hz4); have o2 : IntKind.i64.wrap (-1 - z3) = -1 - z3 := wr64 (by omega) (by omega); omega))) | exact fit_more i3 (zip_at hz4 (by assumption) rfl rfl) (fs_set (by omega) hz7 (by omega)) | exact fit_more i3 (zip_at hz4 (by assumption) rfl rfl) (fs_same (by omega) hz7 (by omega))⟩))
          exact ⟨⟨rfl, ⟨rfl, ⟨rfl, ⟨rfl, ⟨(eqI (wr64 (by omega) (by omega))), trivial⟩⟩⟩⟩⟩, ⟨rfl, ⟨rfl, ⟨rfl, trivial⟩⟩⟩, rfl⟩
        ·
          have h14' := h14
          try simp only [decide_eq_true_eq, decide_eq_false_iff_not, Bool.not_eq_true', Bool.not_eq_false', Bool.not_false, Bool.not_true] at h14'
          refine t_seq ?_
          refine t_region ?_
          refine r_op (o_move rfl rfl) ?_
          refine r_op (o_move rfl rfl) ?_
          refine r_op (o_indexo rfl (by kernel_rfl) rfl rfl rfl b13 (at_lt b13 hz12)) ?_
          refine r_op (o_load1o rfl (by kernel_rfl) rfl rfl rfl hz12) ?_
          refine r_op (o_move rfl rfl) ?_
          refine r_op (o_bin rfl rfl rfl rfl) ?_
          refine r_op (o_assign rfl rfl) ?_
          refine r_end ?_
          refine t_cond rfl (fun h15 => ?_) (fun h15 => ?_)
          ·
            have h15' := h15
            try simp only [decide_eq_true_eq, decide_eq_false_iff_not, Bool.not_eq_true', Bool.not_eq_false', Bool.not_false, Bool.not_true] at h15'
            refine t_seq ?_
            refine t_region ?_
            refine r_op (o_assign rfl rfl) ?_
            refine r_op (o_assign rfl rfl) ?_
            refine r_end ?_
            refine gt_nil 3 (t := 6) (et := 3) (sz := 1) true encI rfl rfl ?_
            refine gt_as0b 6 3 7 rfl rfl rfl rfl ?_
            refine t_ret Try.func156 (.tmp rfl (.tmp rfl .nil)) rfl fun E S w u hI hd => ?_
            refine post_mk hI hd ?_ ⟨eqR ?_, trivial⟩ rfl rfl rfl <;> clear hI hd <;> (try clear ih0)
            all_goals first | rfl | ((have e : fitF (r, ts) (r2, vs) b = _ := (by first | exact fitF_no (by omega) | exact fitF_yes (by omega) (fit_end i3 (by omega)) | exact fitF_yes (by omega) (fit_bad i3 (zip_at hz4 hz7 rfl rfl) (fs_neg_bad (by omega) (by (have o1 := ht _ (List.mem_of_getElem? hz4); have o2 : IntKind.i64.wrap (-1 - z3) = -1 - z3 := wr64 (by omega) (by omega); omega)))) | exact fitF_yes (by omega) (fit_bad i3 (zip_at hz4 hz7 rfl rfl) (fs_bad (by omega) hz12 (by omega) (by omega))) | exact fitF_yes (by omega) (fit_bad i3 (zip_at hz4 hz12 rfl rfl) (fs_neg_bad (by omega) (by (have o1 := ht _ (List.mem_of_getElem? hz4); have o2 : IntKind.i64.wrap (-1 - z3) = -1 - z3 := wr64 (by omega) (by omega); omega)))) | exact fitF_yes (by omega) (fit_bad i3 (zip_at hz4 hz12 rfl rfl) (fs_bad (by omega) hz7 (by omega) (by omega))) | exact fitF_yes (by omega) (fit_bad i3 (zip_at hz4 (by assumption) rfl rfl) (fs_neg_bad (by omega) (by (have o1 := ht _ (List.mem_of_getElem? hz4); have o2 : IntKind.i64.wrap (-1 - z3) = -1 - z3 := wr64 (by omega) (by omega); omega)))) | exact fitF_yes (by omega) (fit_bad i3 (zip_at hz4 (by assumption) rfl rfl) (fs_bad (by omega) hz7 (by omega) (by omega))))); first | (rw [e]; done) | (rw [e]; rfl) | (simp [e]; done))
          ·
            have h15' := h15
            try simp only [decide_eq_true_eq, decide_eq_false_iff_not, Bool.not_eq_true', Bool.not_eq_false', Bool.not_false, Bool.not_true] at h15'
            refine t_skip ?_
            refine t_endblock ?_
            refine t_endblock ?_
            refine t_region ?_
            refine r_op (o_bin rfl rfl rfl rfl) ?_
            refine r_op (o_move rfl rfl) ?_
            refine r_end ?_
            refine t_le ?_ (ih0 (m + 1, q) (by (try dsimp only); omega) (by (try dsimp only); exact ⟨by omega, (by first | exact i2 | (rw [List.length_set]; exact i2)), by first | exact fit_more i3 (zip_at hz4 hz7 rfl rfl) (fs_neg (by omega) (by (have o1 := ht _ (List.mem_of_getElem? hz4); have o2 : IntKind.i64.wrap (-1 - z3) = -1 - z3 := wr64 (by omega) (by omega); omega))) | exact fit_more i3 (zip_at hz4 hz7 rfl rfl) (fs_set (by omega) hz12 (by omega)) | exact fit_more i3 (zip_at hz4 hz7 rfl rfl) (fs_same (by omega) hz12 (by omega)) | exact fit_more i3 (zip_at hz4 hz12 rfl rfl) (fs_neg (by omega) (by (have o1 := ht _ (List.mem_of_getElem? hz4); have o2 : IntKind.i64.wrap (-1 - z3) = -1 - z3 := wr64 (by omega) (by omega); omega))) | exact fit_more i3 (zip_at hz4 hz12 rfl rfl) (fs_set (by omega) hz7 (by omega)) | exact fit_more i3 (zip_at hz4 hz12 rfl rfl) (fs_same (by omega) hz7 (by omega)) | exact fit_more i3 (zip_at hz4 (by assumption) rfl rfl) (fs_neg (by omega) (by (have o1 := ht _ (List.mem_of_getElem? hz4); have o2 : IntKind.i64.wrap (-1 - z3) = -1 - z3 := wr64 (by omega) (by omega); omega))) | exact fit_more i3 (zip_at hz4 (by assumption) rfl rfl) (fs_set (by omega) hz7 (by omega)) | exact fit_more i3 (zip_at hz4 (by assumption) rfl rfl) (fs_same (by omega) hz7 (by omega))⟩))
            exact ⟨⟨rfl, ⟨rfl, ⟨rfl, ⟨rfl, ⟨(eqI (wr64 (by omega) (by omega))), trivial⟩⟩⟩⟩⟩, ⟨rfl, ⟨rfl, ⟨rfl, trivial⟩⟩⟩, rfl⟩
    ·
      have h2' := h2
      try simp only [decide_eq_true_eq, decide_eq_false_iff_not, Bool.not_eq_true', Bool.not_eq_false', Bool.not_false, Bool.not_true] at h2'
      refine t_exit rfl ?_
      refine t_seq ?_
      refine t_region ?_
      refine r_op (o_move rfl rfl) ?_
      refine r_op (o_assign rfl rfl) ?_
      refine r_op (o_assign rfl rfl) ?_
      refine r_end ?_
      refine gt_as0b 6 2 7 rfl rfl rfl rfl ?_
      refine t_ret Try.func156 (.tmp rfl (.tmp rfl .nil)) rfl fun E S w u hI hd => ?_
      refine post_mk hI hd ?_ ⟨eqR ?_, trivial⟩ rfl rfl rfl <;> clear hI hd <;> (try clear ih0)
      all_goals first | rfl | ((have e : fitF (r, ts) (r2, vs) b = _ := (by first | exact fitF_no (by omega) | exact fitF_yes (by omega) (fit_end i3 (by omega)) | exact fitF_yes (by omega) (fit_bad i3 (zip_at (by assumption) (by assumption) rfl rfl) (fs_neg_bad (by omega) (by (have o1 := ht _ (List.mem_of_getElem? (by assumption)); have o2 : IntKind.i64.wrap (-1 - (by assumption)) = -1 - (by assumption) := wr64 (by omega) (by omega); omega)))) | exact fitF_yes (by omega) (fit_bad i3 (zip_at (by assumption) (by assumption) rfl rfl) (fs_bad (by omega) (by assumption) (by omega) (by omega))) | exact fitF_yes (by omega) (fit_bad i3 (zip_at (by assumption) (by assumption) rfl rfl) (fs_neg_bad (by omega) (by (have o1 := ht _ (List.mem_of_getElem? (by assumption)); have o2 : IntKind.i64.wrap (-1 - (by assumption)) = -1 - (by assumption) := wr64 (by omega) (by omega); omega)))) | exact fitF_yes (by omega) (fit_bad i3 (zip_at (by assumption) (by assumption) rfl rfl) (fs_bad (by omega) (by assumption) (by omega) (by omega))) | exact fitF_yes (by omega) (fit_bad i3 (zip_at (by assumption) (by assumption) rfl rfl) (fs_neg_bad (by omega) (by (have o1 := ht _ (List.mem_of_getElem? (by assumption)); have o2 : IntKind.i64.wrap (-1 - (by assumption)) = -1 - (by assumption) := wr64 (by omega) (by omega); omega)))) | exact fitF_yes (by omega) (fit_bad i3 (zip_at (by assumption) (by assumption) rfl rfl) (fs_bad (by omega) (by assumption) (by omega) (by omega))))); first | (rw [e]; done) | (rw [e]; rfl) | (simp [e]; done))
set_option maxHeartbeats 1000000 in
set_option maxRecDepth 10000 in
theorem c_impl_matches_n : ∀ (n : Nat) (U : Nat → Value) (fs l : Atoms) (b : List Int) (hf : fs.length ≤ 30) (hl : l.length ≤ 3) (hb : b.length = 5) (hv : ∀ a ∈ l, ∀ f ∈ fs, a.1 = f.1 → a.2.length = f.2.length) (ht : ∀ a ∈ l, (∀ t ∈ a.2, -10 ≤ t ∧ t ≤ 4) ∧ a.2.length ≤ 4611686018427387904) (hn : l.length = n), Mu Try.prog 102 [.c (.t none (.sl 2 (enS2 encI (enSl 1 encI)) (fs))), .c (.t none (.sl 2 (enS2 encI (enSl 1 encI)) (l))), .c (.own 0)] [(0, some (.row (some (U 0)) 3 true 1 encI (b)))] 1 [(0, some (.row none 60 true 1 (enSl 1 encI) (matchL fs l b)))] 1 (.c (.own 0)) := by
  refine rec_on fun n ih => ?_
  intro U fs l b hf hl hb hv ht hn
  have rec_ : ∀ (U : Nat → Value) (fs l : Atoms) (b : List Int) (hdec : l.length < n) (hf : fs.length ≤ 30) (hl : l.length ≤ 3) (hb : b.length = 5) (hv : ∀ a ∈ l, ∀ f ∈ fs, a.1 = f.1 → a.2.length = f.2.length) (ht : ∀ a ∈ l, (∀ t ∈ a.2, -10 ≤ t ∧ t ≤ 4) ∧ a.2.length ≤ 4611686018427387904), Mu Try.prog 102 [.c (.t none (.sl 2 (enS2 encI (enSl 1 encI)) (fs))), .c (.t none (.sl 2 (enS2 encI (enSl 1 encI)) (l))), .c (.own 0)] [(0, some (.row (some (U 0)) 3 true 1 encI (b)))] 1 [(0, some (.row none 60 true 1 (enSl 1 encI) (matchL fs l b)))] 1 (.c (.own 0)) := fun U fs l b hdec hf hl hb hv ht => ih _ hdec U fs l b hf hl hb hv ht rfl
  refine mu_enter Try.func102 rfl (Nat.le_of_ble_eq_true rfl) fun w S M => ?_
  refine t_seq ?_
  refine t_region ?_
  refine r_op (o_assign rfl rfl) ?_
  refine r_end ?_
  refine t_seq ?_
  refine t_seq ?_
  refine t_region ?_
  refine r_op (o_move rfl rfl) ?_
  refine r_op (o_len rfl rfl rfl) ?_
  refine r_op (o_bin rfl rfl rfl rfl) ?_
  refine r_end ?_
  refine t_cond rfl (fun h1 => ?_) (fun h1 => ?_)
  ·
    have h1' := h1
    try simp only [decide_eq_true_eq, decide_eq_false_iff_not, Bool.not_eq_true', Bool.not_eq_false', Bool.not_false, Bool.not_true] at h1'
    refine t_seq ?_
    refine t_region ?_
    refine r_op (o_move rfl rfl) ?_
    refine r_op (o_lit2 1 (e := 60) (sz := 1) (zs := [.slice none 0 0]) (enc := (enSl 1 encI)) (b) rfl rfl (by kernel_rfl) rfl rfl rfl rfl rfl rfl (.take (.own rfl) rfl .nil) rfl) ?_
    refine r_op (o_assign rfl rfl) ?_
    refine r_end ?_
    refine gt_as0 6 1 rfl rfl ?_
    refine t_ret Try.func102 (.tmp rfl .nil) rfl fun E S w u hI hd => ?_
    refine postM_mk hI hd ?_ ⟨eqR ?_, trivial⟩ rfl rfl <;> clear hI hd <;> (try clear ih0)
    all_goals first | rfl | (first | rfl | exact (matchL_nil (by assumption)).symm | exact matchM_end (ne_nil_of (by assumption)) (by omega))
  ·
    have h1' := h1
    try simp only [decide_eq_true_eq, decide_eq_false_iff_not, Bool.not_eq_true', Bool.not_eq_false', Bool.not_false, Bool.not_true] at h1'
    refine t_skip ?_
    refine t_seq ?_
    refine t_region ?_
    refine r_op (o_lit0 1 (e := 60) (sz := 1) (zs := [.slice none 0 0]) (enSl 1 encI) rfl rfl (by kernel_rfl) rfl) ?_
    refine r_op (o_assign rfl rfl) ?_
    refine r_end ?_
    refine t_seq ?_
    refine t_seq ?_
    refine t_region ?_
    refine r_op (o_move rfl rfl) ?_
    refine r_op (o_len rfl rfl rfl) ?_
    refine r_op (o_move rfl rfl) ?_
    refine r_end ?_
    refine t_block ?_
    refine t_loopL (fun m => ⟨[(0, some (.c (.t none (.sl 2 (enS2 encI (enSl 1 encI)) (fs))))), (1, some (.c (.t none (.sl 2 (enS2 encI (enSl 1 encI)) (l))))), (2, some (.c (.own 0))), (6, some (.c (.t none (.v (.slice none 0 0))))), (7, some (.c (.own 1))), (18, some (.c (.t none (.sl 2 (enS2 encI (enSl 1 encI)) (fs))))), (19, some (.c (.t none (.v (.int .i64 (((fs).length : Int))))))), (20, some (.c (.t none (.v (.int .i64 ((m : Int)))))))], [(0, some (.row (some (U 0)) 3 true 1 encI (b))), (1, some (.row none 60 true 1 (enSl 1 encI) (matchM fs l b m)))], 2⟩ : Nat → St) (fun m => m ≤ fs.length) (fun m => fs.length - m) 0 ⟨⟨rfl, ⟨rfl, ⟨rfl, ⟨rfl, ⟨rfl, ⟨rfl, ⟨rfl, ⟨rfl, trivial⟩⟩⟩⟩⟩⟩⟩⟩, ⟨rfl, ⟨(eqR (matchM_z (by assumption)).symm), trivial⟩⟩, rfl⟩ (by exact Nat.zero_le _) ?_
    rintro m hI ih0
    try dsimp only at hI ih0
    have i1 := hI
    refine t_seq ?_
    refine t_region ?_
    refine r_op (o_bin rfl rfl rfl rfl) ?_
    refine r_end ?_
    refine t_seq ?_
    refine t_cond rfl (fun h2 => ?_) (fun h2 => ?_)
    ·
      have h2' := h2
      try simp only [decide_eq_true_eq, decide_eq_false_iff_not, Bool.not_eq_true', Bool.not_eq_false', Bool.not_false, Bool.not_true] at h2'
      refine t_skip ?_
      refine t_seq ?_
      refine t_block ?_
      refine t_seq ?_
      refine t_region ?_
      obtain ⟨z3, hz4, b5⟩ := at_get (xs := fs) (n := (m : Int)) (by first | omega | (simp only [List.length_drop, List.length_take]; omega) | (rw [if_pos (by assumption)]; exact (fitF_len _ _ _).trans hb) | (refine Nat.le_trans (Nat.mul_le_mul_right _ (room_m hf hl (ne_nil_of (by assumption)) (by simp only [List.length_drop, List.length_take]; omega))) (by decide)) | exact Nat.le_trans (room_m hf hl (ne_nil_of (by assumption)) (by simp only [List.length_drop, List.length_take]; omega)) (by decide) | exact fun a ha => hv a (mem_tail ha) | exact fun a ha => ht a (mem_tail ha) | exact (ht _ (List.mem_of_getElem? (by assumption))).1 | exact (ht _ (List.mem_of_getElem? (by assumption))).2 | exact hv _ (List.mem_of_getElem? (by assumption)) _ (List.mem_of_getElem? (by assumption))) (by first | omega | (simp only [List.length_drop, List.length_take]; omega) | (rw [if_pos (by assumption)]; exact (fitF_len _ _ _).trans hb) | (refine Nat.le_trans (Nat.mul_le_mul_right _ (room_m hf hl (ne_nil_of (by assumption)) (by simp only [List.length_drop, List.length_take]; omega))) (by decide)) | exact Nat.le_trans (room_m hf hl (ne_nil_of (by assumption)) (by simp only [List.length_drop, List.length_take]; omega)) (by decide) | exact fun a ha => hv a (mem_tail ha) | exact fun a ha => ht a (mem_tail ha) | exact (ht _ (List.mem_of_getElem? (by assumption))).1 | exact (ht _ (List.mem_of_getElem? (by assumption))).2 | exact hv _ (List.mem_of_getElem? (by assumption)) _ (List.mem_of_getElem? (by assumption)))
      refine r_op (o_index rfl (by kernel_rfl) rfl rfl b5 hz4) ?_
      refine r_op (o_loadA rfl (n := 2) (by kernel_rfl) (by kernel_rfl) rfl rfl) ?_
      refine r_op (o_alloc 2 (zs := [.int .i64 (0), .slice none 0 0]) rfl rfl (by kernel_rfl) rfl) ?_
      refine r_op (o_storeb (n := 2) (by kernel_rfl) rfl rfl rfl rfl rfl rfl) ?_
      refine r_end ?_
      refine t_seq ?_
      refine t_draw (fun _ => true) (by kernel_rfl) ?_
      refine d_take 0 rfl rfl (by kernel_rfl) (by kernel_rfl) (by kernel_rfl) (p_move rfl) ?_
      refine d_take 1 rfl rfl (by kernel_rfl) (by kernel_rfl) (by kernel_rfl) (p_move rfl) ?_
      obtain ⟨z6, hz7, b8⟩ := at_get (xs := l) (n := 0) (by first | omega | (simp only [List.length_drop, List.length_take]; omega) | (rw [if_pos (by assumption)]; exact (fitF_len _ _ _).trans hb) | (refine Nat.le_trans (Nat.mul_le_mul_right _ (room_m hf hl (ne_nil_of (by assumption)) (by simp only [List.length_drop, List.length_take]; omega))) (by decide)) | exact Nat.le_trans (room_m hf hl (ne_nil_of (by assumption)) (by simp only [List.length_drop, List.length_take]; omega)) (by decide) | exact fun a ha => hv a (mem_tail ha) | exact fun a ha => ht a (mem_tail ha) | exact (ht _ (List.mem_of_getElem? (by assumption))).1 | exact (ht _ (List.mem_of_getElem? (by assumption))).2 | exact hv _ (List.mem_of_getElem? (by assumption)) _ (List.mem_of_getElem? (by assumption))) (by first | omega | (simp only [List.length_drop, List.length_take]; omega) | (rw [if_pos (by assumption)]; exact (fitF_len _ _ _).trans hb) | (refine Nat.le_trans (Nat.mul_le_mul_right _ (room_m hf hl (ne_nil_of (by assumption)) (by simp only [List.length_drop, List.length_take]; omega))) (by decide)) | exact Nat.le_trans (room_m hf hl (ne_nil_of (by assumption)) (by simp only [List.length_drop, List.length_take]; omega)) (by decide) | exact fun a ha => hv a (mem_tail ha) | exact fun a ha => ht a (mem_tail ha) | exact (ht _ (List.mem_of_getElem? (by assumption))).1 | exact (ht _ (List.mem_of_getElem? (by assumption))).2 | exact hv _ (List.mem_of_getElem? (by assumption)) _ (List.mem_of_getElem? (by assumption)))
      refine d_take 2 rfl rfl (by kernel_rfl) (by kernel_rfl) (by kernel_rfl) (p_index (by kernel_rfl) rfl rfl b8 hz7) ?_
      refine d_take 3 rfl rfl (by kernel_rfl) (by kernel_rfl) (by kernel_rfl) (p_loadA (n := 2) (by kernel_rfl) (by kernel_rfl) rfl rfl) ?_
      refine d_take 4 rfl rfl (by kernel_rfl) (by kernel_rfl) (by kernel_rfl) (p_loadAb (n := 2) (by kernel_rfl) (by kernel_rfl) rfl rfl rfl) ?_
      refine d_only 5 rfl (by kernel_rfl) rfl (o_call 3 4 false (Go.Proofs.enters_of Try.func156 (by kernel_rfl) rfl) (c_impl_bind (b) (z6.1) (z6.2) (z3.1) (z3.2) (by first | omega | (simp only [List.length_drop, List.length_take]; omega) | (rw [if_pos (by assumption)]; exact (fitF_len _ _ _).trans hb) | (refine Nat.le_trans (Nat.mul_le_mul_right _ (room_m hf hl (ne_nil_of (by assumption)) (by simp only [List.length_drop, List.length_take]; omega))) (by decide)) | exact Nat.le_trans (room_m hf hl (ne_nil_of (by assumption)) (by simp only [List.length_drop, List.length_take]; omega)) (by decide) | exact fun a ha => hv a (mem_tail ha) | exact fun a ha => ht a (mem_tail ha) | exact (ht _ (List.mem_of_getElem? (by assumption))).1 | exact (ht _ (List.mem_of_getElem? (by assumption))).2 | exact hv _ (List.mem_of_getElem? (by assumption)) _ (List.mem_of_getElem? (by assumption))) (by first | omega | (simp only [List.length_drop, List.length_take]; omega) | (rw [if_pos (by assumption)]; exact (fitF_len _ _ _).trans hb) | (refine Nat.le_trans (Nat.mul_le_mul_right _ (room_m hf hl (ne_nil_of (by assumption)) (by simp only [List.length_drop, List.length_take]; omega))) (by decide)) | exact Nat.le_trans (room_m hf hl (ne_nil_of (by assumption)) (by simp only [List.length_drop, List.length_take]; omega)) (by decide) | exact fun a ha => hv a (mem_tail ha) | exact fun a ha => ht a (mem_tail ha) | exact (ht _ (List.mem_of_getElem? (by assumption))).1 | exact (ht _ (List.mem_of_getElem? (by assumption))).2 | exact hv _ (List.mem_of_getElem? (by assumption)) _ (List.mem_of_getElem? (by assumption))) (by first | omega | (simp only [List.length_drop, List.length_take]; omega) | (rw [if_pos (by assumption)]; exact (fitF_len _ _ _).trans hb) | (refine Nat.le_trans (Nat.mul_le_mul_right _ (room_m hf hl (ne_nil_of (by assumption)) (by simp only [List.length_drop, List.length_take]; omega))) (by decide)) | exact Nat.le_trans (room_m hf hl (ne_nil_of (by assumption)) (by simp only [List.length_drop, List.length_take]; omega)) (by decide) | exact fun a ha => hv a (mem_tail ha) | exact fun a ha => ht a (mem_tail ha) | exact (ht _ (List.mem_of_getElem? (by assumption))).1 | exact (ht _ (List.mem_of_getElem? (by assumption))).2 | exact hv _ (List.mem_of_getElem? (by assumption)) _ (List.mem_of_getElem? (by assumption))) (by first | omega | (simp only [List.length_drop, List.length_take]; omega) | (rw [if_pos (by assumption)]; exact (fitF_len _ _ _).trans hb) | (refine Nat.le_trans (Nat.mul_le_mul_right _ (room_m hf hl (ne_nil_of (by assumption)) (by simp only [List.length_drop, List.length_take]; omega))) (by decide)) | exact Nat.le_trans (room_m hf hl (ne_nil_of (by assumption)) (by simp only [List.length_drop, List.length_take]; omega)) (by decide) | exact fun a ha => hv a (mem_tail ha) | exact fun a ha => ht a (mem_tail ha) | exact (ht _ (List.mem_of_getElem? (by assumption))).1 | exact (ht _ (List.mem_of_getElem? (by assumption))).2 | exact hv _ (List.mem_of_getElem? (by assumption)) _ (List.mem_of_getElem? (by assumption)))) rfl (.cons rfl (.c (.own rfl)) (.cons rfl (.agg (.cons .t0 (.cons .t0 .nil))) (.cons rfl (.agg (.cons .t0 (.cons .t0 .nil))) .nil))) rfl rfl rfl) ?_
      refine d_take 6 rfl rfl (by kernel_rfl) (by kernel_rfl) (by kernel_rfl) (p_move rfl) ?_
      refine d_take 7 rfl rfl (by kernel_rfl) (by kernel_rfl) (by kernel_rfl) (p_extract rfl rfl rfl) ?_
      refine d_take 8 rfl rfl (by kernel_rfl) (by kernel_rfl) (by kernel_rfl) (p_extract rfl rfl rfl) ?_
      refine d_take 9 rfl rfl (by kernel_rfl) (by kernel_rfl) (by kernel_rfl) (p_assign rfl) ?_
      refine d_take 10 rfl rfl (by kernel_rfl) (by kernel_rfl) (by kernel_rfl) (p_assign rfl) ?_
      refine d_end (by kernel_rfl) ?_
      refine t_seq ?_
      refine t_region ?_
      refine r_op (o_move rfl rfl) ?_
      refine r_end ?_
      refine t_cond rfl (fun h9 => ?_) (fun h9 => ?_)
      ·
        have h9' := h9
        skip
        refine t_region ?_
        refine r_op (o_move rfl rfl) ?_
        refine r_op (o_move rfl rfl) ?_
        refine r_op (o_move rfl rfl) ?_
        refine r_op (o_sub rfl (by kernel_rfl) rfl (.l rfl (by first | omega | (simp only [List.length_drop, List.length_take]; omega) | (rw [if_pos (by assumption)]; exact (fitF_len _ _ _).trans hb) | (refine Nat.le_trans (Nat.mul_le_mul_right _ (room_m hf hl (ne_nil_of (by assumption)) (by simp only [List.length_drop, List.length_take]; omega))) (by decide)) | exact Nat.le_trans (room_m hf hl (ne_nil_of (by assumption)) (by simp only [List.length_drop, List.length_take]; omega)) (by decide) | exact fun a ha => hv a (mem_tail ha) | exact fun a ha => ht a (mem_tail ha) | exact (ht _ (List.mem_of_getElem? (by assumption))).1 | exact (ht _ (List.mem_of_getElem? (by assumption))).2 | exact hv _ (List.mem_of_getElem? (by assumption)) _ (List.mem_of_getElem? (by assumption))) (by first | omega | (simp only [List.length_drop, List.length_take]; omega) | (rw [if_pos (by assumption)]; exact (fitF_len _ _ _).trans hb) | (refine Nat.le_trans (Nat.mul_le_mul_right _ (room_m hf hl (ne_nil_of (by assumption)) (by simp only [List.length_drop, List.length_take]; omega))) (by decide)) | exact Nat.le_trans (room_m hf hl (ne_nil_of (by assumption)) (by simp only [List.length_drop, List.length_take]; omega)) (by decide) | exact fun a ha => hv a (mem_tail ha) | exact fun a ha => ht a (mem_tail ha) | exact (ht _ (List.mem_of_getElem? (by assumption))).1 | exact (ht _ (List.mem_of_getElem? (by assumption))).2 | exact hv _ (List.mem_of_getElem? (by assumption)) _ (List.mem_of_getElem? (by assumption))))) ?_
        refine r_op (o_move rfl rfl) ?_
        refine r_op (o_callD 3 (matchL (fs) (((l).take (l).length).drop ((1 : Int)).toNat) (if (fitF ((z6.1), (z6.2)) ((z3.1), (z3.2)) (b)).2 = true then (fitF ((z6.1), (z6.2)) ((z3.1), (z3.2)) (b)).1 else [])) (Go.Proofs.enters_of Try.func102 (by kernel_rfl) rfl) (fun U => rec_ U  (fs) (((l).take (l).length).drop ((1 : Int)).toNat) (if (fitF ((z6.1), (z6.2)) ((z3.1), (z3.2)) (b)).2 = true then (fitF ((z6.1), (z6.2)) ((z3.1), (z3.2)) (b)).1 else []) (by first | omega | (simp only [List.length_drop, List.length_take]; omega) | (rw [if_pos (by assumption)]; exact (fitF_len _ _ _).trans hb) | (refine Nat.le_trans (Nat.mul_le_mul_right _ (room_m hf hl (ne_nil_of (by assumption)) (by simp only [List.length_drop, List.length_take]; omega))) (by decide)) | exact Nat.le_trans (room_m hf hl (ne_nil_of (by assumption)) (by simp only [List.length_drop, List.length_take]; omega)) (by decide) | exact fun a ha => hv a (mem_tail ha) | exact fun a ha => ht a (mem_tail ha) | exact (ht _ (List.mem_of_getElem? (by assumption))).1 | exact (ht _ (List.mem_of_getElem? (by assumption))).2 | exact hv _ (List.mem_of_getElem? (by assumption)) _ (List.mem_of_getElem? (by assumption))) (by first | omega | (simp only [List.length_drop, List.length_take]; omega) | (rw [if_pos (by assumption)]; exact (fitF_len _ _ _).trans hb) | (refine Nat.le_trans (Nat.mul_le_mul_right _ (room_m hf hl (ne_nil_of (by assumption)) (by simp only [List.length_drop, List.length_take]; omega))) (by decide)) | exact Nat.le_trans (room_m hf hl (ne_nil_of (by assumption)) (by simp only [List.length_drop, List.length_take]; omega)) (by decide) | exact fun a ha => hv a (mem_tail ha) | exact fun a ha => ht a (mem_tail ha) | exact (ht _ (List.mem_of_getElem? (by assumption))).1 | exact (ht _ (List.mem_of_getElem? (by assumption))).2 | exact hv _ (List.mem_of_getElem? (by assumption)) _ (List.mem_of_getElem? (by assumption))) (by first | omega | (simp only [List.length_drop, List.length_take]; omega) | (rw [if_pos (by assumption)]; exact (fitF_len _ _ _).trans hb) | (refine Nat.le_trans (Nat.mul_le_mul_right _ (room_m hf hl (ne_nil_of (by assumption)) (by simp only [List.length_drop, List.length_take]; omega))) (by decide)) | exact Nat.le_trans (room_m hf hl (ne_nil_of (by assumption)) (by simp only [List.length_drop, List.length_take]; omega)) (by decide) | exact fun a ha => hv a (mem_tail ha) | exact fun a ha => ht a (mem_tail ha) | exact (ht _ (List.mem_of_getElem? (by assumption))).1 | exact (ht _ (List.mem_of_getElem? (by assumption))).2 | exact hv _ (List.mem_of_getElem? (by assumption)) _ (List.mem_of_getElem? (by assumption))) (by first | omega | (simp only [List.length_drop, List.length_take]; omega) | (rw [if_pos (by assumption)]; exact (fitF_len _ _ _).trans hb) | (refine Nat.le_trans (Nat.mul_le_mul_right _ (room_m hf hl (ne_nil_of (by assumption)) (by simp only [List.length_drop, List.length_take]; omega))) (by decide)) | exact Nat.le_trans (room_m hf hl (ne_nil_of (by assumption)) (by simp only [List.length_drop, List.length_take]; omega)) (by decide) | exact fun a ha => hv a (mem_tail ha) | exact fun a ha => ht a (mem_tail ha) | exact (ht _ (List.mem_of_getElem? (by assumption))).1 | exact (ht _ (List.mem_of_getElem? (by assumption))).2 | exact hv _ (List.mem_of_getElem? (by assumption)) _ (List.mem_of_getElem? (by assumption))) (by first | omega | (simp only [List.length_drop, List.length_take]; omega) | (rw [if_pos (by assumption)]; exact (fitF_len _ _ _).trans hb) | (refine Nat.le_trans (Nat.mul_le_mul_right _ (room_m hf hl (ne_nil_of (by assumption)) (by simp only [List.length_drop, List.length_take]; omega))) (by decide)) | exact Nat.le_trans (room_m hf hl (ne_nil_of (by assumption)) (by simp only [List.length_drop, List.length_take]; omega)) (by decide) | exact fun a ha => hv a (mem_tail ha) | exact fun a ha => ht a (mem_tail ha) | exact (ht _ (List.mem_of_getElem? (by assumption))).1 | exact (ht _ (List.mem_of_getElem? (by assumption))).2 | exact hv _ (List.mem_of_getElem? (by assumption)) _ (List.mem_of_getElem? (by assumption))) (by first | omega | (simp only [List.length_drop, List.length_take]; omega) | (rw [if_pos (by assumption)]; exact (fitF_len _ _ _).trans hb) | (refine Nat.le_trans (Nat.mul_le_mul_right _ (room_m hf hl (ne_nil_of (by assumption)) (by simp only [List.length_drop, List.length_take]; omega))) (by decide)) | exact Nat.le_trans (room_m hf hl (ne_nil_of (by assumption)) (by simp only [List.length_drop, List.length_take]; omega)) (by decide) | exact fun a ha => hv a (mem_tail ha) | exact fun a ha => ht a (mem_tail ha) | exact (ht _ (List.mem_of_getElem? (by assumption))).1 | exact (ht _ (List.mem_of_getElem? (by assumption))).2 | exact hv _ (List.mem_of_getElem? (by assumption)) _ (List.mem_of_getElem? (by assumption)))) rfl rfl (.cons rfl .t0 (.cons rfl .t0 (.cons rfl (.own rfl) .nil)))) ?_
        refine r_op (o_appendD 1 (e := 60) (sz := 1) (by' := 24) rfl (by kernel_rfl) rfl rfl rfl rfl rfl rfl (by first | omega | (simp only [List.length_drop, List.length_take]; omega) | (rw [if_pos (by assumption)]; exact (fitF_len _ _ _).trans hb) | (refine Nat.le_trans (Nat.mul_le_mul_right _ (room_m hf hl (ne_nil_of (by assumption)) (by simp only [List.length_drop, List.length_take]; omega))) (by decide)) | exact Nat.le_trans (room_m hf hl (ne_nil_of (by assumption)) (by simp only [List.length_drop, List.length_take]; omega)) (by decide) | exact fun a ha => hv a (mem_tail ha) | exact fun a ha => ht a (mem_tail ha) | exact (ht _ (List.mem_of_getElem? (by assumption))).1 | exact (ht _ (List.mem_of_getElem? (by assumption))).2 | exact hv _ (List.mem_of_getElem? (by assumption)) _ (List.mem_of_getElem? (by assumption))) (by first | omega | (simp only [List.length_drop, List.length_take]; omega) | (rw [if_pos (by assumption)]; exact (fitF_len _ _ _).trans hb) | (refine Nat.le_trans (Nat.mul_le_mul_right _ (room_m hf hl (ne_nil_of (by assumption)) (by simp only [List.length_drop, List.length_take]; omega))) (by decide)) | exact Nat.le_trans (room_m hf hl (ne_nil_of (by assumption)) (by simp only [List.length_drop, List.length_take]; omega)) (by decide) | exact fun a ha => hv a (mem_tail ha) | exact fun a ha => ht a (mem_tail ha) | exact (ht _ (List.mem_of_getElem? (by assumption))).1 | exact (ht _ (List.mem_of_getElem? (by assumption))).2 | exact hv _ (List.mem_of_getElem? (by assumption)) _ (List.mem_of_getElem? (by assumption)))) ?_
        refine r_op (o_assign rfl rfl) ?_
        refine r_end ?_
        refine t_endblock ?_
        refine t_region ?_
        refine r_op (o_bin rfl rfl rfl rfl) ?_
        refine r_op (o_move rfl rfl) ?_
        refine r_end ?_
        refine t_le ?_ (ih0 (m + 1) (by (try dsimp only); omega) (by (try dsimp only); omega))
        exact ⟨⟨rfl, ⟨rfl, ⟨rfl, ⟨rfl, ⟨rfl, ⟨rfl, ⟨rfl, ⟨(eqI (wr64 (by omega) (by omega))), trivial⟩⟩⟩⟩⟩⟩⟩⟩, ⟨rfl, ⟨(eqR (by first | (have e := matchM_yes (fs := fs) (l := l) (b := b) (m := m) hz7 rfl hz4 rfl (by assumption); rw [e, if_pos (by assumption), List.take_length]; done) | (have e := matchM_yes (fs := fs) (l := l) (b := b) (m := m) hz7 rfl hz4 rfl (by assumption); rw [e, if_pos (by assumption), List.take_length]; rfl) | exact (matchM_no hz7 rfl hz4 rfl (by assumption)).symm)), trivial⟩⟩, rfl⟩
      ·
        have h9' := h9
        skip
        refine t_skip ?_
        refine t_endblock ?_
        refine t_region ?_
        refine r_op (o_bin rfl rfl rfl rfl) ?_
        refine r_op (o_move rfl rfl) ?_
        refine r_end ?_
        refine t_le ?_ (ih0 (m + 1) (by (try dsimp only); omega) (by (try dsimp only); omega))
        exact ⟨⟨rfl, ⟨rfl, ⟨rfl, ⟨rfl, ⟨rfl, ⟨rfl, ⟨rfl, ⟨(eqI (wr64 (by omega) (by omega))), trivial⟩⟩⟩⟩⟩⟩⟩⟩, ⟨rfl, ⟨(eqR (by first | (have e := matchM_yes (fs := fs) (l := l) (b := b) (m := m) hz7 rfl hz4 rfl (by assumption); rw [e, if_pos (by assumption), List.take_length]; done) | (have e := matchM_yes (fs := fs) (l := l) (b := b) (m := m) hz7 rfl hz4 rfl (by assumption); rw [e, if_pos (by assumption), List.take_length]; rfl) | exact (matchM_no hz7 rfl hz4 rfl (by assumption)).symm)), trivial⟩⟩, rfl⟩
    ·
      have h2' := h2
      try simp only [decide_eq_true_eq, decide_eq_false_iff_not, Bool.not_eq_true', Bool.not_eq_false', Bool.not_false, Bool.not_true] at h2'
      refine t_exit rfl ?_
      refine t_seq ?_
      refine t_region ?_
      refine r_op (o_move rfl rfl) ?_
      refine r_op (o_assign rfl rfl) ?_
      refine r_end ?_
      refine gt_as0 6 1 rfl rfl ?_
      refine t_ret Try.func102 (.tmp rfl .nil) rfl fun E S w u hI hd => ?_
      refine postM_mk hI hd ?_ ⟨eqR ?_, trivial⟩ rfl rfl <;> clear hI hd <;> (try clear ih0)
      all_goals first | rfl | (first | rfl | exact (matchL_nil (by assumption)).symm | exact matchM_end (ne_nil_of (by assumption)) (by omega))
theorem c_impl_matches (U : Nat → Value) (fs l : Atoms) (b : List Int) (hf : fs.length ≤ 30) (hl : l.length ≤ 3) (hb : b.length = 5) (hv : ∀ a ∈ l, ∀ f ∈ fs, a.1 = f.1 → a.2.length = f.2.length) (ht : ∀ a ∈ l, (∀ t ∈ a.2, -10 ≤ t ∧ t ≤ 4) ∧ a.2.length ≤ 4611686018427387904) : Mu Try.prog 102 [.c (.t none (.sl 2 (enS2 encI (enSl 1 encI)) (fs))), .c (.t none (.sl 2 (enS2 encI (enSl 1 encI)) (l))), .c (.own 0)] [(0, some (.row (some (U 0)) 3 true 1 encI (b)))] 1 [(0, some (.row none 60 true 1 (enSl 1 encI) (matchL fs l b)))] 1 (.c (.own 0)) := c_impl_matches_n _ U fs l b hf hl hb hv ht rfl
set_option maxHeartbeats 1000000 in
set_option maxRecDepth 10000 in
theorem c_impl_HasExtension (rs : Rels) (fs l : Atoms) (b : List Int) (hrs : rs.length ≤ 4611686018427387904) (hfs : szS (fun (x : Int × (List (Int))) => (x.2).length) fs ≤ 1048576) (hll : szS (fun (x : Int × (List (Int))) => (x.2).length) l ≤ 1048576) (ho : ∀ z ∈ fs, ∀ x ∈ z.2, okI x) (hbl : b.length ≤ 1048576) : Pu Try.prog 44 [.agg [.t none (.sl 3 (enS3 encS encI encB) (rs)), .t none (.sl 2 (enS2 encI (enSl 1 encI)) (fs))], .c (.t none (.sl 2 (enS2 encI (enSl 1 encI)) (l))), .c (.t none (.sl 1 encI (b)))] [] 0 (.c (.t none (.v (.bool (hasE rs fs l b))))) := by
  refine pu_enter Try.func44 rfl (Nat.le_of_ble_eq_true rfl) fun w S => ?_
  have gl := sz_len (f := (fun (x : Int × (List (Int))) => (x.2).length)) (l := l)
  refine t_seq ?_
  refine t_region ?_
  refine r_op (o_box 0 rfl rfl rfl rfl) ?_
  refine r_op (o_assign rfl rfl) ?_
  refine r_end ?_
  refine t_seq ?_
  refine t_draw (fun i => !(Nat.beq i 14)) (by kernel_rfl) ?_
  refine d_take 0 rfl rfl (by kernel_rfl) (by kernel_rfl) (by kernel_rfl) (p_loadAb (n := 2) (by kernel_rfl) (by kernel_rfl) rfl rfl rfl) ?_
  refine d_take 1 rfl rfl (by kernel_rfl) (by kernel_rfl) (by kernel_rfl) (p_move rfl) ?_
  refine d_only 2 rfl (by kernel_rfl) rfl (o_call 1 1 false (Go.Proofs.enters_of Try.func101 (by kernel_rfl) rfl) (c_impl_areMatchable (rs) (fs) (l) (by first | omega | assumption | exact (mt_pre (by assumption)).1 | exact (mt_pre (by assumption)).2.1 | exact (mt_pre (by assumption)).2.2.1 | exact (mt_pre (by assumption)).2.2.2) (by first | omega | assumption | exact (mt_pre (by assumption)).1 | exact (mt_pre (by assumption)).2.1 | exact (mt_pre (by assumption)).2.2.1 | exact (mt_pre (by assumption)).2.2.2) (by first | omega | assumption | exact (mt_pre (by assumption)).1 | exact (mt_pre (by assumption)).2.1 | exact (mt_pre (by assumption)).2.2.1 | exact (mt_pre (by assumption)).2.2.2) (by first | omega | assumption | exact (mt_pre (by assumption)).1 | exact (mt_pre (by assumption)).2.1 | exact (mt_pre (by assumption)).2.2.1 | exact (mt_pre (by assumption)).2.2.2)) rfl (.cons rfl (.agg (.cons .t0 (.cons .t0 .nil))) (.cons rfl (.c .t0) .nil)) rfl rfl rfl) ?_
  refine d_take 3 rfl rfl (by kernel_rfl) (by kernel_rfl) (by kernel_rfl) (p_move rfl) ?_
  refine d_guard 4 rfl rfl (by kernel_rfl) (by kernel_rfl) (by kernel_rfl) rfl rfl (fun _ => p_move rfl) (fun g1 => ?_) (fun g1 => ?_)
  ·
    have g1' := g1
    skip
    refine d_guard 5 rfl rfl (by kernel_rfl) (by kernel_rfl) (by kernel_rfl) rfl rfl (fun _ => p_len rfl rfl) (fun _ => ?_) (fun h' => Bool.noConfusion (g1.symm.trans h'))
    refine d_guard 6 rfl rfl (by kernel_rfl) (by kernel_rfl) (by kernel_rfl) rfl rfl (fun _ => p_bin rfl rfl rfl) (fun _ => ?_) (fun h' => Bool.noConfusion (g1.symm.trans h'))
    refine d_take 7 rfl rfl (by kernel_rfl) (by kernel_rfl) (by kernel_rfl) (p_pickT rfl g1 rfl) ?_
    refine d_take 8 rfl rfl (by kernel_rfl) (by kernel_rfl) (by kernel_rfl) (p_move rfl) ?_
    refine d_guard 9 rfl rfl (by kernel_rfl) (by kernel_rfl) (by kernel_rfl) rfl rfl (fun _ => p_fieldb (off := 1) (by kernel_rfl) rfl) (fun g2 => ?_) (fun g2 => ?_)
    ·
      have g2' := g2
      try simp only [decide_eq_true_eq, decide_eq_false_iff_not, Bool.not_eq_true', Bool.not_eq_false', Bool.not_false, Bool.not_true] at g2'
      refine d_guard 10 rfl rfl (by kernel_rfl) (by kernel_rfl) (by kernel_rfl) rfl rfl (fun _ => p_load1b (by kernel_rfl) rfl rfl rfl) (fun _ => ?_) (fun h' => Bool.noConfusion (g2.symm.trans h'))
      refine d_guard 11 rfl rfl (by kernel_rfl) (by kernel_rfl) (by kernel_rfl) rfl rfl (fun _ => p_move rfl) (fun _ => ?_) (fun h' => Bool.noConfusion (g2.symm.trans h'))
      refine d_guard 12 rfl rfl (by kernel_rfl) (by kernel_rfl) (by kernel_rfl) rfl rfl (fun _ => p_move rfl) (fun _ => ?_) (fun h' => Bool.noConfusion (g2.symm.trans h'))
      refine d_onlyG 13 rfl rfl (by kernel_rfl) rfl rfl rfl (fun _ => (o_call 1 2 false (Go.Proofs.enters_of Try.func103 (by kernel_rfl) rfl) (c_slices_Clone___int_int_ (b) (by first | omega | assumption | exact (mt_pre (by assumption)).1 | exact (mt_pre (by assumption)).2.1 | exact (mt_pre (by assumption)).2.2.1 | exact (mt_pre (by assumption)).2.2.2)) rfl (.cons rfl (.c .t0) .nil) rfl rfl rfl)) (fun _ => ?_) (fun h' => Bool.noConfusion (g2.symm.trans h'))
      refine d_onlyG 14 rfl rfl (by kernel_rfl) rfl rfl rfl (fun _ => (o_callD 1 (matchL (fs) (l) ((b))) (Go.Proofs.enters_of Try.func102 (by kernel_rfl) rfl) (fun U => c_impl_matches U  (fs) (l) ((b)) (by first | omega | assumption | exact (mt_pre (by assumption)).1 | exact (mt_pre (by assumption)).2.1 | exact (mt_pre (by assumption)).2.2.1 | exact (mt_pre (by assumption)).2.2.2) (by first | omega | assumption | exact (mt_pre (by assumption)).1 | exact (mt_pre (by assumption)).2.1 | exact (mt_pre (by assumption)).2.2.1 | exact (mt_pre (by assumption)).2.2.2) (by first | omega | assumption | exact (mt_pre (by assumption)).1 | exact (mt_pre (by assumption)).2.1 | exact (mt_pre (by assumption)).2.2.1 | exact (mt_pre (by assumption)).2.2.2) (by first | omega | assumption | exact (mt_pre (by assumption)).1 | exact (mt_pre (by assumption)).2.1 | exact (mt_pre (by assumption)).2.2.1 | exact (mt_pre (by assumption)).2.2.2) (by first | omega | assumption | exact (mt_pre (by assumption)).1 | exact (mt_pre (by assumption)).2.1 | exact (mt_pre (by assumption)).2.2.1 | exact (mt_pre (by assumption)).2.2.2)) rfl rfl (.cons rfl .t0 (.cons rfl .t0 (.cons rfl (.own rfl) .nil))))) (fun _ => ?_) (fun h' => Bool.noConfusion (g2.symm.trans h'))
      refine d_guard 15 rfl rfl (by kernel_rfl) (by kernel_rfl) (by kernel_rfl) rfl rfl (fun _ => p_leno rfl rfl rfl) (fun _ => ?_) (fun h' => Bool.noConfusion (g2.symm.trans h'))
      refine d_guard 16 rfl rfl (by kernel_rfl) (by kernel_rfl) (by kernel_rfl) rfl rfl (fun _ => p_bin rfl rfl rfl) (fun _ => ?_) (fun h' => Bool.noConfusion (g2.symm.trans h'))
      refine d_take 17 rfl rfl (by kernel_rfl) (by kernel_rfl) (by kernel_rfl) (p_pickT rfl g2 rfl) ?_
      refine d_take 18 rfl rfl (by kernel_rfl) (by kernel_rfl) (by kernel_rfl) (p_assign rfl) ?_
      refine d_end (by kernel_rfl) ?_
      refine t_ret Try.func44 (.tmp rfl .nil) rfl fun E S w u hI hd => ?_
      refine post_mk hI hd ?_ trivial rfl rfl rfl <;> clear hI hd
      all_goals first | rfl | (refine scB ?_; (try simp only [show (0 : Int).toNat = 0 from rfl, List.drop_zero] at *); clear hrs hfs hll ho gl; unfold hasE; grind)
    ·
      have g2' := g2
      try simp only [decide_eq_true_eq, decide_eq_false_iff_not, Bool.not_eq_true', Bool.not_eq_false', Bool.not_false, Bool.not_true] at g2'
      refine d_guard 10 rfl rfl (by kernel_rfl) (by kernel_rfl) (by kernel_rfl) rfl rfl (v := .c .top) (fun h' => Bool.noConfusion (g2.symm.trans h')) (fun h' => Bool.noConfusion (g2.symm.trans h')) (fun _ => ?_)
      refine d_guard 11 rfl rfl (by kernel_rfl) (by kernel_rfl) (by kernel_rfl) rfl rfl (v := .c .top) (fun h' => Bool.noConfusion (g2.symm.trans h')) (fun h' => Bool.noConfusion (g2.symm.trans h')) (fun _ => ?_)
      refine d_guard 12 rfl rfl (by kernel_rfl) (by kernel_rfl) (by kernel_rfl) rfl rfl (v := .c .top) (fun h' => Bool.noConfusion (g2.symm.trans h')) (fun h' => Bool.noConfusion (g2.symm.trans h')) (fun _ => ?_)
      refine d_guard 13 rfl rfl (by kernel_rfl) (by kernel_rfl) (by kernel_rfl) rfl rfl (v := .c .top) (fun h' => Bool.noConfusion (g2.symm.trans h')) (fun h' => Bool.noConfusion (g2.symm.trans h')) (fun _ => ?_)
      refine d_guard 14 rfl rfl (by kernel_rfl) (by kernel_rfl) (by kernel_rfl) rfl rfl (v := .c .top) (fun h' => Bool.noConfusion (g2.symm.trans h')) (fun h' => Bool.noConfusion (g2.symm.trans h')) (fun _ => ?_)
      refine d_guard 15 rfl rfl (by kernel_rfl) (by kernel_rfl) (by kernel_rfl) rfl rfl (v := .c .top) (fun h' => Bool.noConfusion (g2.symm.trans h')) (fun h' => Bool.noConfusion (g2.symm.trans h')) (fun _ => ?_)
      refine d_guard 16 rfl rfl (by kernel_rfl) (by kernel_rfl) (by kernel_rfl) rfl rfl (v := .c .top) (fun h' => Bool.noConfusion (g2.symm.trans h')) (fun h' => Bool.noConfusion (g2.symm.trans h')) (fun _ => ?_)
      refine d_take 17 rfl rfl (by kernel_rfl) (by kernel_rfl) (by kernel_rfl) (p_pickF rfl g2 rfl) ?_
      refine d_take 18 rfl rfl (by kernel_rfl) (by kernel_rfl) (by kernel_rfl) (p_assign rfl) ?_
      refine d_end (by kernel_rfl) ?_
      refine t_ret Try.func44 (.tmp rfl .nil) rfl fun E S w u hI hd => ?_
      refine post_mk hI hd ?_ trivial rfl rfl rfl <;> clear hI hd
      all_goals first | rfl | (refine scB ?_; (try simp only [show (0 : Int).toNat = 0 from rfl, List.drop_zero] at *); clear hrs hfs hll ho gl; unfold hasE; grind)
  ·
    have g1' := g1
    skip
    refine d_guard 5 rfl rfl (by kernel_rfl) (by kernel_rfl) (by kernel_rfl) rfl rfl (v := .c .top) (fun h' => Bool.noConfusion (g1.symm.trans h')) (fun h' => Bool.noConfusion (g1.symm.trans h')) (fun _ => ?_)
    refine d_guard 6 rfl rfl (by kernel_rfl) (by kernel_rfl) (by kernel_rfl) rfl rfl (v := .c .top) (fun h' => Bool.noConfusion (g1.symm.trans h')) (fun h' => Bool.noConfusion (g1.symm.trans h')) (fun _ => ?_)
    refine d_take 7 rfl rfl (by kernel_rfl) (by kernel_rfl) (by kernel_rfl) (p_pickF rfl g1 rfl) ?_
    refine d_take 8 rfl rfl (by kernel_rfl) (by kernel_rfl) (by kernel_rfl) (p_move rfl) ?_
    refine d_guard 9 rfl rfl (by kernel_rfl) (by kernel_rfl) (by kernel_rfl) rfl rfl (v := .c .top) (fun h' => Bool.noConfusion (rfl.symm.trans h')) (fun h' => Bool.noConfusion (rfl.symm.trans h')) (fun _ => ?_)
    refine d_guard 10 rfl rfl (by kernel_rfl) (by kernel_rfl) (by kernel_rfl) rfl rfl (v := .c .top) (fun h' => Bool.noConfusion (rfl.symm.trans h')) (fun h' => Bool.noConfusion (rfl.symm.trans h')) (fun _ => ?_)
    refine d_guard 11 rfl rfl (by kernel_rfl) (by kernel_rfl) (by kernel_rfl) rfl rfl (v := .c .top) (fun h' => Bool.noConfusion (rfl.symm.trans h')) (fun h' => Bool.noConfusion (rfl.symm.trans h')) (fun _ => ?_)
    refine d_guard 12 rfl rfl (by kernel_rfl) (by kernel_rfl) (by kernel_rfl) rfl rfl (v := .c .top) (fun h' => Bool.noConfusion (rfl.symm.trans h')) (fun h' => Bool.noConfusion (rfl.symm.trans h')) (fun _ => ?_)
    refine d_guard 13 rfl rfl (by kernel_rfl) (by kernel_rfl) (by kernel_rfl) rfl rfl (v := .c .top) (fun h' => Bool.noConfusion (rfl.symm.trans h')) (fun h' => Bool.noConfusion (rfl.symm.trans h')) (fun _ => ?_)
    refine d_guard 14 rfl rfl (by kernel_rfl) (by kernel_rfl) (by kernel_rfl) rfl rfl (v := .c .top) (fun h' => Bool.noConfusion (rfl.symm.trans h')) (fun h' => Bool.noConfusion (rfl.symm.trans h')) (fun _ => ?_)
    refine d_guard 15 rfl rfl (by kernel_rfl) (by kernel_rfl) (by kernel_rfl) rfl rfl (v := .c .top) (fun h' => Bool.noConfusion (rfl.symm.trans h')) (fun h' => Bool.noConfusion (rfl.symm.trans h')) (fun _ => ?_)
    refine d_guard 16 rfl rfl (by kernel_rfl) (by kernel_rfl) (by kernel_rfl) rfl rfl (v := .c .top) (fun h' => Bool.noConfusion (rfl.symm.trans h')) (fun h' => Bool.noConfusion (rfl.symm.trans h')) (fun _ => ?_)
    refine d_take 17 rfl rfl (by kernel_rfl) (by kernel_rfl) (by kernel_rfl) (p_pickF rfl rfl rfl) ?_
    refine d_take 18 rfl rfl (by kernel_rfl) (by kernel_rfl) (by kernel_rfl) (p_assign rfl) ?_
    refine d_end (by kernel_rfl) ?_
    refine t_ret Try.func44 (.tmp rfl .nil) rfl fun E S w u hI hd => ?_
    refine post_mk hI hd ?_ trivial rfl rfl rfl <;> clear hI hd
    all_goals first | rfl | (refine scB ?_; (try simp only [show (0 : Int).toNat = 0 from rfl, List.drop_zero] at *); clear hrs hfs hll ho gl; unfold hasE; grind)
set_option maxHeartbeats 1000000 in
set_option maxRecDepth 10000 in
theorem c_laws_eqRelation (a0 : List UInt8) (a1 : Int) (a2 : Bool) (b0 : List UInt8) (b1 : Int) (b2 : Bool) (hs : (a0).length ≤ 1048576) : Pu Try.prog 72 [.agg [.t none (.v (.string (mkS (a0)))), .t none (.v (.int .i64 (a1))), .t none (.v (.bool (a2)))], .agg [.t none (.v (.string (mkS (b0)))), .t none (.v (.int .i64 (b1))), .t none (.v (.bool (b2)))]] [] 0 (.c (.t none (.v (.bool (decide ((a0, a1, a2) = (b0, b1, b2))))))) := by
  refine pu_enter Try.func72 rfl (Nat.le_of_ble_eq_true rfl) fun w S => ?_
  refine t_seq ?_
  refine t_region ?_
  refine r_op (o_box 0 rfl rfl rfl rfl) ?_
  refine r_op (o_box 1 rfl rfl rfl rfl) ?_
  refine r_op (o_assign rfl rfl) ?_
  refine r_end ?_
  refine t_seq ?_
  refine t_seq ?_
  refine t_region ?_
  refine r_op (o_fieldb rfl (off := 0) (by kernel_rfl) rfl) ?_
  refine r_op (o_load1b rfl (by kernel_rfl) rfl rfl rfl) ?_
  refine r_op (o_fieldb rfl (off := 0) (by kernel_rfl) rfl) ?_
  refine r_op (o_load1b rfl (by kernel_rfl) rfl rfl rfl) ?_
  refine r_op (o_str rfl rfl rfl rfl) ?_
  refine r_end ?_
  refine t_cond rfl (fun h1 => ?_) (fun h1 => ?_)
  ·
    have h1' := h1
    try simp only [decide_eq_true_eq, decide_eq_false_iff_not, Bool.not_eq_true', Bool.not_eq_false', Bool.not_false, Bool.not_true] at h1'
    refine t_seq ?_
    refine t_region ?_
    refine r_op (o_assign rfl rfl) ?_
    refine r_end ?_
    refine t_ret Try.func72 (.tmp rfl .nil) rfl fun E S w u hI hd => ?_
    refine post_mk hI hd ?_ trivial rfl rfl rfl <;> clear hI hd
    all_goals first | rfl | (simp_all)
  ·
    have h1' := h1
    try simp only [decide_eq_true_eq, decide_eq_false_iff_not, Bool.not_eq_true', Bool.not_eq_false', Bool.not_false, Bool.not_true] at h1'
    refine t_skip ?_
    refine t_seq ?_
    refine t_seq ?_
    refine t_region ?_
    refine r_op (o_fieldb rfl (off := 1) (by kernel_rfl) rfl) ?_
    refine r_op (o_load1b rfl (by kernel_rfl) rfl rfl rfl) ?_
    refine r_op (o_fieldb rfl (off := 1) (by kernel_rfl) rfl) ?_
    refine r_op (o_load1b rfl (by kernel_rfl) rfl rfl rfl) ?_
    refine r_op (o_bin rfl rfl rfl rfl) ?_
    refine r_end ?_
    refine t_cond rfl (fun h2 => ?_) (fun h2 => ?_)
    ·
      have h2' := h2
      try simp only [decide_eq_true_eq, decide_eq_false_iff_not, Bool.not_eq_true', Bool.not_eq_false', Bool.not_false, Bool.not_true] at h2'
      refine t_seq ?_
      refine t_region ?_
      refine r_op (o_assign rfl rfl) ?_
      refine r_end ?_
      refine t_ret Try.func72 (.tmp rfl .nil) rfl fun E S w u hI hd => ?_
      refine post_mk hI hd ?_ trivial rfl rfl rfl <;> clear hI hd
      all_goals first | rfl | (simp_all)
    ·
      have h2' := h2
      try simp only [decide_eq_true_eq, decide_eq_false_iff_not, Bool.not_eq_true', Bool.not_eq_false', Bool.not_false, Bool.not_true] at h2'
      refine t_skip ?_
      refine t_seq ?_
      refine t_seq ?_
      refine t_region ?_
      refine r_op (o_fieldb rfl (off := 2) (by kernel_rfl) rfl) ?_
      refine r_op (o_load1b rfl (by kernel_rfl) rfl rfl rfl) ?_
      refine r_op (o_fieldb rfl (off := 2) (by kernel_rfl) rfl) ?_
      refine r_op (o_load1b rfl (by kernel_rfl) rfl rfl rfl) ?_
      refine r_op (o_neB rfl Try.underlying4 rfl rfl) ?_
      refine r_end ?_
      refine t_cond rfl (fun h3 => ?_) (fun h3 => ?_)
      ·
        have h3' := h3
        skip
        refine t_seq ?_
        refine t_region ?_
        refine r_op (o_assign rfl rfl) ?_
        refine r_end ?_
        refine t_ret Try.func72 (.tmp rfl .nil) rfl fun E S w u hI hd => ?_
        refine post_mk hI hd ?_ trivial rfl rfl rfl <;> clear hI hd
        all_goals first | rfl | (simp_all)
      ·
        have h3' := h3
        skip
        refine t_skip ?_
        refine t_seq ?_
        refine t_region ?_
        refine r_op (o_assign rfl rfl) ?_
        refine r_end ?_
        refine t_ret Try.func72 (.tmp rfl .nil) rfl fun E S w u hI hd => ?_
        refine post_mk hI hd ?_ trivial rfl rfl rfl <;> clear hI hd
        all_goals first | rfl | (simp_all)
set_option maxHeartbeats 1000000 in
set_option maxRecDepth 10000 in
theorem c_laws_eqRelationS (a b : List (List UInt8 × Int × Bool)) (hs : szS (fun (x : List UInt8 × Int × Bool) => (x.1).length) a ≤ 1048576) : Pu Try.prog 18 [.c (.t none (.sl 3 (enS3 encS encI encB) (a))), .c (.t none (.sl 3 (enS3 encS encI encB) (b)))] [] 0 (.c (.t none (.v (.bool (decide (a = b)))))) := by
  refine pu_enter Try.func18 rfl (Nat.le_of_ble_eq_true rfl) fun w S => ?_
  have gl := sz_len (f := (fun (x : List UInt8 × Int × Bool) => (x.1).length)) (l := a)
  refine t_seq ?_
  refine t_region ?_
  refine r_op (o_assign rfl rfl) ?_
  refine r_end ?_
  refine t_seq ?_
  refine t_seq ?_
  refine t_region ?_
  refine r_op (o_move rfl rfl) ?_
  refine r_op (o_len rfl rfl rfl) ?_
  refine r_op (o_move rfl rfl) ?_
  refine r_op (o_len rfl rfl rfl) ?_
  refine r_op (o_bin rfl rfl rfl rfl) ?_
  refine r_end ?_
  refine t_cond rfl (fun h1 => ?_) (fun h1 => ?_)
  ·
    have h1' := h1
    try simp only [decide_eq_true_eq, decide_eq_false_iff_not, Bool.not_eq_true', Bool.not_eq_false', Bool.not_false, Bool.not_true] at h1'
    refine t_seq ?_
    refine t_region ?_
    refine r_op (o_assign rfl rfl) ?_
    refine r_end ?_
    refine t_ret Try.func18 (.tmp rfl .nil) rfl fun E S w u hI hd => ?_
    refine post_mk hI hd ?_ trivial rfl rfl rfl <;> clear hI hd <;> (try clear ih0)
    all_goals first | rfl | ((have : a ≠ b := by rintro rfl; simp at *); simp [this])
  ·
    have h1' := h1
    try simp only [decide_eq_true_eq, decide_eq_false_iff_not, Bool.not_eq_true', Bool.not_eq_false', Bool.not_false, Bool.not_true] at h1'
    refine t_skip ?_
    refine t_seq ?_
    refine t_seq ?_
    refine t_region ?_
    refine r_op (o_assign rfl rfl) ?_
    refine r_end ?_
    refine t_block ?_
    refine t_loopL (fun m => ⟨[(0, some (.c (.t none (.sl 3 (enS3 encS encI encB) (a))))), (1, some (.c (.t none (.sl 3 (enS3 encS encI encB) (b))))), (5, some (.c (.t none (.v (.int .i64 ((m : Int)))))))], [], 0⟩ : Nat → St) (fun m => m ≤ a.length ∧ a.length = b.length ∧ a.take m = b.take m) (fun m => a.length - m) 0 ⟨⟨rfl, ⟨rfl, ⟨rfl, trivial⟩⟩⟩, trivial, rfl⟩ (by exact ⟨Nat.zero_le _, by omega, rfl⟩) ?_
    rintro m hI ih0
    try dsimp only at hI ih0
    obtain ⟨i1, i2, i3⟩ := hI
    refine t_seq ?_
    refine t_seq ?_
    refine t_region ?_
    refine r_op (o_move rfl rfl) ?_
    refine r_op (o_move rfl rfl) ?_
    refine r_op (o_len rfl rfl rfl) ?_
    refine r_op (o_bin rfl rfl rfl rfl) ?_
    refine r_end ?_
    refine t_cond rfl (fun h2 => ?_) (fun h2 => ?_)
    ·
      have h2' := h2
      try simp only [decide_eq_true_eq, decide_eq_false_iff_not, Bool.not_eq_true', Bool.not_eq_false', Bool.not_false, Bool.not_true] at h2'
      refine t_skip ?_
      refine t_seq ?_
      refine t_block ?_
      refine t_seq ?_
      refine t_draw (fun _ => true) (by kernel_rfl) ?_
      refine d_take 0 rfl rfl (by kernel_rfl) (by kernel_rfl) (by kernel_rfl) (p_move rfl) ?_
      refine d_take 1 rfl rfl (by kernel_rfl) (by kernel_rfl) (by kernel_rfl) (p_move rfl) ?_
      obtain ⟨z3, hz4, b5⟩ := at_get (xs := a) (n := (m : Int)) (by first | omega | (have e1 := sz_at (f := (fun (x : List UInt8 × Int × Bool) => (x.1).length)) (l := a) (m := m) (by assumption); (try dsimp only at e1); omega)) (by first | omega | (have e1 := sz_at (f := (fun (x : List UInt8 × Int × Bool) => (x.1).length)) (l := a) (m := m) (by assumption); (try dsimp only at e1); omega))
      refine d_take 2 rfl rfl (by kernel_rfl) (by kernel_rfl) (by kernel_rfl) (p_index (by kernel_rfl) rfl rfl b5 hz4) ?_
      refine d_take 3 rfl rfl (by kernel_rfl) (by kernel_rfl) (by kernel_rfl) (p_loadA (n := 3) (by kernel_rfl) (by kernel_rfl) rfl rfl) ?_
      refine d_take 4 rfl rfl (by kernel_rfl) (by kernel_rfl) (by kernel_rfl) (p_move rfl) ?_
      refine d_take 5 rfl rfl (by kernel_rfl) (by kernel_rfl) (by kernel_rfl) (p_move rfl) ?_
      obtain ⟨z6, hz7, b8⟩ := at_get (xs := b) (n := (m : Int)) (by first | omega | (have e1 := sz_at (f := (fun (x : List UInt8 × Int × Bool) => (x.1).length)) (l := a) (m := m) (by assumption); (try dsimp only at e1); omega)) (by first | omega | (have e1 := sz_at (f := (fun (x : List UInt8 × Int × Bool) => (x.1).length)) (l := a) (m := m) (by assumption); (try dsimp only at e1); omega))
      refine d_take 6 rfl rfl (by kernel_rfl) (by kernel_rfl) (by kernel_rfl) (p_index (by kernel_rfl) rfl rfl b8 hz7) ?_
      refine d_take 7 rfl rfl (by kernel_rfl) (by kernel_rfl) (by kernel_rfl) (p_loadA (n := 3) (by kernel_rfl) (by kernel_rfl) rfl rfl) ?_
      refine d_only 8 rfl (by kernel_rfl) rfl (o_call 0 0 false (Go.Proofs.enters_of Try.func72 (by kernel_rfl) rfl) (c_laws_eqRelation (z3.1) (z3.2.1) (z3.2.2) (z6.1) (z6.2.1) (z6.2.2) (by first | omega | (have e1 := sz_at (f := (fun (x : List UInt8 × Int × Bool) => (x.1).length)) (l := a) (m := m) (by assumption); (try dsimp only at e1); omega))) rfl (.cons rfl (.agg (.cons .t0 (.cons .t0 (.cons .t0 .nil)))) (.cons rfl (.agg (.cons .t0 (.cons .t0 (.cons .t0 .nil)))) .nil)) rfl rfl rfl) ?_
      refine d_take 9 rfl rfl (by kernel_rfl) (by kernel_rfl) (by kernel_rfl) (p_not rfl) ?_
      refine d_end (by kernel_rfl) ?_
      refine t_cond rfl (fun h9 => ?_) (fun h9 => ?_)
      ·
        have h9' := h9
        try simp only [decide_eq_true_eq, decide_eq_false_iff_not, Bool.not_eq_true', Bool.not_eq_false', Bool.not_false, Bool.not_true] at h9'
        refine t_seq ?_
        refine t_region ?_
        refine r_op (o_assign rfl rfl) ?_
        refine r_end ?_
        refine t_ret Try.func18 (.tmp rfl .nil) rfl fun E S w u hI hd => ?_
        refine post_mk hI hd ?_ trivial rfl rfl rfl <;> clear hI hd <;> (try clear ih0)
        all_goals first | rfl | (have := ne_at (a := a) (b := b) (by assumption) (by assumption) (by assumption); simp_all)
      ·
        have h9' := h9
        try simp only [decide_eq_true_eq, decide_eq_false_iff_not, Bool.not_eq_true', Bool.not_eq_false', Bool.not_false, Bool.not_true] at h9'
        refine t_skip ?_
        refine t_endblock ?_
        refine t_region ?_
        refine r_op (o_move rfl rfl) ?_
        refine r_op (o_bin rfl rfl rfl rfl) ?_
        refine r_op (o_assign rfl rfl) ?_
        refine r_end ?_
        refine t_le ?_ (ih0 (m + 1) (by (try dsimp only); omega) (by (try dsimp only); exact ⟨by omega, i2, take_same i3 (same_at (by assumption) (by assumption) (by assumption))⟩))
        exact ⟨⟨rfl, ⟨rfl, ⟨(eqI (wrS (by omega))), trivial⟩⟩⟩, trivial, rfl⟩
    ·
      have h2' := h2
      try simp only [decide_eq_true_eq, decide_eq_false_iff_not, Bool.not_eq_true', Bool.not_eq_false', Bool.not_false, Bool.not_true] at h2'
      refine t_exit rfl ?_
      refine t_seq ?_
      refine t_region ?_
      refine r_op (o_assign rfl rfl) ?_
      refine r_end ?_
      refine t_ret Try.func18 (.tmp rfl .nil) rfl fun E S w u hI hd => ?_
      refine post_mk hI hd ?_ trivial rfl rfl rfl <;> clear hI hd <;> (try clear ih0)
      all_goals first | rfl | ((obtain rfl : m = a.length := by omega); rw [List.take_length, i2, List.take_length] at i3; simp [i3])
set_option maxHeartbeats 1000000 in
set_option maxRecDepth 10000 in
theorem c_laws_eqIntS (a b : List Int) (ha : a.length < 4611686018427387904) : Pu Try.prog 46 [.c (.t none (.sl 1 encI (a))), .c (.t none (.sl 1 encI (b)))] [] 0 (.c (.t none (.v (.bool (decide (a = b)))))) := by
  refine pu_enter Try.func46 rfl (Nat.le_of_ble_eq_true rfl) fun w S => ?_
  refine t_seq ?_
  refine t_region ?_
  refine r_op (o_assign rfl rfl) ?_
  refine r_end ?_
  refine t_seq ?_
  refine t_seq ?_
  refine t_region ?_
  refine r_op (o_move rfl rfl) ?_
  refine r_op (o_len rfl rfl rfl) ?_
  refine r_op (o_move rfl rfl) ?_
  refine r_op (o_len rfl rfl rfl) ?_
  refine r_op (o_bin rfl rfl rfl rfl) ?_
  refine r_end ?_
  refine t_cond rfl (fun h1 => ?_) (fun h1 => ?_)
  ·
    have h1' := h1
    try simp only [decide_eq_true_eq, decide_eq_false_iff_not, Bool.not_eq_true', Bool.not_eq_false', Bool.not_false, Bool.not_true] at h1'
    refine t_seq ?_
    refine t_region ?_
    refine r_op (o_assign rfl rfl) ?_
    refine r_end ?_
    refine t_ret Try.func46 (.tmp rfl .nil) rfl fun E S w u hI hd => ?_
    refine post_mk hI hd ?_ trivial rfl rfl rfl <;> clear hI hd <;> (try clear ih0)
    all_goals first | rfl | ((have : a ≠ b := by rintro rfl; simp at *); simp [this])
  ·
    have h1' := h1
    try simp only [decide_eq_true_eq, decide_eq_false_iff_not, Bool.not_eq_true', Bool.not_eq_false', Bool.not_false, Bool.not_true] at h1'
    refine t_skip ?_
    refine t_seq ?_
    refine t_seq ?_
    refine t_region ?_
    refine r_op (o_assign rfl rfl) ?_
    refine r_end ?_
    refine t_block ?_
    refine t_loopL (fun m => ⟨[(0, some (.c (.t none (.sl 1 encI (a))))), (1, some (.c (.t none (.sl 1 encI (b))))), (5, some (.c (.t none (.v (.int .i64 ((m : Int)))))))], [], 0⟩ : Nat → St) (fun m => m ≤ a.length ∧ a.length = b.length ∧ a.take m = b.take m) (fun m => a.length - m) 0 ⟨⟨rfl, ⟨rfl, ⟨rfl, trivial⟩⟩⟩, trivial, rfl⟩ (by exact ⟨Nat.zero_le _, by omega, rfl⟩) ?_
    rintro m hI ih0
    try dsimp only at hI ih0
    obtain ⟨i1, i2, i3⟩ := hI
    refine t_seq ?_
    refine t_seq ?_
    refine t_region ?_
    refine r_op (o_move rfl rfl) ?_
    refine r_op (o_move rfl rfl) ?_
    refine r_op (o_len rfl rfl rfl) ?_
    refine r_op (o_bin rfl rfl rfl rfl) ?_
    refine r_end ?_
    refine t_cond rfl (fun h2 => ?_) (fun h2 => ?_)
    ·
      have h2' := h2
      try simp only [decide_eq_true_eq, decide_eq_false_iff_not, Bool.not_eq_true', Bool.not_eq_false', Bool.not_false, Bool.not_true] at h2'
      refine t_skip ?_
      refine t_seq ?_
      refine t_block ?_
      refine t_seq ?_
      refine t_draw (fun _ => true) (by kernel_rfl) ?_
      refine d_take 0 rfl rfl (by kernel_rfl) (by kernel_rfl) (by kernel_rfl) (p_move rfl) ?_
      refine d_take 1 rfl rfl (by kernel_rfl) (by kernel_rfl) (by kernel_rfl) (p_move rfl) ?_
      obtain ⟨z3, hz4, b5⟩ := at_get (xs := a) (n := (m : Int)) (by first | omega | (simp; omega)) (by first | omega | (simp; omega))
      refine d_take 2 rfl rfl (by kernel_rfl) (by kernel_rfl) (by kernel_rfl) (p_index (by kernel_rfl) rfl rfl b5 hz4) ?_
      refine d_take 3 rfl rfl (by kernel_rfl) (by kernel_rfl) (by kernel_rfl) (p_load1 (by kernel_rfl) rfl rfl) ?_
      refine d_take 4 rfl rfl (by kernel_rfl) (by kernel_rfl) (by kernel_rfl) (p_move rfl) ?_
      refine d_take 5 rfl rfl (by kernel_rfl) (by kernel_rfl) (by kernel_rfl) (p_move rfl) ?_
      obtain ⟨z6, hz7, b8⟩ := at_get (xs := b) (n := (m : Int)) (by first | omega | (simp; omega)) (by first | omega | (simp; omega))
      refine d_take 6 rfl rfl (by kernel_rfl) (by kernel_rfl) (by kernel_rfl) (p_index (by kernel_rfl) rfl rfl b8 hz7) ?_
      refine d_take 7 rfl rfl (by kernel_rfl) (by kernel_rfl) (by kernel_rfl) (p_load1 (by kernel_rfl) rfl rfl) ?_
      refine d_take 8 rfl rfl (by kernel_rfl) (by kernel_rfl) (by kernel_rfl) (p_bin rfl rfl rfl) ?_
      refine d_end (by kernel_rfl) ?_
      refine t_cond rfl (fun h9 => ?_) (fun h9 => ?_)
      ·
        have h9' := h9
        try simp only [decide_eq_true_eq, decide_eq_false_iff_not, Bool.not_eq_true', Bool.not_eq_false', Bool.not_false, Bool.not_true] at h9'
        refine t_seq ?_
        refine t_region ?_
        refine r_op (o_assign rfl rfl) ?_
        refine r_end ?_
        refine t_ret Try.func46 (.tmp rfl .nil) rfl fun E S w u hI hd => ?_
        refine post_mk hI hd ?_ trivial rfl rfl rfl <;> clear hI hd <;> (try clear ih0)
        all_goals first | rfl | (have := ne_at (a := a) (b := b) (by assumption) (by assumption) (by assumption); simp_all)
      ·
        have h9' := h9
        try simp only [decide_eq_true_eq, decide_eq_false_iff_not, Bool.not_eq_true', Bool.not_eq_false', Bool.not_false, Bool.not_true] at h9'
        refine t_skip ?_
        refine t_endblock ?_
        refine t_region ?_
        refine r_op (o_move rfl rfl) ?_
        refine r_op (o_bin rfl rfl rfl rfl) ?_
        refine r_op (o_assign rfl rfl) ?_
        refine r_end ?_
        refine t_le ?_ (ih0 (m + 1) (by (try dsimp only); omega) (by (try dsimp only); refine ⟨by omega, i2, take_same i3 ?_⟩; simp_all))
        exact ⟨⟨rfl, ⟨rfl, ⟨(eqI (wrS (by omega))), trivial⟩⟩⟩, trivial, rfl⟩
    ·
      have h2' := h2
      try simp only [decide_eq_true_eq, decide_eq_false_iff_not, Bool.not_eq_true', Bool.not_eq_false', Bool.not_false, Bool.not_true] at h2'
      refine t_exit rfl ?_
      refine t_seq ?_
      refine t_region ?_
      refine r_op (o_assign rfl rfl) ?_
      refine r_end ?_
      refine t_ret Try.func46 (.tmp rfl .nil) rfl fun E S w u hI hd => ?_
      refine post_mk hI hd ?_ trivial rfl rfl rfl <;> clear hI hd <;> (try clear ih0)
      all_goals first | rfl | ((obtain rfl : m = a.length := by omega); rw [List.take_length, i2, List.take_length] at i3; simp [i3])
set_option maxHeartbeats 1000000 in
set_option maxRecDepth 10000 in
theorem c_laws_eqFact (a0 : Int) (a1 : List (Int)) (b0 : Int) (b1 : List (Int)) (hs : (a1).length ≤ 1048576) : Pu Try.prog 137 [.agg [.t none (.v (.int .i64 (a0))), .t none (.sl 1 encI (a1))], .agg [.t none (.v (.int .i64 (b0))), .t none (.sl 1 encI (b1))]] [] 0 (.c (.t none (.v (.bool (decide ((a0, a1) = (b0, b1))))))) := by
  refine pu_enter Try.func137 rfl (Nat.le_of_ble_eq_true rfl) fun w S => ?_
  refine t_seq ?_
  refine t_region ?_
  refine r_op (o_box 0 rfl rfl rfl rfl) ?_
  refine r_op (o_box 1 rfl rfl rfl rfl) ?_
  refine r_op (o_assign rfl rfl) ?_
  refine r_end ?_
  refine t_seq ?_
  refine t_seq ?_
  refine t_region ?_
  refine r_op (o_fieldb rfl (off := 0) (by kernel_rfl) rfl) ?_
  refine r_op (o_load1b rfl (by kernel_rfl) rfl rfl rfl) ?_
  refine r_op (o_fieldb rfl (off := 0) (by kernel_rfl) rfl) ?_
  refine r_op (o_load1b rfl (by kernel_rfl) rfl rfl rfl) ?_
  refine r_op (o_bin rfl rfl rfl rfl) ?_
  refine r_end ?_
  refine t_cond rfl (fun h1 => ?_) (fun h1 => ?_)
  ·
    have h1' := h1
    try simp only [decide_eq_true_eq, decide_eq_false_iff_not, Bool.not_eq_true', Bool.not_eq_false', Bool.not_false, Bool.not_true] at h1'
    refine t_seq ?_
    refine t_region ?_
    refine r_op (o_assign rfl rfl) ?_
    refine r_end ?_
    refine t_ret Try.func137 (.tmp rfl .nil) rfl fun E S w u hI hd => ?_
    refine post_mk hI hd ?_ trivial rfl rfl rfl <;> clear hI hd
    all_goals first | rfl | (simp_all)
  ·
    have h1' := h1
    try simp only [decide_eq_true_eq, decide_eq_false_iff_not, Bool.not_eq_true', Bool.not_eq_false', Bool.not_false, Bool.not_true] at h1'
    refine t_skip ?_
    refine t_seq ?_
    refine t_seq ?_
    refine t_region ?_
    refine r_op (o_fieldb rfl (off := 1) (by kernel_rfl) rfl) ?_
    refine r_op (o_load1b rfl (by kernel_rfl) rfl rfl rfl) ?_
    refine r_op (o_fieldb rfl (off := 1) (by kernel_rfl) rfl) ?_
    refine r_op (o_load1b rfl (by kernel_rfl) rfl rfl rfl) ?_
    refine r_op (o_call 2 2 false (Go.Proofs.enters_of Try.func46 (by kernel_rfl) rfl) (c_laws_eqIntS (a1) (b1) (by first | omega | (simp; omega))) rfl (.cons rfl (.c .t0) (.cons rfl (.c .t0) .nil)) rfl rfl rfl) ?_
    refine r_op (o_not rfl rfl) ?_
    refine r_end ?_
    refine t_cond rfl (fun h2 => ?_) (fun h2 => ?_)
    ·
      have h2' := h2
      try simp only [decide_eq_true_eq, decide_eq_false_iff_not, Bool.not_eq_true', Bool.not_eq_false', Bool.not_false, Bool.not_true] at h2'
      refine t_seq ?_
      refine t_region ?_
      refine r_op (o_assign rfl rfl) ?_
      refine r_end ?_
      refine t_ret Try.func137 (.tmp rfl .nil) rfl fun E S w u hI hd => ?_
      refine post_mk hI hd ?_ trivial rfl rfl rfl <;> clear hI hd
      all_goals first | rfl | (simp_all)
    ·
      have h2' := h2
      try simp only [decide_eq_true_eq, decide_eq_false_iff_not, Bool.not_eq_true', Bool.not_eq_false', Bool.not_false, Bool.not_true] at h2'
      refine t_skip ?_
      refine t_seq ?_
      refine t_region ?_
      refine r_op (o_assign rfl rfl) ?_
      refine r_end ?_
      refine t_ret Try.func137 (.tmp rfl .nil) rfl fun E S w u hI hd => ?_
      refine post_mk hI hd ?_ trivial rfl rfl rfl <;> clear hI hd
      all_goals first | rfl | (simp_all)
set_option maxHeartbeats 1000000 in
set_option maxRecDepth 10000 in
theorem c_laws_eqFactS (a b : List (Int × (List (Int)))) (hs : szS (fun (x : Int × (List (Int))) => (x.2).length) a ≤ 1048576) : Pu Try.prog 80 [.c (.t none (.sl 2 (enS2 encI (enSl 1 encI)) (a))), .c (.t none (.sl 2 (enS2 encI (enSl 1 encI)) (b)))] [] 0 (.c (.t none (.v (.bool (decide (a = b)))))) := by
  refine pu_enter Try.func80 rfl (Nat.le_of_ble_eq_true rfl) fun w S => ?_
  have gl := sz_len (f := (fun (x : Int × (List (Int))) => (x.2).length)) (l := a)
  refine t_seq ?_
  refine t_region ?_
  refine r_op (o_assign rfl rfl) ?_
  refine r_end ?_
  refine t_seq ?_
  refine t_seq ?_
  refine t_region ?_
  refine r_op (o_move rfl rfl) ?_
  refine r_op (o_len rfl rfl rfl) ?_
  refine r_op (o_move rfl rfl) ?_
  refine r_op (o_len rfl rfl rfl) ?_
  refine r_op (o_bin rfl rfl rfl rfl) ?_
  refine r_end ?_
  refine t_cond rfl (fun h1 => ?_) (fun h1 => ?_)
  ·
    have h1' := h1
    try simp only [decide_eq_true_eq, decide_eq_false_iff_not, Bool.not_eq_true', Bool.not_eq_false', Bool.not_false, Bool.not_true] at h1'
    refine t_seq ?_
    refine t_region ?_
    refine r_op (o_assign rfl rfl) ?_
    refine r_end ?_
    refine t_ret Try.func80 (.tmp rfl .nil) rfl fun E S w u hI hd => ?_
    refine post_mk hI hd ?_ trivial rfl rfl rfl <;> clear hI hd <;> (try clear ih0)
    all_goals first | rfl | ((have : a ≠ b := by rintro rfl; simp at *); simp [this])
  ·
    have h1' := h1
    try simp only [decide_eq_true_eq, decide_eq_false_iff_not, Bool.not_eq_true', Bool.not_eq_false', Bool.not_false, Bool.not_true] at h1'
    refine t_skip ?_
    refine t_seq ?_
    refine t_seq ?_
    refine t_region ?_
    refine r_op (o_assign rfl rfl) ?_
    refine r_end ?_
    refine t_block ?_
    refine t_loopL (fun m => ⟨[(0, some (.c (.t none (.sl 2 (enS2 encI (enSl 1 encI)) (a))))), (1, some (.c (.t none (.sl 2 (enS2 encI (enSl 1 encI)) (b))))), (5, some (.c (.t none (.v (.int .i64 ((m : Int)))))))], [], 0⟩ : Nat → St) (fun m => m ≤ a.length ∧ a.length = b.length ∧ a.take m = b.take m) (fun m => a.length - m) 0 ⟨⟨rfl, ⟨rfl, ⟨rfl, trivial⟩⟩⟩, trivial, rfl⟩ (by exact ⟨Nat.zero_le _, by omega, rfl⟩) ?_
    rintro m hI ih0
    try dsimp only at hI ih0
    obtain ⟨i1, i2, i3⟩ := hI
    refine t_seq ?_
    refine t_seq ?_
    refine t_region ?_
    refine r_op (o_move rfl rfl) ?_
    refine r_op (o_move rfl rfl) ?_
    refine r_op (o_len rfl rfl rfl) ?_
    refine r_op (o_bin rfl rfl rfl rfl) ?_
    refine r_end ?_
    refine t_cond rfl (fun h2 => ?_) (fun h2 => ?_)
    ·
      have h2' := h2
      try simp only [decide_eq_true_eq, decide_eq_false_iff_not, Bool.not_eq_true', Bool.not_eq_false', Bool.not_false, Bool.not_true] at h2'
      refine t_skip ?_
      refine t_seq ?_
      refine t_block ?_
      refine t_seq ?_
      refine t_draw (fun _ => true) (by kernel_rfl) ?_
      refine d_take 0 rfl rfl (by kernel_rfl) (by kernel_rfl) (by kernel_rfl) (p_move rfl) ?_
      refine d_take 1 rfl rfl (by kernel_rfl) (by kernel_rfl) (by kernel_rfl) (p_move rfl) ?_
      obtain ⟨z3, hz4, b5⟩ := at_get (xs := a) (n := (m : Int)) (by first | omega | (have e1 := sz_at (f := (fun (x : Int × (List (Int))) => (x.2).length)) (l := a) (m := m) (by assumption); (try dsimp only at e1); omega)) (by first | omega | (have e1 := sz_at (f := (fun (x : Int × (List (Int))) => (x.2).length)) (l := a) (m := m) (by assumption); (try dsimp only at e1); omega))
      refine d_take 2 rfl rfl (by kernel_rfl) (by kernel_rfl) (by kernel_rfl) (p_index (by kernel_rfl) rfl rfl b5 hz4) ?_
      refine d_take 3 rfl rfl (by kernel_rfl) (by kernel_rfl) (by kernel_rfl) (p_loadA (n := 2) (by kernel_rfl) (by kernel_rfl) rfl rfl) ?_
      refine d_take 4 rfl rfl (by kernel_rfl) (by kernel_rfl) (by kernel_rfl) (p_move rfl) ?_
      refine d_take 5 rfl rfl (by kernel_rfl) (by kernel_rfl) (by kernel_rfl) (p_move rfl) ?_
      obtain ⟨z6, hz7, b8⟩ := at_get (xs := b) (n := (m : Int)) (by first | omega | (have e1 := sz_at (f := (fun (x : Int × (List (Int))) => (x.2).length)) (l := a) (m := m) (by assumption); (try dsimp only at e1); omega)) (by first | omega | (have e1 := sz_at (f := (fun (x : Int × (List (Int))) => (x.2).length)) (l := a) (m := m) (by assumption); (try dsimp only at e1); omega))
      refine d_take 6 rfl rfl (by kernel_rfl) (by kernel_rfl) (by kernel_rfl) (p_index (by kernel_rfl) rfl rfl b8 hz7) ?_
      refine d_take 7 rfl rfl (by kernel_rfl) (by kernel_rfl) (by kernel_rfl) (p_loadA (n := 2) (by kernel_rfl) (by kernel_rfl) rfl rfl) ?_
      refine d_only 8 rfl (by kernel_rfl) rfl (o_call 0 0 false (Go.Proofs.enters_of Try.func137 (by kernel_rfl) rfl) (c_laws_eqFact (z3.1) (z3.2) (z6.1) (z6.2) (by first | omega | (have e1 := sz_at (f := (fun (x : Int × (List (Int))) => (x.2).length)) (l := a) (m := m) (by assumption); (try dsimp only at e1); omega))) rfl (.cons rfl (.agg (.cons .t0 (.cons .t0 .nil))) (.cons rfl (.agg (.cons .t0 (.cons .t0 .nil))) .nil)) rfl rfl rfl) ?_
      refine d_take 9 rfl rfl (by kernel_rfl) (by kernel_rfl) (by kernel_rfl) (p_not rfl) ?_
      refine d_end (by kernel_rfl) ?_
      refine t_cond rfl (fun h9 => ?_) (fun h9 => ?_)
      ·
        have h9' := h9
        try simp only [decide_eq_true_eq, decide_eq_false_iff_not, Bool.not_eq_true', Bool.not_eq_false', Bool.not_false, Bool.not_true] at h9'
        refine t_seq ?_
        refine t_region ?_
        refine r_op (o_assign rfl rfl) ?_
        refine r_end ?_
        refine t_ret Try.func80 (.tmp rfl .nil) rfl fun E S w u hI hd => ?_
        refine post_mk hI hd ?_ trivial rfl rfl rfl <;> clear hI hd <;> (try clear ih0)
        all_goals first | rfl | (have := ne_at (a := a) (b := b) (by assumption) (by assumption) (by assumption); simp_all)
      ·
        have h9' := h9
        try simp only [decide_eq_true_eq, decide_eq_false_iff_not, Bool.not_eq_true', Bool.not_eq_false', Bool.not_false, Bool.not_true] at h9'
        refine t_skip ?_
        refine t_endblock ?_
        refine t_region ?_
        refine r_op (o_move rfl rfl) ?_
        refine r_op (o_bin rfl rfl rfl rfl) ?_
        refine r_op (o_assign rfl rfl) ?_
        refine r_end ?_
        refine t_le ?_ (ih0 (m + 1) (by (try dsimp only); omega) (by (try dsimp only); exact ⟨by omega, i2, take_same i3 (same_at (by assumption) (by assumption) (by assumption))⟩))
        exact ⟨⟨rfl, ⟨rfl, ⟨(eqI (wrS (by omega))), trivial⟩⟩⟩, trivial, rfl⟩
    ·
      have h2' := h2
      try simp only [decide_eq_true_eq, decide_eq_false_iff_not, Bool.not_eq_true', Bool.not_eq_false', Bool.not_false, Bool.not_true] at h2'
      refine t_exit rfl ?_
      refine t_seq ?_
      refine t_region ?_
      refine r_op (o_assign rfl rfl) ?_
      refine r_end ?_
      refine t_ret Try.func80 (.tmp rfl .nil) rfl fun E S w u hI hd => ?_
      refine post_mk hI hd ?_ trivial rfl rfl rfl <;> clear hI hd <;> (try clear ih0)
      all_goals first | rfl | ((obtain rfl : m = a.length := by omega); rw [List.take_length, i2, List.take_length] at i3; simp [i3])
end Go.Eng
