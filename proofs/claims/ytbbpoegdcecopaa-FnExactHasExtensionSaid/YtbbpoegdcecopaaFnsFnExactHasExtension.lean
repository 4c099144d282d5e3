/- What the functions that FnExactHasExtension reaches answer. -/
import Derived.Test.YtbbpoegdcecopaaFnsFnExactHasExtensionp0
import Derived.Test.YtbbpoegdcecopaaEngZp
import Derived.Test.YtbbpoegdcecopaaChecked
set_option linter.unusedVariables false
set_option linter.unusedSimpArgs false
namespace Go.Eng
open Go Go.RowKit Go.Proofs
set_option maxHeartbeats 1000000 in
set_option maxRecDepth 10000 in
theorem c_laws_eqInstance (a0 : List (List UInt8 × Int × Bool)) (a1 : List (Int × (List (Int)))) (b0 : List (List UInt8 × Int × Bool)) (b1 : List (Int × (List (Int)))) (hs : (szS (fun (x : List UInt8 × Int × Bool) => (x.1).length) (a0)) + (szS (fun (x : Int × (List (Int))) => (x.2).length) (a1)) ≤ 1048576) : Pu Try.prog 29 [.agg [.t none (.sl 3 (enS3 encS encI encB) (a0)), .t none (.sl 2 (enS2 encI (enSl 1 encI)) (a1))], .agg [.t none (.sl 3 (enS3 encS encI encB) (b0)), .t none (.sl 2 (enS2 encI (enSl 1 encI)) (b1))]] [] 0 (.c (.t none (.v (.bool (decide ((a0, a1) = (b0, b1))))))) := by
  refine pu_enter Try.func29 rfl (Nat.le_of_ble_eq_true rfl) fun w S => ?_
  refine t_seq ?_
  refine t_region ?_
  refine r_op (o_box 0 rfl rfl rfl rfl) ?_
  refine r_op (o_box 1 rfl rfl rfl rfl) ?_
  refine r_op (o_assign rfl rfl) ?_
  refine r_end ?_
  refine t_seq ?_
  refine t_seq ?_
  refine t_region ?_
  refine r_op (o_fieldb rfl (off := 0) (by kernel_rfl) rfl) ?_
  refine r_op (o_load1b rfl (by kernel_rfl) rfl rfl rfl) ?_
  refine r_op (o_fieldb rfl (off := 0) (by kernel_rfl) rfl) ?_
  refine r_op (o_load1b rfl (by kernel_rfl) rfl rfl rfl) ?_
  refine r_op (o_call 2 2 false (Go.Proofs.enters_of Try.func18 (by kernel_rfl) rfl) (c_laws_eqRelationS (a0) (b0) (by first | omega | (simp; omega))) rfl (.cons rfl (.c .t0) (.cons rfl (.c .t0) .nil)) rfl rfl rfl) ?_
  refine r_op (o_not rfl rfl) ?_
  refine r_end ?_
  refine t_cond rfl (fun h1 => ?_) (fun h1 => ?_)
  ·
    have h1' := h1
    try simp only [decide_eq_true_eq, decide_eq_false_iff_not, Bool.not_eq_true', Bool.not_eq_false', Bool.not_false, Bool.not_true] at h1'
    refine t_seq ?_
    refine t_region ?_
    refine r_op (o_assign rfl rfl) ?_
    refine r_end ?_
    refine t_ret Try.func29 (.tmp rfl .nil) rfl fun E S w u hI hd => ?_
    refine post_mk hI hd ?_ trivial rfl rfl rfl <;> clear hI hd
    all_goals first | rfl | (simp_all)
  ·
    have h1' := h1
    try simp only [decide_eq_true_eq, decide_eq_false_iff_not, Bool.not_eq_true', Bool.not_eq_false', Bool.not_false, Bool.not_true] at h1'
    refine t_skip ?_
    refine t_seq ?_
    refine t_seq ?_
    refine t_region ?_
    refine r_op (o_fieldb rfl (off := 1) (by kernel_rfl) rfl) ?_
    refine r_op (o_load1b rfl (by kernel_rfl) rfl rfl rfl) ?_
    refine r_op (o_fieldb rfl (off := 1) (by kernel_rfl) rfl) ?_
    refine r_op (o_load1b rfl (by kernel_rfl) rfl rfl rfl) ?_
    refine r_op (o_call 2 2 false (Go.Proofs.enters_of Try.func80 (by kernel_rfl) rfl) (c_laws_eqFactS (a1) (b1) (by first | omega | (simp; omega))) rfl (.cons rfl (.c .t0) (.cons rfl (.c .t0) .nil)) rfl rfl rfl) ?_
    refine r_op (o_not rfl rfl) ?_
    refine r_end ?_
    refine t_cond rfl (fun h2 => ?_) (fun h2 => ?_)
    ·
      have h2' := h2
      try simp only [decide_eq_true_eq, decide_eq_false_iff_not, Bool.not_eq_true', Bool.not_eq_false', Bool.not_false, Bool.not_true] at h2'
      refine t_seq ?_
      refine t_region ?_
      refine r_op (o_assign rfl rfl) ?_
      refine r_end ?_
      refine t_ret Try.func29 (.tmp rfl .nil) rfl fun E S w u hI hd => ?_
      refine post_mk hI hd ?_ trivial rfl rfl rfl <;> clear hI hd
      all_goals first | rfl | (simp_all)
    ·
      have h2' := h2
      try simp only [decide_eq_true_eq, decide_eq_false_iff_not, Bool.not_eq_true', Bool.not_eq_false', Bool.not_false, Bool.not_true] at h2'
      refine t_skip ?_
      refine t_seq ?_
      refine t_region ?_
      refine r_op (o_assign rfl rfl) ?_
      refine r_end ?_
      refine t_ret Try.func29 (.tmp rfl .nil) rfl fun E S w u hI hd => ?_
      refine post_mk hI hd ?_ trivial rfl rfl rfl <;> clear hI hd
      all_goals first | rfl | (simp_all)
set_option maxHeartbeats 1000000 in
set_option maxRecDepth 10000 in
theorem c_laws_eqAtom (a0 : Int) (a1 : List (Int)) (b0 : Int) (b1 : List (Int)) (hs : (a1).length ≤ 1048576) : Pu Try.prog 104 [.agg [.t none (.v (.int .i64 (a0))), .t none (.sl 1 encI (a1))], .agg [.t none (.v (.int .i64 (b0))), .t none (.sl 1 encI (b1))]] [] 0 (.c (.t none (.v (.bool (decide ((a0, a1) = (b0, b1))))))) := by
  refine pu_enter Try.func104 rfl (Nat.le_of_ble_eq_true rfl) fun w S => ?_
  refine t_seq ?_
  refine t_region ?_
  refine r_op (o_box 0 rfl rfl rfl rfl) ?_
  refine r_op (o_box 1 rfl rfl rfl rfl) ?_
  refine r_op (o_assign rfl rfl) ?_
  refine r_end ?_
  refine t_seq ?_
  refine t_seq ?_
  refine t_region ?_
  refine r_op (o_fieldb rfl (off := 0) (by kernel_rfl) rfl) ?_
  refine r_op (o_load1b rfl (by kernel_rfl) rfl rfl rfl) ?_
  refine r_op (o_fieldb rfl (off := 0) (by kernel_rfl) rfl) ?_
  refine r_op (o_load1b rfl (by kernel_rfl) rfl rfl rfl) ?_
  refine r_op (o_bin rfl rfl rfl rfl) ?_
  refine r_end ?_
  refine t_cond rfl (fun h1 => ?_) (fun h1 => ?_)
  ·
    have h1' := h1
    try simp only [decide_eq_true_eq, decide_eq_false_iff_not, Bool.not_eq_true', Bool.not_eq_false', Bool.not_false, Bool.not_true] at h1'
    refine t_seq ?_
    refine t_region ?_
    refine r_op (o_assign rfl rfl) ?_
    refine r_end ?_
    refine t_ret Try.func104 (.tmp rfl .nil) rfl fun E S w u hI hd => ?_
    refine post_mk hI hd ?_ trivial rfl rfl rfl <;> clear hI hd
    all_goals first | rfl | (simp_all)
  ·
    have h1' := h1
    try simp only [decide_eq_true_eq, decide_eq_false_iff_not, Bool.not_eq_true', Bool.not_eq_false', Bool.not_false, Bool.not_true] at h1'
    refine t_skip ?_
    refine t_seq ?_
    refine t_seq ?_
    refine t_region ?_
    refine r_op (o_fieldb rfl (off := 1) (by kernel_rfl) rfl) ?_
    refine r_op (o_load1b rfl (by kernel_rfl) rfl rfl rfl) ?_
    refine r_op (o_fieldb rfl (off := 1) (by kernel_rfl) rfl) ?_
    refine r_op (o_load1b rfl (by kernel_rfl) rfl rfl rfl) ?_
    refine r_op (o_call 2 2 false (Go.Proofs.enters_of Try.func46 (by kernel_rfl) rfl) (c_laws_eqIntS (a1) (b1) (by first | omega | (simp; omega))) rfl (.cons rfl (.c .t0) (.cons rfl (.c .t0) .nil)) rfl rfl rfl) ?_
    refine r_op (o_not rfl rfl) ?_
    refine r_end ?_
    refine t_cond rfl (fun h2 => ?_) (fun h2 => ?_)
    ·
      have h2' := h2
      try simp only [decide_eq_true_eq, decide_eq_false_iff_not, Bool.not_eq_true', Bool.not_eq_false', Bool.not_false, Bool.not_true] at h2'
      refine t_seq ?_
      refine t_region ?_
      refine r_op (o_assign rfl rfl) ?_
      refine r_end ?_
      refine t_ret Try.func104 (.tmp rfl .nil) rfl fun E S w u hI hd => ?_
      refine post_mk hI hd ?_ trivial rfl rfl rfl <;> clear hI hd
      all_goals first | rfl | (simp_all)
    ·
      have h2' := h2
      try simp only [decide_eq_true_eq, decide_eq_false_iff_not, Bool.not_eq_true', Bool.not_eq_false', Bool.not_false, Bool.not_true] at h2'
      refine t_skip ?_
      refine t_seq ?_
      refine t_region ?_
      refine r_op (o_assign rfl rfl) ?_
      refine r_end ?_
      refine t_ret Try.func104 (.tmp rfl .nil) rfl fun E S w u hI hd => ?_
      refine post_mk hI hd ?_ trivial rfl rfl rfl <;> clear hI hd
      all_goals first | rfl | (simp_all)
set_option maxHeartbeats 1000000 in
set_option maxRecDepth 10000 in
theorem c_laws_eqAtomS (a b : List (Int × (List (Int)))) (hs : szS (fun (x : Int × (List (Int))) => (x.2).length) a ≤ 1048576) : Pu Try.prog 45 [.c (.t none (.sl 2 (enS2 encI (enSl 1 encI)) (a))), .c (.t none (.sl 2 (enS2 encI (enSl 1 encI)) (b)))] [] 0 (.c (.t none (.v (.bool (decide (a = b)))))) := by
  refine pu_enter Try.func45 rfl (Nat.le_of_ble_eq_true rfl) fun w S => ?_
  have gl := sz_len (f := (fun (x : Int × (List (Int))) => (x.2).length)) (l := a)
  refine t_seq ?_
  refine t_region ?_
  refine r_op (o_assign rfl rfl) ?_
  refine r_end ?_
  refine t_seq ?_
  refine t_seq ?_
  refine t_region ?_
  refine r_op (o_move rfl rfl) ?_
  refine r_op (o_len rfl rfl rfl) ?_
  refine r_op (o_move rfl rfl) ?_
  refine r_op (o_len rfl rfl rfl) ?_
  refine r_op (o_bin rfl rfl rfl rfl) ?_
  refine r_end ?_
  refine t_cond rfl (fun h1 => ?_) (fun h1 => ?_)
  ·
    have h1' := h1
    try simp only [decide_eq_true_eq, decide_eq_false_iff_not, Bool.not_eq_true', Bool.not_eq_false', Bool.not_false, Bool.not_true] at h1'
    refine t_seq ?_
    refine t_region ?_
    refine r_op (o_assign rfl rfl) ?_
    refine r_end ?_
    refine t_ret Try.func45 (.tmp rfl .nil) rfl fun E S w u hI hd => ?_
    refine post_mk hI hd ?_ trivial rfl rfl rfl <;> clear hI hd <;> (try clear ih0)
    all_goals first | rfl | ((have : a ≠ b := by rintro rfl; simp at *); simp [this])
  ·
    have h1' := h1
    try simp only [decide_eq_true_eq, decide_eq_false_iff_not, Bool.not_eq_true', Bool.not_eq_false', Bool.not_false, Bool.not_true] at h1'
    refine t_skip ?_
    refine t_seq ?_
    refine t_seq ?_
    refine t_region ?_
    refine r_op (o_assign rfl rfl) ?_
    refine r_end ?_
    refine t_block ?_
    refine t_loopL (fun m => ⟨[(0, some (.c (.t none (.sl 2 (enS2 encI (enSl 1 encI)) (a))))), (1, some (.c (.t none (.sl 2 (enS2 encI (enSl 1 encI)) (b))))), (5, some (.c (.t none (.v (.int .i64 ((m : Int)))))))], [], 0⟩ : Nat → St) (fun m => m ≤ a.length ∧ a.length = b.length ∧ a.take m = b.take m) (fun m => a.length - m) 0 ⟨⟨rfl, ⟨rfl, ⟨rfl, trivial⟩⟩⟩, trivial, rfl⟩ (by exact ⟨Nat.zero_le _, by omega, rfl⟩) ?_
    rintro m hI ih0
    try dsimp only at hI ih0
    obtain ⟨i1, i2, i3⟩ := hI
    refine t_seq ?_
    refine t_seq ?_
    refine t_region ?_
    refine r_op (o_move rfl rfl) ?_
    refine r_op (o_move rfl rfl) ?_
    refine r_op (o_len rfl rfl rfl) ?_
    refine r_op (o_bin rfl rfl rfl rfl) ?_
    refine r_end ?_
    refine t_cond rfl (fun h2 => ?_) (fun h2 => ?_)
    ·
      have h2' := h2
      try simp only [decide_eq_true_eq, decide_eq_false_iff_not, Bool.not_eq_true', Bool.not_eq_false', Bool.not_false, Bool.not_true] at h2'
      refine t_skip ?_
      refine t_seq ?_
      refine t_block ?_
      refine t_seq ?_
      refine t_draw (fun _ => true) (by kernel_rfl) ?_
      refine d_take 0 rfl rfl (by kernel_rfl) (by kernel_rfl) (by kernel_rfl) (p_move rfl) ?_
      refine d_take 1 rfl rfl (by kernel_rfl) (by kernel_rfl) (by kernel_rfl) (p_move rfl) ?_
      obtain ⟨z3, hz4, b5⟩ := at_get (xs := a) (n := (m : Int)) (by first | omega | (have e1 := sz_at (f := (fun (x : Int × (List (Int))) => (x.2).length)) (l := a) (m := m) (by assumption); (try dsimp only at e1); omega)) (by first | omega | (have e1 := sz_at (f := (fun (x : Int × (List (Int))) => (x.2).length)) (l := a) (m := m) (by assumption); (try dsimp only at e1); omega))
      refine d_take 2 rfl rfl (by kernel_rfl) (by kernel_rfl) (by kernel_rfl) (p_index (by kernel_rfl) rfl rfl b5 hz4) ?_
      refine d_take 3 rfl rfl (by kernel_rfl) (by kernel_rfl) (by kernel_rfl) (p_loadA (n := 2) (by kernel_rfl) (by kernel_rfl) rfl rfl) ?_
      refine d_take 4 rfl rfl (by kernel_rfl) (by kernel_rfl) (by kernel_rfl) (p_move rfl) ?_
      refine d_take 5 rfl rfl (by kernel_rfl) (by kernel_rfl) (by kernel_rfl) (p_move rfl) ?_
      obtain ⟨z6, hz7, b8⟩ := at_get (xs := b) (n := (m : Int)) (by first | omega | (have e1 := sz_at (f := (fun (x : Int × (List (Int))) => (x.2).length)) (l := a) (m := m) (by assumption); (try dsimp only at e1); omega)) (by first | omega | (have e1 := sz_at (f := (fun (x : Int × (List (Int))) => (x.2).length)) (l := a) (m := m) (by assumption); (try dsimp only at e1); omega))
      refine d_take 6 rfl rfl (by kernel_rfl) (by kernel_rfl) (by kernel_rfl) (p_index (by kernel_rfl) rfl rfl b8 hz7) ?_
      refine d_take 7 rfl rfl (by kernel_rfl) (by kernel_rfl) (by kernel_rfl) (p_loadA (n := 2) (by kernel_rfl) (by kernel_rfl) rfl rfl) ?_
      refine d_only 8 rfl (by kernel_rfl) rfl (o_call 0 0 false (Go.Proofs.enters_of Try.func104 (by kernel_rfl) rfl) (c_laws_eqAtom (z3.1) (z3.2) (z6.1) (z6.2) (by first | omega | (have e1 := sz_at (f := (fun (x : Int × (List (Int))) => (x.2).length)) (l := a) (m := m) (by assumption); (try dsimp only at e1); omega))) rfl (.cons rfl (.agg (.cons .t0 (.cons .t0 .nil))) (.cons rfl (.agg (.cons .t0 (.cons .t0 .nil))) .nil)) rfl rfl rfl) ?_
      refine d_take 9 rfl rfl (by kernel_rfl) (by kernel_rfl) (by kernel_rfl) (p_not rfl) ?_
      refine d_end (by kernel_rfl) ?_
      refine t_cond rfl (fun h9 => ?_) (fun h9 => ?_)
      ·
        have h9' := h9
        try simp only [decide_eq_true_eq, decide_eq_false_iff_not, Bool.not_eq_true', Bool.not_eq_false', Bool.not_false, Bool.not_true] at h9'
        refine t_seq ?_
        refine t_region ?_
        refine r_op (o_assign rfl rfl) ?_
        refine r_end ?_
        refine t_ret Try.func45 (.tmp rfl .nil) rfl fun E S w u hI hd => ?_
        refine post_mk hI hd ?_ trivial rfl rfl rfl <;> clear hI hd <;> (try clear ih0)
        all_goals first | rfl | (have := ne_at (a := a) (b := b) (by assumption) (by assumption) (by assumption); simp_all)
      ·
        have h9' := h9
        try simp only [decide_eq_true_eq, decide_eq_false_iff_not, Bool.not_eq_true', Bool.not_eq_false', Bool.not_false, Bool.not_true] at h9'
        refine t_skip ?_
        refine t_endblock ?_
        refine t_region ?_
        refine r_op (o_move rfl rfl) ?_
        refine r_op (o_bin rfl rfl rfl rfl) ?_
        refine r_op (o_assign rfl rfl) ?_
        refine r_end ?_
        refine t_le ?_ (ih0 (m + 1) (by (try dsimp only); omega) (by (try dsimp only); exact ⟨by omega, i2, take_same i3 (same_at (by assumption) (by assumption) (by assumption))⟩))
        exact ⟨⟨rfl, ⟨rfl, ⟨(eqI (wrS (by omega))), trivial⟩⟩⟩, trivial, rfl⟩
    ·
      have h2' := h2
      try simp only [decide_eq_true_eq, decide_eq_false_iff_not, Bool.not_eq_true', Bool.not_eq_false', Bool.not_false, Bool.not_true] at h2'
      refine t_exit rfl ?_
      refine t_seq ?_
      refine t_region ?_
      refine r_op (o_assign rfl rfl) ?_
      refine r_end ?_
      refine t_ret Try.func45 (.tmp rfl .nil) rfl fun E S w u hI hd => ?_
      refine post_mk hI hd ?_ trivial rfl rfl rfl <;> clear hI hd <;> (try clear ih0)
      all_goals first | rfl | ((obtain rfl : m = a.length := by omega); rw [List.take_length, i2, List.take_length] at i3; simp [i3])
set_option maxHeartbeats 1000000 in
set_option maxRecDepth 10000 in
theorem c_laws_FnExactHasExtension (a0 : Rels) (a1 l : Atoms) (b : List Int) (h0 : (okL (fun (x : List UInt8 × Int × Bool) => okS (x.1) ∧ okI (x.2.1) ∧ okB (x.2.2))) a0) (h1 : (okL (fun (x : Int × (List (Int))) => okI (x.1) ∧ (okL okI) (x.2))) a1) (h2 : (okL (fun (x : Int × (List (Int))) => okI (x.1) ∧ (okL okI) (x.2))) l) (h3 : okL okI b) : Pu Try.prog 7 [.agg [.t none (.sl 3 (enS3 encS encI encB) (a0)), .t none (.sl 2 (enS2 encI (enSl 1 encI)) (a1))], .c (.t none (.sl 2 (enS2 encI (enSl 1 encI)) (l))), .c (.t none (.sl 1 encI (b)))] [] 0 (.c (.t none (.v (.bool (true))))) := by
  refine pu_enter Try.func7 rfl (Nat.le_of_ble_eq_true rfl) fun w S => ?_
  have g_a0 := h0.1; have g_a1 := h1.1; have g_l := h2.1; have g_b := h3.1; have ho : ∀ z ∈ a1, ∀ x ∈ z.2, okI x := fun z hz x hx => ((h1.2 z hz).2).2 x hx
  refine t_seq ?_
  refine t_region ?_
  refine r_op (o_box 0 rfl rfl rfl rfl) ?_
  refine r_op (o_assign rfl rfl) ?_
  refine r_end ?_
  refine t_seq ?_
  refine t_seq ?_
  refine t_region ?_
  refine r_op (o_move rfl rfl) ?_
  refine r_op (o_len rfl rfl rfl) ?_
  refine r_op (o_bin rfl rfl rfl rfl) ?_
  refine r_end ?_
  refine t_cond rfl (fun h1 => ?_) (fun h1 => ?_)
  ·
    have h1' := h1
    try simp only [decide_eq_true_eq, decide_eq_false_iff_not, Bool.not_eq_true', Bool.not_eq_false', Bool.not_false, Bool.not_true] at h1'
    refine t_seq ?_
    refine t_region ?_
    refine r_op (o_assign rfl rfl) ?_
    refine r_end ?_
    refine t_ret Try.func7 (.tmp rfl .nil) rfl fun E S w u hI hd => ?_
    refine post_mk hI hd ?_ trivial rfl rfl rfl <;> clear hI hd
    all_goals first | rfl | (exfalso; simp at *)
  ·
    have h1' := h1
    try simp only [decide_eq_true_eq, decide_eq_false_iff_not, Bool.not_eq_true', Bool.not_eq_false', Bool.not_false, Bool.not_true] at h1'
    refine t_skip ?_
    refine t_seq ?_
    refine t_region ?_
    refine r_op (o_assign rfl rfl) ?_
    refine r_end ?_
    refine t_seq ?_
    refine t_region ?_
    refine r_op (o_loadAb rfl (n := 2) (by kernel_rfl) (by kernel_rfl) rfl rfl rfl) ?_
    refine r_op (o_move rfl rfl) ?_
    refine r_op (o_call 1 1 false (Go.Proofs.enters_of Try.func25 (by kernel_rfl) rfl) (c_laws_szInstance (a0) (a1) (1048576) (by first | omega | assumption | (simp only [seqI_length]; done) | (simp only [seqI_length]; omega) | (have e := sz_len (f := (fun (x : List UInt8 × Int × Bool) => (x.1).length)) (l := a0); omega)) (by first | omega | assumption | (simp only [seqI_length]; done) | (simp only [seqI_length]; omega) | (have e := sz_len (f := (fun (x : List UInt8 × Int × Bool) => (x.1).length)) (l := a0); omega)) (by first | omega | assumption | (simp only [seqI_length]; done) | (simp only [seqI_length]; omega) | (have e := sz_len (f := (fun (x : List UInt8 × Int × Bool) => (x.1).length)) (l := a0); omega)) (by first | omega | assumption | (simp only [seqI_length]; done) | (simp only [seqI_length]; omega) | (have e := sz_len (f := (fun (x : List UInt8 × Int × Bool) => (x.1).length)) (l := a0); omega))) rfl (.cons rfl (.agg (.cons .t0 (.cons .t0 .nil))) (.cons rfl (.c .t0) .nil)) rfl rfl rfl) ?_
    refine r_op (o_assign rfl rfl) ?_
    refine r_end ?_
    refine t_seq ?_
    refine t_seq ?_
    refine t_region ?_
    refine r_op (o_move rfl rfl) ?_
    refine r_op (o_bin rfl rfl rfl rfl) ?_
    refine r_end ?_
    refine t_cond rfl (fun h2 => ?_) (fun h2 => ?_)
    ·
      have h2' := h2
      try simp only [decide_eq_true_eq, decide_eq_false_iff_not, Bool.not_eq_true', Bool.not_eq_false', Bool.not_false, Bool.not_true] at h2'
      refine t_seq ?_
      refine t_region ?_
      refine r_op (o_assign rfl rfl) ?_
      refine r_end ?_
      refine t_ret Try.func7 (.tmp rfl .nil) rfl fun E S w u hI hd => ?_
      refine post_mk hI hd ?_ trivial rfl rfl rfl <;> clear hI hd
      all_goals first | rfl | (exfalso; simp at *)
    ·
      have h2' := h2
      try simp only [decide_eq_true_eq, decide_eq_false_iff_not, Bool.not_eq_true', Bool.not_eq_false', Bool.not_false, Bool.not_true] at h2'
      refine t_skip ?_
      refine t_seq ?_
      refine t_region ?_
      refine r_op (o_move rfl rfl) ?_
      refine r_op (o_move rfl rfl) ?_
      refine r_op (o_call 1 1 false (Go.Proofs.enters_of Try.func40 (by kernel_rfl) rfl) (c_laws_szAtomS (l) (if (1048576) - (((szS (fun (x : List UInt8 × Int × Bool) => (x.1).length) ((a0))) + (szS (fun (x : Int × (List (Int))) => (x.2).length) ((a1))) : Nat) : Int) < 0 then -1 else (1048576) - (((szS (fun (x : List UInt8 × Int × Bool) => (x.1).length) ((a0))) + (szS (fun (x : Int × (List (Int))) => (x.2).length) ((a1))) : Nat) : Int)) (by first | omega | assumption | (simp only [seqI_length]; done) | (simp only [seqI_length]; omega) | (have e := sz_len (f := (fun (x : List UInt8 × Int × Bool) => (x.1).length)) (l := a0); omega)) (by first | omega | assumption | (simp only [seqI_length]; done) | (simp only [seqI_length]; omega) | (have e := sz_len (f := (fun (x : List UInt8 × Int × Bool) => (x.1).length)) (l := a0); omega)) (by first | omega | assumption | (simp only [seqI_length]; done) | (simp only [seqI_length]; omega) | (have e := sz_len (f := (fun (x : List UInt8 × Int × Bool) => (x.1).length)) (l := a0); omega))) rfl (.cons rfl (.c .t0) (.cons rfl (.c .t0) .nil)) rfl rfl rfl) ?_
      refine r_op (o_assign rfl rfl) ?_
      refine r_end ?_
      refine t_seq ?_
      refine t_seq ?_
      refine t_region ?_
      refine r_op (o_move rfl rfl) ?_
      refine r_op (o_bin rfl rfl rfl rfl) ?_
      refine r_end ?_
      refine t_cond rfl (fun h3 => ?_) (fun h3 => ?_)
      ·
        have h3' := h3
        try simp only [decide_eq_true_eq, decide_eq_false_iff_not, Bool.not_eq_true', Bool.not_eq_false', Bool.not_false, Bool.not_true] at h3'
        refine t_seq ?_
        refine t_region ?_
        refine r_op (o_assign rfl rfl) ?_
        refine r_end ?_
        refine t_ret Try.func7 (.tmp rfl .nil) rfl fun E S w u hI hd => ?_
        refine post_mk hI hd ?_ trivial rfl rfl rfl <;> clear hI hd
        all_goals first | rfl | (exfalso; simp at *)
      ·
        have h3' := h3
        try simp only [decide_eq_true_eq, decide_eq_false_iff_not, Bool.not_eq_true', Bool.not_eq_false', Bool.not_false, Bool.not_true] at h3'
        refine t_skip ?_
        refine t_seq ?_
        refine t_region ?_
        refine r_op (o_loadAb rfl (n := 2) (by kernel_rfl) (by kernel_rfl) rfl rfl rfl) ?_
        refine r_op (o_call 1 6 false (Go.Proofs.enters_of Try.func27 (by kernel_rfl) rfl) (c_laws_toInstance (a0) (a1) (by first | omega | assumption | (simp only [seqI_length]; done) | (simp only [seqI_length]; omega) | (have e := sz_len (f := (fun (x : List UInt8 × Int × Bool) => (x.1).length)) (l := a0); omega))) rfl (.cons rfl (.agg (.cons .t0 (.cons .t0 .nil))) .nil) rfl rfl rfl) ?_
        refine r_op (o_move rfl rfl) ?_
        refine r_op (o_call 6 7 false (Go.Proofs.enters_of Try.func42 (by kernel_rfl) rfl) (c_laws_toAtomS (l) (by first | omega | assumption | (simp only [seqI_length]; done) | (simp only [seqI_length]; omega) | (have e := sz_len (f := (fun (x : List UInt8 × Int × Bool) => (x.1).length)) (l := a0); omega))) rfl (.cons rfl (.c .t0) .nil) rfl rfl rfl) ?_
        refine r_op (o_move rfl rfl) ?_
        refine r_op (o_call 7 8 false (Go.Proofs.enters_of Try.func43 (by kernel_rfl) rfl) (c_laws_toIntS (b) (by first | omega | assumption | (simp only [seqI_length]; done) | (simp only [seqI_length]; omega) | (have e := sz_len (f := (fun (x : List UInt8 × Int × Bool) => (x.1).length)) (l := a0); omega))) rfl (.cons rfl (.c .t0) .nil) rfl rfl rfl) ?_
        refine r_op (o_call 8 8 false (Go.Proofs.enters_of Try.func41 (by kernel_rfl) rfl) (c_spec_HasExtension ((a0)) ((a1)) ((l)) ((b)) (by first | omega | assumption | (simp only [seqI_length]; done) | (simp only [seqI_length]; omega) | (have e := sz_len (f := (fun (x : List UInt8 × Int × Bool) => (x.1).length)) (l := a0); omega)) (by first | omega | assumption | (simp only [seqI_length]; done) | (simp only [seqI_length]; omega) | (have e := sz_len (f := (fun (x : List UInt8 × Int × Bool) => (x.1).length)) (l := a0); omega)) (by first | omega | assumption | (simp only [seqI_length]; done) | (simp only [seqI_length]; omega) | (have e := sz_len (f := (fun (x : List UInt8 × Int × Bool) => (x.1).length)) (l := a0); omega)) (by first | omega | assumption | (simp only [seqI_length]; done) | (simp only [seqI_length]; omega) | (have e := sz_len (f := (fun (x : List UInt8 × Int × Bool) => (x.1).length)) (l := a0); omega)) (by first | omega | assumption | (simp only [seqI_length]; done) | (simp only [seqI_length]; omega) | (have e := sz_len (f := (fun (x : List UInt8 × Int × Bool) => (x.1).length)) (l := a0); omega))) rfl (.cons rfl (.agg (.cons (.own rfl) (.cons (.own rfl) .nil))) (.cons rfl (.c (.own rfl)) (.cons rfl (.c (.own rfl)) .nil))) rfl rfl rfl) ?_
        refine r_op (o_assign rfl rfl) ?_
        refine r_end ?_
        refine t_seq ?_
        refine t_region ?_
        refine r_op (o_loadAb rfl (n := 2) (by kernel_rfl) (by kernel_rfl) rfl rfl rfl) ?_
        refine r_op (o_call 8 13 false (Go.Proofs.enters_of Try.func27 (by kernel_rfl) rfl) (c_laws_toInstance (a0) (a1) (by first | omega | assumption | (simp only [seqI_length]; done) | (simp only [seqI_length]; omega) | (have e := sz_len (f := (fun (x : List UInt8 × Int × Bool) => (x.1).length)) (l := a0); omega))) rfl (.cons rfl (.agg (.cons .t0 (.cons .t0 .nil))) .nil) rfl rfl rfl) ?_
        refine r_op (o_alloc 13 (zs := [.slice none 0 0, .slice none 0 0]) rfl rfl (by kernel_rfl) rfl) ?_
        refine r_op (o_storeb (n := 2) (by kernel_rfl) rfl rfl rfl rfl rfl rfl) ?_
        refine r_end ?_
        refine t_seq ?_
        refine t_region ?_
        refine r_op (o_move rfl rfl) ?_
        refine r_op (o_call 14 15 false (Go.Proofs.enters_of Try.func42 (by kernel_rfl) rfl) (c_laws_toAtomS (l) (by first | omega | assumption | (simp only [seqI_length]; done) | (simp only [seqI_length]; omega) | (have e := sz_len (f := (fun (x : List UInt8 × Int × Bool) => (x.1).length)) (l := a0); omega))) rfl (.cons rfl (.c .t0) .nil) rfl rfl rfl) ?_
        refine r_op (o_assign rfl rfl) ?_
        refine r_end ?_
        refine t_seq ?_
        refine t_region ?_
        refine r_op (o_move rfl rfl) ?_
        refine r_op (o_call 15 16 false (Go.Proofs.enters_of Try.func43 (by kernel_rfl) rfl) (c_laws_toIntS (b) (by first | omega | assumption | (simp only [seqI_length]; done) | (simp only [seqI_length]; omega) | (have e := sz_len (f := (fun (x : List UInt8 × Int × Bool) => (x.1).length)) (l := a0); omega))) rfl (.cons rfl (.c .t0) .nil) rfl rfl rfl) ?_
        refine r_op (o_assign rfl rfl) ?_
        refine r_end ?_
        refine t_seq ?_
        refine t_region ?_
        refine r_op (o_loadAb rfl (n := 2) (by kernel_rfl) (by kernel_rfl) rfl rfl rfl) ?_
        refine r_op (o_move rfl rfl) ?_
        refine r_op (o_move rfl rfl) ?_
        refine r_op (o_call 16 16 false (Go.Proofs.enters_of Try.func44 (by kernel_rfl) rfl) (c_impl_HasExtension ((a0)) ((a1)) ((l)) ((b)) (by first | omega | assumption | (simp only [seqI_length]; done) | (simp only [seqI_length]; omega) | (have e := sz_len (f := (fun (x : List UInt8 × Int × Bool) => (x.1).length)) (l := a0); omega)) (by first | omega | assumption | (simp only [seqI_length]; done) | (simp only [seqI_length]; omega) | (have e := sz_len (f := (fun (x : List UInt8 × Int × Bool) => (x.1).length)) (l := a0); omega)) (by first | omega | assumption | (simp only [seqI_length]; done) | (simp only [seqI_length]; omega) | (have e := sz_len (f := (fun (x : List UInt8 × Int × Bool) => (x.1).length)) (l := a0); omega)) (by first | omega | assumption | (simp only [seqI_length]; done) | (simp only [seqI_length]; omega) | (have e := sz_len (f := (fun (x : List UInt8 × Int × Bool) => (x.1).length)) (l := a0); omega)) (by first | omega | assumption | (simp only [seqI_length]; done) | (simp only [seqI_length]; omega) | (have e := sz_len (f := (fun (x : List UInt8 × Int × Bool) => (x.1).length)) (l := a0); omega))) rfl (.cons rfl (.agg (.cons (.own rfl) (.cons (.own rfl) .nil))) (.cons rfl (.c (.own rfl)) (.cons rfl (.c (.own rfl)) .nil))) rfl rfl rfl) ?_
        refine r_op (o_assign rfl rfl) ?_
        refine r_end ?_
        refine t_seq ?_
        refine t_seq ?_
        refine t_region ?_
        refine r_op (o_move rfl rfl) ?_
        refine r_op (o_move rfl rfl) ?_
        refine r_op (o_neB rfl Try.underlying4 rfl rfl) ?_
        refine r_end ?_
        refine t_cond rfl (fun h4 => ?_) (fun h4 => ?_)
        ·
          have h4' := h4
          skip
          refine t_seq ?_
          refine t_region ?_
          refine r_op (o_assign rfl rfl) ?_
          refine r_end ?_
          refine t_ret Try.func7 (.tmp rfl .nil) rfl fun E S w u hI hd => ?_
          refine post_mk hI hd ?_ trivial rfl rfl rfl <;> clear hI hd
          all_goals first | rfl | (exfalso; simp at *)
        ·
          have h4' := h4
          skip
          refine t_skip ?_
          refine t_seq ?_
          refine t_seq ?_
          refine t_draw (fun _ => true) (by kernel_rfl) ?_
          refine d_take 0 rfl rfl (by kernel_rfl) (by kernel_rfl) (by kernel_rfl) (p_loadAb (n := 2) (by kernel_rfl) (by kernel_rfl) rfl rfl rfl) ?_
          refine d_take 1 rfl rfl (by kernel_rfl) (by kernel_rfl) (by kernel_rfl) (p_loadAb (n := 2) (by kernel_rfl) (by kernel_rfl) rfl rfl rfl) ?_
          refine d_only 2 rfl (by kernel_rfl) rfl (o_call 16 21 false (Go.Proofs.enters_of Try.func27 (by kernel_rfl) rfl) (c_laws_toInstance (a0) (a1) (by first | omega | assumption | (simp only [seqI_length]; done) | (simp only [seqI_length]; omega) | (have e := sz_len (f := (fun (x : List UInt8 × Int × Bool) => (x.1).length)) (l := a0); omega))) rfl (.cons rfl (.agg (.cons .t0 (.cons .t0 .nil))) .nil) rfl rfl rfl) ?_
          refine d_only 3 rfl (by kernel_rfl) rfl (o_call 21 21 false (Go.Proofs.enters_of Try.func29 (by kernel_rfl) rfl) (c_laws_eqInstance ((a0)) ((a1)) ((a0)) ((a1)) (by first | omega | assumption | (simp only [seqI_length]; done) | (simp only [seqI_length]; omega) | (have e := sz_len (f := (fun (x : List UInt8 × Int × Bool) => (x.1).length)) (l := a0); omega))) rfl (.cons rfl (.agg (.cons (.own rfl) (.cons (.own rfl) .nil))) (.cons rfl (.agg (.cons (.own rfl) (.cons (.own rfl) .nil))) .nil)) rfl rfl rfl) ?_
          refine d_take 4 rfl rfl (by kernel_rfl) (by kernel_rfl) (by kernel_rfl) (p_not rfl) ?_
          refine d_end (by kernel_rfl) ?_
          refine t_cond rfl (fun h5 => ?_) (fun h5 => ?_)
          ·
            have h5' := h5
            try simp only [decide_eq_true_eq, decide_eq_false_iff_not, Bool.not_eq_true', Bool.not_eq_false', Bool.not_false, Bool.not_true] at h5'
            refine t_seq ?_
            refine t_region ?_
            refine r_op (o_assign rfl rfl) ?_
            refine r_end ?_
            refine t_ret Try.func7 (.tmp rfl .nil) rfl fun E S w u hI hd => ?_
            refine post_mk hI hd ?_ trivial rfl rfl rfl <;> clear hI hd
            all_goals first | rfl | (exfalso; simp at *)
          ·
            have h5' := h5
            try simp only [decide_eq_true_eq, decide_eq_false_iff_not, Bool.not_eq_true', Bool.not_eq_false', Bool.not_false, Bool.not_true] at h5'
            refine t_skip ?_
            refine t_seq ?_
            refine t_seq ?_
            refine t_region ?_
            refine r_op (o_move rfl rfl) ?_
            refine r_op (o_move rfl rfl) ?_
            refine r_op (o_call 21 22 false (Go.Proofs.enters_of Try.func42 (by kernel_rfl) rfl) (c_laws_toAtomS (l) (by first | omega | assumption | (simp only [seqI_length]; done) | (simp only [seqI_length]; omega) | (have e := sz_len (f := (fun (x : List UInt8 × Int × Bool) => (x.1).length)) (l := a0); omega))) rfl (.cons rfl (.c .t0) .nil) rfl rfl rfl) ?_
            refine r_op (o_call 22 22 false (Go.Proofs.enters_of Try.func45 (by kernel_rfl) rfl) (c_laws_eqAtomS ((l)) ((l)) (by first | omega | assumption | (simp only [seqI_length]; done) | (simp only [seqI_length]; omega) | (have e := sz_len (f := (fun (x : List UInt8 × Int × Bool) => (x.1).length)) (l := a0); omega))) rfl (.cons rfl (.c (.own rfl)) (.cons rfl (.c (.own rfl)) .nil)) rfl rfl rfl) ?_
            refine r_op (o_not rfl rfl) ?_
            refine r_end ?_
            refine t_cond rfl (fun h6 => ?_) (fun h6 => ?_)
            ·
              have h6' := h6
              try simp only [decide_eq_true_eq, decide_eq_false_iff_not, Bool.not_eq_true', Bool.not_eq_false', Bool.not_false, Bool.not_true] at h6'
              refine t_seq ?_
              refine t_region ?_
              refine r_op (o_assign rfl rfl) ?_
              refine r_end ?_
              refine t_ret Try.func7 (.tmp rfl .nil) rfl fun E S w u hI hd => ?_
              refine post_mk hI hd ?_ trivial rfl rfl rfl <;> clear hI hd
              all_goals first | rfl | (exfalso; simp at *)
            ·
              have h6' := h6
              try simp only [decide_eq_true_eq, decide_eq_false_iff_not, Bool.not_eq_true', Bool.not_eq_false', Bool.not_false, Bool.not_true] at h6'
              refine t_skip ?_
              refine t_seq ?_
              refine t_seq ?_
              refine t_region ?_
              refine r_op (o_move rfl rfl) ?_
              refine r_op (o_move rfl rfl) ?_
              refine r_op (o_call 22 23 false (Go.Proofs.enters_of Try.func43 (by kernel_rfl) rfl) (c_laws_toIntS (b) (by first | omega | assumption | (simp only [seqI_length]; done) | (simp only [seqI_length]; omega) | (have e := sz_len (f := (fun (x : List UInt8 × Int × Bool) => (x.1).length)) (l := a0); omega))) rfl (.cons rfl (.c .t0) .nil) rfl rfl rfl) ?_
              refine r_op (o_call 23 23 false (Go.Proofs.enters_of Try.func46 (by kernel_rfl) rfl) (c_laws_eqIntS ((b)) ((b)) (by first | omega | assumption | (simp only [seqI_length]; done) | (simp only [seqI_length]; omega) | (have e := sz_len (f := (fun (x : List UInt8 × Int × Bool) => (x.1).length)) (l := a0); omega))) rfl (.cons rfl (.c (.own rfl)) (.cons rfl (.c (.own rfl)) .nil)) rfl rfl rfl) ?_
              refine r_op (o_not rfl rfl) ?_
              refine r_end ?_
              refine t_cond rfl (fun h7 => ?_) (fun h7 => ?_)
              ·
                have h7' := h7
                try simp only [decide_eq_true_eq, decide_eq_false_iff_not, Bool.not_eq_true', Bool.not_eq_false', Bool.not_false, Bool.not_true] at h7'
                refine t_seq ?_
                refine t_region ?_
                refine r_op (o_assign rfl rfl) ?_
                refine r_end ?_
                refine t_ret Try.func7 (.tmp rfl .nil) rfl fun E S w u hI hd => ?_
                refine post_mk hI hd ?_ trivial rfl rfl rfl <;> clear hI hd
                all_goals first | rfl | (exfalso; simp at *)
              ·
                have h7' := h7
                try simp only [decide_eq_true_eq, decide_eq_false_iff_not, Bool.not_eq_true', Bool.not_eq_false', Bool.not_false, Bool.not_true] at h7'
                refine t_skip ?_
                refine t_seq ?_
                refine t_region ?_
                refine r_op (o_assign rfl rfl) ?_
                refine r_end ?_
                refine t_ret Try.func7 (.tmp rfl .nil) rfl fun E S w u hI hd => ?_
                refine post_mk hI hd ?_ trivial rfl rfl rfl <;> clear hI hd
                all_goals first | rfl | (exfalso; simp at *)
end Go.Eng
