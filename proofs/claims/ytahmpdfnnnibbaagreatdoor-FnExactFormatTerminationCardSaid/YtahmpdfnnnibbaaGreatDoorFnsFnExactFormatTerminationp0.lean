/- What the functions that FnExactFormatTermination reaches answer. -/
import Derived.Test.YtahmpdfnnnibbaaGreatDoorEngP
import Derived.Test.YtahmpdfnnnibbaaGreatDoorChecked
set_option linter.unusedVariables false
set_option linter.unusedSimpArgs false
namespace Go.Eng
open Go Go.RowKit Go.Proofs
set_option maxHeartbeats 1000000 in
set_option maxRecDepth 10000 in
theorem c_laws_szRelation (a0 : List UInt8) (a1 : Int) (a2 : Bool) (k : Int) (hk : 0 ≤ k) (hk2 : k ≤ 1048576) (h0 : okS a0) : Pu Tryz.prog 34 [.agg [.t none (.v (.string (mkS (a0)))), .t none (.v (.int .i64 (a1))), .t none (.v (.bool (a2)))], .c (.t none (.v (.int .i64 (k))))] [] 0 (.c (.t none (.v (.int .i64 (if k - (((a0).length : Nat) : Int) < 0 then -1 else k - (((a0).length : Nat) : Int)))))) := by
  refine pu_enter Tryz.func34 rfl (Nat.le_of_ble_eq_true rfl) fun w S => ?_
  have g_a0 : (a0).length ≤ 9223372036854775807 := h0
  refine t_seq ?_
  refine t_region ?_
  refine r_op (o_box 0 rfl rfl rfl rfl) ?_
  refine r_op (o_assign rfl rfl) ?_
  refine r_end ?_
  refine t_seq ?_
  refine t_region ?_
  refine r_op (o_move rfl rfl) ?_
  refine r_op (o_fieldb rfl (off := 0) (by kernel_rfl) rfl) ?_
  refine r_op (o_load1b rfl (by kernel_rfl) rfl rfl rfl) ?_
  refine r_op (o_lenS rfl Tryz.underlying9 rfl) ?_
  refine r_op (o_bin rfl rfl rfl rfl) ?_
  refine r_op (o_assign rfl rfl) ?_
  refine r_end ?_
  refine t_seq ?_
  refine t_seq ?_
  refine t_region ?_
  refine r_op (o_move rfl rfl) ?_
  refine r_op (o_bin rfl rfl rfl rfl) ?_
  refine r_end ?_
  refine t_cond rfl (fun h1 => ?_) (fun h1 => ?_)
  ·
    have h1' := of_decide_eq_true h1
    refine t_seq ?_
    refine t_region ?_
    refine r_op (o_assign rfl rfl) ?_
    refine r_end ?_
    refine t_ret Tryz.func34 (.tmp rfl .nil) rfl fun E S w u hI hd => ?_
    refine post_mk hI hd ?_ trivial rfl rfl rfl <;> clear hI hd
    all_goals first | rfl | (refine scI ?_; (try simp only [IntKind.wrap_i64] at *); omega)
  ·
    have h1' := of_decide_eq_false h1
    refine t_skip ?_
    refine t_seq ?_
    refine t_region ?_
    refine r_op (o_move rfl rfl) ?_
    refine r_op (o_assign rfl rfl) ?_
    refine r_end ?_
    refine t_ret Tryz.func34 (.tmp rfl .nil) rfl fun E S w u hI hd => ?_
    refine post_mk hI hd ?_ trivial rfl rfl rfl <;> clear hI hd
    all_goals first | rfl | (refine scI ?_; (try simp only [IntKind.wrap_i64] at *); omega)
set_option maxHeartbeats 1000000 in
set_option maxRecDepth 10000 in
theorem c_laws_szRelationS (l : List (List UInt8 × Int × Bool)) (k : Int) (hk : 0 ≤ k) (hk2 : k ≤ 1048576) (hl : (okL (fun (x : List UInt8 × Int × Bool) => okS (x.1) ∧ okI (x.2.1) ∧ okB (x.2.2))) l) : Pu Tryz.prog 8 [.c (.t none (.sl 3 (enS3 encS encI encB) (l))), .c (.t none (.v (.int .i64 (k))))] [] 0 (.c (.t none (.v (.int .i64 (if k - ((szS (fun (x : List UInt8 × Int × Bool) => (x.1).length) l : Nat) : Int) < 0 then -1 else k - ((szS (fun (x : List UInt8 × Int × Bool) => (x.1).length) l : Nat) : Int)))))) := by
  refine pu_enter Tryz.func8 rfl (Nat.le_of_ble_eq_true rfl) fun w S => ?_
  have gl := hl.1
  refine t_seq ?_
  refine t_region ?_
  refine r_op (o_assign rfl rfl) ?_
  refine r_end ?_
  refine t_seq ?_
  refine t_region ?_
  refine r_op (o_move rfl rfl) ?_
  refine r_op (o_move rfl rfl) ?_
  refine r_op (o_len rfl rfl rfl) ?_
  refine r_op (o_bin rfl rfl rfl rfl) ?_
  refine r_op (o_assign rfl rfl) ?_
  refine r_end ?_
  refine t_seq ?_
  refine t_seq ?_
  refine t_region ?_
  refine r_op (o_move rfl rfl) ?_
  refine r_op (o_bin rfl rfl rfl rfl) ?_
  refine r_end ?_
  refine t_cond rfl (fun h1 => ?_) (fun h1 => ?_)
  ·
    have h1' := of_decide_eq_true h1
    refine t_seq ?_
    refine t_region ?_
    refine r_op (o_assign rfl rfl) ?_
    refine r_end ?_
    refine t_ret Tryz.func8 (.tmp rfl .nil) rfl fun E S w u hI hd => ?_
    refine post_mk hI hd ?_ trivial rfl rfl rfl <;> clear hI hd <;> (try clear ih0)
    all_goals first | rfl | (refine scI ?_; (simp only [IntKind.wrap_i64] at *); have e1 := sz_len (f := (fun (x : List UInt8 × Int × Bool) => (x.1).length)) (l := l); omega)
  ·
    have h1' := of_decide_eq_false h1
    refine t_skip ?_
    refine t_seq ?_
    refine t_seq ?_
    refine t_region ?_
    refine r_op (o_assign rfl rfl) ?_
    refine r_end ?_
    refine t_block ?_
    refine t_loopL (fun m => ⟨[(0, some (.c (.t none (.sl 3 (enS3 encS encI encB) (l))))), (1, some (.c (.t none (.v (.int .i64 (k - l.length - ((szT (fun (x : List UInt8 × Int × Bool) => (x.1).length) l m : Nat) : Int))))))), (5, some (.c (.t none (.v (.int .i64 ((m : Int)))))))], [], 0⟩ : Nat → St) (fun m => m ≤ l.length ∧ 0 ≤ k - l.length - ((szT (fun (x : List UInt8 × Int × Bool) => (x.1).length) l m : Nat) : Int)) (fun m => l.length - m) 0 ⟨⟨rfl, ⟨(eqI (by rw [wr64 (by omega) (by omega)]; simp [szT_zero])), ⟨rfl, trivial⟩⟩⟩, trivial, rfl⟩ (by exact ⟨Nat.zero_le _, by (simp only [IntKind.wrap_i64] at *); simp only [szT_zero]; omega⟩) ?_
    rintro m hI ih0
    try dsimp only at hI ih0
    obtain ⟨i1, i2⟩ := hI
    refine t_seq ?_
    refine t_seq ?_
    refine t_region ?_
    refine r_op (o_move rfl rfl) ?_
    refine r_op (o_move rfl rfl) ?_
    refine r_op (o_len rfl rfl rfl) ?_
    refine r_op (o_bin rfl rfl rfl rfl) ?_
    refine r_end ?_
    refine t_cond rfl (fun h2 => ?_) (fun h2 => ?_)
    ·
      have h2' := of_decide_eq_true h2
      refine t_skip ?_
      refine t_seq ?_
      refine t_block ?_
      refine t_seq ?_
      refine t_region ?_
      refine r_op (o_move rfl rfl) ?_
      refine r_op (o_move rfl rfl) ?_
      obtain ⟨z3, hz4, b5⟩ := at_get (xs := l) (n := (m : Int)) (by first | omega | (have ok := ok_at hl (by assumption); first | exact ok | exact ok.1 | exact ok.2 | exact ok.2.1 | exact ok.2.2 | exact ok.2.2.1 | exact ok.2.2.2.1 | exact ok.2.2.2.2)) (by first | omega | (have ok := ok_at hl (by assumption); first | exact ok | exact ok.1 | exact ok.2 | exact ok.2.1 | exact ok.2.2 | exact ok.2.2.1 | exact ok.2.2.2.1 | exact ok.2.2.2.2))
      refine r_op (o_index rfl (by kernel_rfl) rfl rfl b5 hz4) ?_
      refine r_op (o_loadA rfl (n := 3) (by kernel_rfl) (by kernel_rfl) rfl rfl) ?_
      refine r_op (o_move rfl rfl) ?_
      refine r_op (o_call 0 0 false (Go.Proofs.enters_of Tryz.func34 (by kernel_rfl) rfl) (c_laws_szRelation (z3.1) (z3.2.1) (z3.2.2) (k - l.length - ((szT (fun (x : List UInt8 × Int × Bool) => (x.1).length) l m : Nat) : Int)) (by first | omega | (have ok := ok_at hl (by assumption); first | exact ok | exact ok.1 | exact ok.2 | exact ok.2.1 | exact ok.2.2 | exact ok.2.2.1 | exact ok.2.2.2.1 | exact ok.2.2.2.2)) (by first | omega | (have ok := ok_at hl (by assumption); first | exact ok | exact ok.1 | exact ok.2 | exact ok.2.1 | exact ok.2.2 | exact ok.2.2.1 | exact ok.2.2.2.1 | exact ok.2.2.2.2)) (by first | omega | (have ok := ok_at hl (by assumption); first | exact ok | exact ok.1 | exact ok.2 | exact ok.2.1 | exact ok.2.2 | exact ok.2.2.1 | exact ok.2.2.2.1 | exact ok.2.2.2.2))) rfl (.cons rfl (.agg (.cons .t0 (.cons .t0 (.cons .t0 .nil)))) (.cons rfl (.c .t0) .nil)) rfl rfl rfl) ?_
      refine r_op (o_assign rfl rfl) ?_
      refine r_end ?_
      refine t_seq ?_
      refine t_region ?_
      refine r_op (o_move rfl rfl) ?_
      refine r_op (o_bin rfl rfl rfl rfl) ?_
      refine r_end ?_
      refine t_cond rfl (fun h6 => ?_) (fun h6 => ?_)
      ·
        have h6' := of_decide_eq_true h6
        refine t_seq ?_
        refine t_region ?_
        refine r_op (o_assign rfl rfl) ?_
        refine r_end ?_
        refine t_ret Tryz.func8 (.tmp rfl .nil) rfl fun E S w u hI hd => ?_
        refine post_mk hI hd ?_ trivial rfl rfl rfl <;> clear hI hd <;> (try clear ih0)
        all_goals first | rfl | (refine scI ?_; have e1 := szT_step (f := (fun (x : List UInt8 × Int × Bool) => (x.1).length)) (l := l) (m := m) (by assumption); (try dsimp only at e1); have e2 := szT_le (f := (fun (x : List UInt8 × Int × Bool) => (x.1).length)) (l := l) (m + 1); omega)
      ·
        have h6' := of_decide_eq_false h6
        refine t_skip ?_
        refine t_endblock ?_
        refine t_region ?_
        refine r_op (o_move rfl rfl) ?_
        refine r_op (o_bin rfl rfl rfl rfl) ?_
        refine r_op (o_assign rfl rfl) ?_
        refine r_end ?_
        have e1 := szT_step (f := (fun (x : List UInt8 × Int × Bool) => (x.1).length)) (l := l) (m := m) (by assumption); try dsimp only at e1
        refine t_le ?_ (ih0 (m + 1) (by (try dsimp only); omega) (by (try dsimp only); constructor <;> omega))
        exact ⟨⟨rfl, ⟨(eqI (by omega)), ⟨(eqI (wrS (by omega))), trivial⟩⟩⟩, trivial, rfl⟩
    ·
      have h2' := of_decide_eq_false h2
      refine t_exit rfl ?_
      refine t_seq ?_
      refine t_region ?_
      refine r_op (o_move rfl rfl) ?_
      refine r_op (o_assign rfl rfl) ?_
      refine r_end ?_
      refine t_ret Tryz.func8 (.tmp rfl .nil) rfl fun E S w u hI hd => ?_
      refine post_mk hI hd ?_ trivial rfl rfl rfl <;> clear hI hd <;> (try clear ih0)
      all_goals first | rfl | (refine scI ?_; have e1 := szT_all (f := (fun (x : List UInt8 × Int × Bool) => (x.1).length)) (l := l) (m := m) (by omega); omega)
set_option maxHeartbeats 1000000 in
set_option maxRecDepth 10000 in
theorem c_laws_szIntS (l : List Int) (k : Int) (hk : 0 ≤ k) (hk2 : k ≤ 1048576) (hl : l.length ≤ 9223372036854775807) : Pu Tryz.prog 149 [.c (.t none (.sl 1 encI (l))), .c (.t none (.v (.int .i64 (k))))] [] 0 (.c (.t none (.v (.int .i64 (if k - l.length < 0 then -1 else k - l.length))))) := by
  refine pu_enter Tryz.func149 rfl (Nat.le_of_ble_eq_true rfl) fun w S => ?_
  refine t_seq ?_
  refine t_region ?_
  refine r_op (o_assign rfl rfl) ?_
  refine r_end ?_
  refine t_seq ?_
  refine t_region ?_
  refine r_op (o_move rfl rfl) ?_
  refine r_op (o_move rfl rfl) ?_
  refine r_op (o_len rfl rfl rfl) ?_
  refine r_op (o_bin rfl rfl rfl rfl) ?_
  refine r_op (o_assign rfl rfl) ?_
  refine r_end ?_
  refine t_seq ?_
  refine t_seq ?_
  refine t_region ?_
  refine r_op (o_move rfl rfl) ?_
  refine r_op (o_bin rfl rfl rfl rfl) ?_
  refine r_end ?_
  refine t_cond rfl (fun h1 => ?_) (fun h1 => ?_)
  ·
    have h1' := of_decide_eq_true h1
    refine t_seq ?_
    refine t_region ?_
    refine r_op (o_assign rfl rfl) ?_
    refine r_end ?_
    refine t_ret Tryz.func149 (.tmp rfl .nil) rfl fun E S w u hI hd => ?_
    refine post_mk hI hd ?_ trivial rfl rfl rfl <;> clear hI hd
    all_goals first | rfl | (have e := wr64 (x := k - l.length) (by omega) (by omega); rw [e] at h1'; rw [if_pos (by omega)])
  ·
    have h1' := of_decide_eq_false h1
    refine t_skip ?_
    refine t_seq ?_
    refine t_region ?_
    refine r_op (o_move rfl rfl) ?_
    refine r_op (o_assign rfl rfl) ?_
    refine r_end ?_
    refine t_ret Tryz.func149 (.tmp rfl .nil) rfl fun E S w u hI hd => ?_
    refine post_mk hI hd ?_ trivial rfl rfl rfl <;> clear hI hd
    all_goals first | rfl | (have e := wr64 (x := k - l.length) (by omega) (by omega); rw [e] at h1'; rw [e, if_neg (by omega)])
set_option maxHeartbeats 1000000 in
set_option maxRecDepth 10000 in
theorem c_laws_szAtom (a0 : Int) (a1 : List (Int)) (k : Int) (hk : 0 ≤ k) (hk2 : k ≤ 1048576) (h1 : (okL okI) a1) : Pu Tryz.prog 115 [.agg [.t none (.v (.int .i64 (a0))), .t none (.sl 1 encI (a1))], .c (.t none (.v (.int .i64 (k))))] [] 0 (.c (.t none (.v (.int .i64 (if k - (((a1).length : Nat) : Int) < 0 then -1 else k - (((a1).length : Nat) : Int)))))) := by
  refine pu_enter Tryz.func115 rfl (Nat.le_of_ble_eq_true rfl) fun w S => ?_
  have g_a1 := h1.1
  refine t_seq ?_
  refine t_region ?_
  refine r_op (o_box 0 rfl rfl rfl rfl) ?_
  refine r_op (o_assign rfl rfl) ?_
  refine r_end ?_
  refine t_seq ?_
  refine t_region ?_
  refine r_op (o_fieldb rfl (off := 1) (by kernel_rfl) rfl) ?_
  refine r_op (o_load1b rfl (by kernel_rfl) rfl rfl rfl) ?_
  refine r_op (o_move rfl rfl) ?_
  refine r_op (o_call 1 1 false (Go.Proofs.enters_of Tryz.func149 (by kernel_rfl) rfl) (c_laws_szIntS (a1) (k) (by first | omega | (simp; omega)) (by first | omega | (simp; omega)) (by first | omega | (simp; omega))) rfl (.cons rfl (.c .t0) (.cons rfl (.c .t0) .nil)) rfl rfl rfl) ?_
  refine r_op (o_assign rfl rfl) ?_
  refine r_end ?_
  refine t_seq ?_
  refine t_seq ?_
  refine t_region ?_
  refine r_op (o_move rfl rfl) ?_
  refine r_op (o_bin rfl rfl rfl rfl) ?_
  refine r_end ?_
  refine t_cond rfl (fun h1 => ?_) (fun h1 => ?_)
  ·
    have h1' := of_decide_eq_true h1
    refine t_seq ?_
    refine t_region ?_
    refine r_op (o_assign rfl rfl) ?_
    refine r_end ?_
    refine t_ret Tryz.func115 (.tmp rfl .nil) rfl fun E S w u hI hd => ?_
    refine post_mk hI hd ?_ trivial rfl rfl rfl <;> clear hI hd
    all_goals first | rfl | (refine scI ?_; (try simp only [IntKind.wrap_i64] at *); omega)
  ·
    have h1' := of_decide_eq_false h1
    refine t_skip ?_
    refine t_seq ?_
    refine t_region ?_
    refine r_op (o_move rfl rfl) ?_
    refine r_op (o_assign rfl rfl) ?_
    refine r_end ?_
    refine t_ret Tryz.func115 (.tmp rfl .nil) rfl fun E S w u hI hd => ?_
    refine post_mk hI hd ?_ trivial rfl rfl rfl <;> clear hI hd
    all_goals first | rfl | (refine scI ?_; (try simp only [IntKind.wrap_i64] at *); omega)
set_option maxHeartbeats 1000000 in
set_option maxRecDepth 10000 in
theorem c_laws_szAtomS (l : List (Int × (List (Int)))) (k : Int) (hk : 0 ≤ k) (hk2 : k ≤ 1048576) (hl : (okL (fun (x : Int × (List (Int))) => okI (x.1) ∧ (okL okI) (x.2))) l) : Pu Tryz.prog 69 [.c (.t none (.sl 2 (enS2 encI (enSl 1 encI)) (l))), .c (.t none (.v (.int .i64 (k))))] [] 0 (.c (.t none (.v (.int .i64 (if k - ((szS (fun (x : Int × (List (Int))) => (x.2).length) l : Nat) : Int) < 0 then -1 else k - ((szS (fun (x : Int × (List (Int))) => (x.2).length) l : Nat) : Int)))))) := by
  refine pu_enter Tryz.func69 rfl (Nat.le_of_ble_eq_true rfl) fun w S => ?_
  have gl := hl.1
  refine t_seq ?_
  refine t_region ?_
  refine r_op (o_assign rfl rfl) ?_
  refine r_end ?_
  refine t_seq ?_
  refine t_region ?_
  refine r_op (o_move rfl rfl) ?_
  refine r_op (o_move rfl rfl) ?_
  refine r_op (o_len rfl rfl rfl) ?_
  refine r_op (o_bin rfl rfl rfl rfl) ?_
  refine r_op (o_assign rfl rfl) ?_
  refine r_end ?_
  refine t_seq ?_
  refine t_seq ?_
  refine t_region ?_
  refine r_op (o_move rfl rfl) ?_
  refine r_op (o_bin rfl rfl rfl rfl) ?_
  refine r_end ?_
  refine t_cond rfl (fun h1 => ?_) (fun h1 => ?_)
  ·
    have h1' := of_decide_eq_true h1
    refine t_seq ?_
    refine t_region ?_
    refine r_op (o_assign rfl rfl) ?_
    refine r_end ?_
    refine t_ret Tryz.func69 (.tmp rfl .nil) rfl fun E S w u hI hd => ?_
    refine post_mk hI hd ?_ trivial rfl rfl rfl <;> clear hI hd <;> (try clear ih0)
    all_goals first | rfl | (refine scI ?_; (simp only [IntKind.wrap_i64] at *); have e1 := sz_len (f := (fun (x : Int × (List (Int))) => (x.2).length)) (l := l); omega)
  ·
    have h1' := of_decide_eq_false h1
    refine t_skip ?_
    refine t_seq ?_
    refine t_seq ?_
    refine t_region ?_
    refine r_op (o_assign rfl rfl) ?_
    refine r_end ?_
    refine t_block ?_
    refine t_loopL (fun m => ⟨[(0, some (.c (.t none (.sl 2 (enS2 encI (enSl 1 encI)) (l))))), (1, some (.c (.t none (.v (.int .i64 (k - l.length - ((szT (fun (x : Int × (List (Int))) => (x.2).length) l m : Nat) : Int))))))), (5, some (.c (.t none (.v (.int .i64 ((m : Int)))))))], [], 0⟩ : Nat → St) (fun m => m ≤ l.length ∧ 0 ≤ k - l.length - ((szT (fun (x : Int × (List (Int))) => (x.2).length) l m : Nat) : Int)) (fun m => l.length - m) 0 ⟨⟨rfl, ⟨(eqI (by rw [wr64 (by omega) (by omega)]; simp [szT_zero])), ⟨rfl, trivial⟩⟩⟩, trivial, rfl⟩ (by exact ⟨Nat.zero_le _, by (simp only [IntKind.wrap_i64] at *); simp only [szT_zero]; omega⟩) ?_
    rintro m hI ih0
    try dsimp only at hI ih0
    obtain ⟨i1, i2⟩ := hI
    refine t_seq ?_
    refine t_seq ?_
    refine t_region ?_
    refine r_op (o_move rfl rfl) ?_
    refine r_op (o_move rfl rfl) ?_
    refine r_op (o_len rfl rfl rfl) ?_
    refine r_op (o_bin rfl rfl rfl rfl) ?_
    refine r_end ?_
    refine t_cond rfl (fun h2 => ?_) (fun h2 => ?_)
    ·
      have h2' := of_decide_eq_true h2
      refine t_skip ?_
      refine t_seq ?_
      refine t_block ?_
      refine t_seq ?_
      refine t_region ?_
      refine r_op (o_move rfl rfl) ?_
      refine r_op (o_move rfl rfl) ?_
      obtain ⟨z3, hz4, b5⟩ := at_get (xs := l) (n := (m : Int)) (by first | omega | (have ok := ok_at hl (by assumption); first | exact ok | exact ok.1 | exact ok.2 | exact ok.2.1 | exact ok.2.2 | exact ok.2.2.1 | exact ok.2.2.2.1 | exact ok.2.2.2.2)) (by first | omega | (have ok := ok_at hl (by assumption); first | exact ok | exact ok.1 | exact ok.2 | exact ok.2.1 | exact ok.2.2 | exact ok.2.2.1 | exact ok.2.2.2.1 | exact ok.2.2.2.2))
      refine r_op (o_index rfl (by kernel_rfl) rfl rfl b5 hz4) ?_
      refine r_op (o_loadA rfl (n := 2) (by kernel_rfl) (by kernel_rfl) rfl rfl) ?_
      refine r_op (o_move rfl rfl) ?_
      refine r_op (o_call 0 0 false (Go.Proofs.enters_of Tryz.func115 (by kernel_rfl) rfl) (c_laws_szAtom (z3.1) (z3.2) (k - l.length - ((szT (fun (x : Int × (List (Int))) => (x.2).length) l m : Nat) : Int)) (by first | omega | (have ok := ok_at hl (by assumption); first | exact ok | exact ok.1 | exact ok.2 | exact ok.2.1 | exact ok.2.2 | exact ok.2.2.1 | exact ok.2.2.2.1 | exact ok.2.2.2.2)) (by first | omega | (have ok := ok_at hl (by assumption); first | exact ok | exact ok.1 | exact ok.2 | exact ok.2.1 | exact ok.2.2 | exact ok.2.2.1 | exact ok.2.2.2.1 | exact ok.2.2.2.2)) (by first | omega | (have ok := ok_at hl (by assumption); first | exact ok | exact ok.1 | exact ok.2 | exact ok.2.1 | exact ok.2.2 | exact ok.2.2.1 | exact ok.2.2.2.1 | exact ok.2.2.2.2))) rfl (.cons rfl (.agg (.cons .t0 (.cons .t0 .nil))) (.cons rfl (.c .t0) .nil)) rfl rfl rfl) ?_
      refine r_op (o_assign rfl rfl) ?_
      refine r_end ?_
      refine t_seq ?_
      refine t_region ?_
      refine r_op (o_move rfl rfl) ?_
      refine r_op (o_bin rfl rfl rfl rfl) ?_
      refine r_end ?_
      refine t_cond rfl (fun h6 => ?_) (fun h6 => ?_)
      ·
        have h6' := of_decide_eq_true h6
        refine t_seq ?_
        refine t_region ?_
        refine r_op (o_assign rfl rfl) ?_
        refine r_end ?_
        refine t_ret Tryz.func69 (.tmp rfl .nil) rfl fun E S w u hI hd => ?_
        refine post_mk hI hd ?_ trivial rfl rfl rfl <;> clear hI hd <;> (try clear ih0)
        all_goals first | rfl | (refine scI ?_; have e1 := szT_step (f := (fun (x : Int × (List (Int))) => (x.2).length)) (l := l) (m := m) (by assumption); (try dsimp only at e1); have e2 := szT_le (f := (fun (x : Int × (List (Int))) => (x.2).length)) (l := l) (m + 1); omega)
      ·
        have h6' := of_decide_eq_false h6
        refine t_skip ?_
        refine t_endblock ?_
        refine t_region ?_
        refine r_op (o_move rfl rfl) ?_
        refine r_op (o_bin rfl rfl rfl rfl) ?_
        refine r_op (o_assign rfl rfl) ?_
        refine r_end ?_
        have e1 := szT_step (f := (fun (x : Int × (List (Int))) => (x.2).length)) (l := l) (m := m) (by assumption); try dsimp only at e1
        refine t_le ?_ (ih0 (m + 1) (by (try dsimp only); omega) (by (try dsimp only); constructor <;> omega))
        exact ⟨⟨rfl, ⟨(eqI (by omega)), ⟨(eqI (wrS (by omega))), trivial⟩⟩⟩, trivial, rfl⟩
    ·
      have h2' := of_decide_eq_false h2
      refine t_exit rfl ?_
      refine t_seq ?_
      refine t_region ?_
      refine r_op (o_move rfl rfl) ?_
      refine r_op (o_assign rfl rfl) ?_
      refine r_end ?_
      refine t_ret Tryz.func69 (.tmp rfl .nil) rfl fun E S w u hI hd => ?_
      refine post_mk hI hd ?_ trivial rfl rfl rfl <;> clear hI hd <;> (try clear ih0)
      all_goals first | rfl | (refine scI ?_; have e1 := szT_all (f := (fun (x : Int × (List (Int))) => (x.2).length)) (l := l) (m := m) (by omega); omega)
set_option maxHeartbeats 1000000 in
set_option maxRecDepth 10000 in
theorem c_laws_szDependency (a0 : List (Int × (List (Int)))) (a1 : List (Int × (List (Int)))) (a2 : Bool) (a3 : Int) (a4 : Int) (k : Int) (hk : 0 ≤ k) (hk2 : k ≤ 1048576) (h0 : (okL (fun (x : Int × (List (Int))) => okI (x.1) ∧ (okL okI) (x.2))) a0) (h1 : (okL (fun (x : Int × (List (Int))) => okI (x.1) ∧ (okL okI) (x.2))) a1) : Pu Tryz.prog 35 [.agg [.t none (.sl 2 (enS2 encI (enSl 1 encI)) (a0)), .t none (.sl 2 (enS2 encI (enSl 1 encI)) (a1)), .t none (.v (.bool (a2))), .t none (.v (.int .i64 (a3))), .t none (.v (.int .i64 (a4)))], .c (.t none (.v (.int .i64 (k))))] [] 0 (.c (.t none (.v (.int .i64 (if k - (((szS (fun (x : Int × (List (Int))) => (x.2).length) (a0)) + (szS (fun (x : Int × (List (Int))) => (x.2).length) (a1)) : Nat) : Int) < 0 then -1 else k - (((szS (fun (x : Int × (List (Int))) => (x.2).length) (a0)) + (szS (fun (x : Int × (List (Int))) => (x.2).length) (a1)) : Nat) : Int)))))) := by
  refine pu_enter Tryz.func35 rfl (Nat.le_of_ble_eq_true rfl) fun w S => ?_
  have g_a0 := h0.1; have g_a1 := h1.1
  refine t_seq ?_
  refine t_region ?_
  refine r_op (o_box 0 rfl rfl rfl rfl) ?_
  refine r_op (o_assign rfl rfl) ?_
  refine r_end ?_
  refine t_seq ?_
  refine t_region ?_
  refine r_op (o_fieldb rfl (off := 0) (by kernel_rfl) rfl) ?_
  refine r_op (o_load1b rfl (by kernel_rfl) rfl rfl rfl) ?_
  refine r_op (o_move rfl rfl) ?_
  refine r_op (o_call 1 1 false (Go.Proofs.enters_of Tryz.func69 (by kernel_rfl) rfl) (c_laws_szAtomS (a0) (k) (by first | omega | (simp; omega)) (by first | omega | (simp; omega)) (by first | omega | (simp; omega))) rfl (.cons rfl (.c .t0) (.cons rfl (.c .t0) .nil)) rfl rfl rfl) ?_
  refine r_op (o_assign rfl rfl) ?_
  refine r_end ?_
  refine t_seq ?_
  refine t_seq ?_
  refine t_region ?_
  refine r_op (o_move rfl rfl) ?_
  refine r_op (o_bin rfl rfl rfl rfl) ?_
  refine r_end ?_
  refine t_cond rfl (fun h1 => ?_) (fun h1 => ?_)
  ·
    have h1' := of_decide_eq_true h1
    refine t_seq ?_
    refine t_region ?_
    refine r_op (o_assign rfl rfl) ?_
    refine r_end ?_
    refine t_ret Tryz.func35 (.tmp rfl .nil) rfl fun E S w u hI hd => ?_
    refine post_mk hI hd ?_ trivial rfl rfl rfl <;> clear hI hd
    all_goals first | rfl | (refine scI ?_; (try simp only [IntKind.wrap_i64] at *); omega)
  ·
    have h1' := of_decide_eq_false h1
    refine t_skip ?_
    refine t_seq ?_
    refine t_region ?_
    refine r_op (o_fieldb rfl (off := 1) (by kernel_rfl) rfl) ?_
    refine r_op (o_load1b rfl (by kernel_rfl) rfl rfl rfl) ?_
    refine r_op (o_move rfl rfl) ?_
    refine r_op (o_call 1 1 false (Go.Proofs.enters_of Tryz.func69 (by kernel_rfl) rfl) (c_laws_szAtomS (a1) (if (k) - ((szS (fun (x : Int × (List (Int))) => (x.2).length) (a0) : Nat) : Int) < 0 then -1 else (k) - ((szS (fun (x : Int × (List (Int))) => (x.2).length) (a0) : Nat) : Int)) (by first | omega | (simp; omega)) (by first | omega | (simp; omega)) (by first | omega | (simp; omega))) rfl (.cons rfl (.c .t0) (.cons rfl (.c .t0) .nil)) rfl rfl rfl) ?_
    refine r_op (o_assign rfl rfl) ?_
    refine r_end ?_
    refine t_seq ?_
    refine t_seq ?_
    refine t_region ?_
    refine r_op (o_move rfl rfl) ?_
    refine r_op (o_bin rfl rfl rfl rfl) ?_
    refine r_end ?_
    refine t_cond rfl (fun h2 => ?_) (fun h2 => ?_)
    ·
      have h2' := of_decide_eq_true h2
      refine t_seq ?_
      refine t_region ?_
      refine r_op (o_assign rfl rfl) ?_
      refine r_end ?_
      refine t_ret Tryz.func35 (.tmp rfl .nil) rfl fun E S w u hI hd => ?_
      refine post_mk hI hd ?_ trivial rfl rfl rfl <;> clear hI hd
      all_goals first | rfl | (refine scI ?_; (try simp only [IntKind.wrap_i64] at *); omega)
    ·
      have h2' := of_decide_eq_false h2
      refine t_skip ?_
      refine t_seq ?_
      refine t_region ?_
      refine r_op (o_move rfl rfl) ?_
      refine r_op (o_assign rfl rfl) ?_
      refine r_end ?_
      refine t_ret Tryz.func35 (.tmp rfl .nil) rfl fun E S w u hI hd => ?_
      refine post_mk hI hd ?_ trivial rfl rfl rfl <;> clear hI hd
      all_goals first | rfl | (refine scI ?_; (try simp only [IntKind.wrap_i64] at *); omega)
set_option maxHeartbeats 1000000 in
set_option maxRecDepth 10000 in
theorem c_laws_szDependencyS (l : List ((List (Int × (List (Int)))) × (List (Int × (List (Int)))) × Bool × Int × Int)) (k : Int) (hk : 0 ≤ k) (hk2 : k ≤ 1048576) (hl : (okL (fun (x : (List (Int × (List (Int)))) × (List (Int × (List (Int)))) × Bool × Int × Int) => (okL (fun (x : Int × (List (Int))) => okI (x.1) ∧ (okL okI) (x.2))) (x.1) ∧ (okL (fun (x : Int × (List (Int))) => okI (x.1) ∧ (okL okI) (x.2))) (x.2.1) ∧ okB (x.2.2.1) ∧ okI (x.2.2.2.1) ∧ okI (x.2.2.2.2))) l) : Pu Tryz.prog 9 [.c (.t none (.sl 5 (enS5 (enSl 2 (enS2 encI (enSl 1 encI))) (enSl 2 (enS2 encI (enSl 1 encI))) encB encI encI) (l))), .c (.t none (.v (.int .i64 (k))))] [] 0 (.c (.t none (.v (.int .i64 (if k - ((szS (fun (x : (List (Int × (List (Int)))) × (List (Int × (List (Int)))) × Bool × Int × Int) => (szS (fun (x : Int × (List (Int))) => (x.2).length) (x.1)) + (szS (fun (x : Int × (List (Int))) => (x.2).length) (x.2.1))) l : Nat) : Int) < 0 then -1 else k - ((szS (fun (x : (List (Int × (List (Int)))) × (List (Int × (List (Int)))) × Bool × Int × Int) => (szS (fun (x : Int × (List (Int))) => (x.2).length) (x.1)) + (szS (fun (x : Int × (List (Int))) => (x.2).length) (x.2.1))) l : Nat) : Int)))))) := by
  refine pu_enter Tryz.func9 rfl (Nat.le_of_ble_eq_true rfl) fun w S => ?_
  have gl := hl.1
  refine t_seq ?_
  refine t_region ?_
  refine r_op (o_assign rfl rfl) ?_
  refine r_end ?_
  refine t_seq ?_
  refine t_region ?_
  refine r_op (o_move rfl rfl) ?_
  refine r_op (o_move rfl rfl) ?_
  refine r_op (o_len rfl rfl rfl) ?_
  refine r_op (o_bin rfl rfl rfl rfl) ?_
  refine r_op (o_assign rfl rfl) ?_
  refine r_end ?_
  refine t_seq ?_
  refine t_seq ?_
  refine t_region ?_
  refine r_op (o_move rfl rfl) ?_
  refine r_op (o_bin rfl rfl rfl rfl) ?_
  refine r_end ?_
  refine t_cond rfl (fun h1 => ?_) (fun h1 => ?_)
  ·
    have h1' := of_decide_eq_true h1
    refine t_seq ?_
    refine t_region ?_
    refine r_op (o_assign rfl rfl) ?_
    refine r_end ?_
    refine t_ret Tryz.func9 (.tmp rfl .nil) rfl fun E S w u hI hd => ?_
    refine post_mk hI hd ?_ trivial rfl rfl rfl <;> clear hI hd <;> (try clear ih0)
    all_goals first | rfl | (refine scI ?_; (simp only [IntKind.wrap_i64] at *); have e1 := sz_len (f := (fun (x : (List (Int × (List (Int)))) × (List (Int × (List (Int)))) × Bool × Int × Int) => (szS (fun (x : Int × (List (Int))) => (x.2).length) (x.1)) + (szS (fun (x : Int × (List (Int))) => (x.2).length) (x.2.1)))) (l := l); omega)
  ·
    have h1' := of_decide_eq_false h1
    refine t_skip ?_
    refine t_seq ?_
    refine t_seq ?_
    refine t_region ?_
    refine r_op (o_assign rfl rfl) ?_
    refine r_end ?_
    refine t_block ?_
    refine t_loopL (fun m => ⟨[(0, some (.c (.t none (.sl 5 (enS5 (enSl 2 (enS2 encI (enSl 1 encI))) (enSl 2 (enS2 encI (enSl 1 encI))) encB encI encI) (l))))), (1, some (.c (.t none (.v (.int .i64 (k - l.length - ((szT (fun (x : (List (Int × (List (Int)))) × (List (Int × (List (Int)))) × Bool × Int × Int) => (szS (fun (x : Int × (List (Int))) => (x.2).length) (x.1)) + (szS (fun (x : Int × (List (Int))) => (x.2).length) (x.2.1))) l m : Nat) : Int))))))), (5, some (.c (.t none (.v (.int .i64 ((m : Int)))))))], [], 0⟩ : Nat → St) (fun m => m ≤ l.length ∧ 0 ≤ k - l.length - ((szT (fun (x : (List (Int × (List (Int)))) × (List (Int × (List (Int)))) × Bool × Int × Int) => (szS (fun (x : Int × (List (Int))) => (x.2).length) (x.1)) + (szS (fun (x : Int × (List (Int))) => (x.2).length) (x.2.1))) l m : Nat) : Int)) (fun m => l.length - m) 0 ⟨⟨rfl, ⟨(eqI (by rw [wr64 (by omega) (by omega)]; simp [szT_zero])), ⟨rfl, trivial⟩⟩⟩, trivial, rfl⟩ (by exact ⟨Nat.zero_le _, by (simp only [IntKind.wrap_i64] at *); simp only [szT_zero]; omega⟩) ?_
    rintro m hI ih0
    try dsimp only at hI ih0
    obtain ⟨i1, i2⟩ := hI
    refine t_seq ?_
    refine t_seq ?_
    refine t_region ?_
    refine r_op (o_move rfl rfl) ?_
    refine r_op (o_move rfl rfl) ?_
    refine r_op (o_len rfl rfl rfl) ?_
    refine r_op (o_bin rfl rfl rfl rfl) ?_
    refine r_end ?_
    refine t_cond rfl (fun h2 => ?_) (fun h2 => ?_)
    ·
      have h2' := of_decide_eq_true h2
      refine t_skip ?_
      refine t_seq ?_
      refine t_block ?_
      refine t_seq ?_
      refine t_region ?_
      refine r_op (o_move rfl rfl) ?_
      refine r_op (o_move rfl rfl) ?_
      obtain ⟨z3, hz4, b5⟩ := at_get (xs := l) (n := (m : Int)) (by first | omega | (have ok := ok_at hl (by assumption); first | exact ok | exact ok.1 | exact ok.2 | exact ok.2.1 | exact ok.2.2 | exact ok.2.2.1 | exact ok.2.2.2.1 | exact ok.2.2.2.2)) (by first | omega | (have ok := ok_at hl (by assumption); first | exact ok | exact ok.1 | exact ok.2 | exact ok.2.1 | exact ok.2.2 | exact ok.2.2.1 | exact ok.2.2.2.1 | exact ok.2.2.2.2))
      refine r_op (o_index rfl (by kernel_rfl) rfl rfl b5 hz4) ?_
      refine r_op (o_loadA rfl (n := 5) (by kernel_rfl) (by kernel_rfl) rfl rfl) ?_
      refine r_op (o_move rfl rfl) ?_
      refine r_op (o_call 0 0 false (Go.Proofs.enters_of Tryz.func35 (by kernel_rfl) rfl) (c_laws_szDependency (z3.1) (z3.2.1) (z3.2.2.1) (z3.2.2.2.1) (z3.2.2.2.2) (k - l.length - ((szT (fun (x : (List (Int × (List (Int)))) × (List (Int × (List (Int)))) × Bool × Int × Int) => (szS (fun (x : Int × (List (Int))) => (x.2).length) (x.1)) + (szS (fun (x : Int × (List (Int))) => (x.2).length) (x.2.1))) l m : Nat) : Int)) (by first | omega | (have ok := ok_at hl (by assumption); first | exact ok | exact ok.1 | exact ok.2 | exact ok.2.1 | exact ok.2.2 | exact ok.2.2.1 | exact ok.2.2.2.1 | exact ok.2.2.2.2)) (by first | omega | (have ok := ok_at hl (by assumption); first | exact ok | exact ok.1 | exact ok.2 | exact ok.2.1 | exact ok.2.2 | exact ok.2.2.1 | exact ok.2.2.2.1 | exact ok.2.2.2.2)) (by first | omega | (have ok := ok_at hl (by assumption); first | exact ok | exact ok.1 | exact ok.2 | exact ok.2.1 | exact ok.2.2 | exact ok.2.2.1 | exact ok.2.2.2.1 | exact ok.2.2.2.2)) (by first | omega | (have ok := ok_at hl (by assumption); first | exact ok | exact ok.1 | exact ok.2 | exact ok.2.1 | exact ok.2.2 | exact ok.2.2.1 | exact ok.2.2.2.1 | exact ok.2.2.2.2))) rfl (.cons rfl (.agg (.cons .t0 (.cons .t0 (.cons .t0 (.cons .t0 (.cons .t0 .nil)))))) (.cons rfl (.c .t0) .nil)) rfl rfl rfl) ?_
      refine r_op (o_assign rfl rfl) ?_
      refine r_end ?_
      refine t_seq ?_
      refine t_region ?_
      refine r_op (o_move rfl rfl) ?_
      refine r_op (o_bin rfl rfl rfl rfl) ?_
      refine r_end ?_
      refine t_cond rfl (fun h6 => ?_) (fun h6 => ?_)
      ·
        have h6' := of_decide_eq_true h6
        refine t_seq ?_
        refine t_region ?_
        refine r_op (o_assign rfl rfl) ?_
        refine r_end ?_
        refine t_ret Tryz.func9 (.tmp rfl .nil) rfl fun E S w u hI hd => ?_
        refine post_mk hI hd ?_ trivial rfl rfl rfl <;> clear hI hd <;> (try clear ih0)
        all_goals first | rfl | (refine scI ?_; have e1 := szT_step (f := (fun (x : (List (Int × (List (Int)))) × (List (Int × (List (Int)))) × Bool × Int × Int) => (szS (fun (x : Int × (List (Int))) => (x.2).length) (x.1)) + (szS (fun (x : Int × (List (Int))) => (x.2).length) (x.2.1)))) (l := l) (m := m) (by assumption); (try dsimp only at e1); have e2 := szT_le (f := (fun (x : (List (Int × (List (Int)))) × (List (Int × (List (Int)))) × Bool × Int × Int) => (szS (fun (x : Int × (List (Int))) => (x.2).length) (x.1)) + (szS (fun (x : Int × (List (Int))) => (x.2).length) (x.2.1)))) (l := l) (m + 1); omega)
      ·
        have h6' := of_decide_eq_false h6
        refine t_skip ?_
        refine t_endblock ?_
        refine t_region ?_
        refine r_op (o_move rfl rfl) ?_
        refine r_op (o_bin rfl rfl rfl rfl) ?_
        refine r_op (o_assign rfl rfl) ?_
        refine r_end ?_
        have e1 := szT_step (f := (fun (x : (List (Int × (List (Int)))) × (List (Int × (List (Int)))) × Bool × Int × Int) => (szS (fun (x : Int × (List (Int))) => (x.2).length) (x.1)) + (szS (fun (x : Int × (List (Int))) => (x.2).length) (x.2.1)))) (l := l) (m := m) (by assumption); try dsimp only at e1
        refine t_le ?_ (ih0 (m + 1) (by (try dsimp only); omega) (by (try dsimp only); constructor <;> omega))
        exact ⟨⟨rfl, ⟨(eqI (by omega)), ⟨(eqI (wrS (by omega))), trivial⟩⟩⟩, trivial, rfl⟩
    ·
      have h2' := of_decide_eq_false h2
      refine t_exit rfl ?_
      refine t_seq ?_
      refine t_region ?_
      refine r_op (o_move rfl rfl) ?_
      refine r_op (o_assign rfl rfl) ?_
      refine r_end ?_
      refine t_ret Tryz.func9 (.tmp rfl .nil) rfl fun E S w u hI hd => ?_
      refine post_mk hI hd ?_ trivial rfl rfl rfl <;> clear hI hd <;> (try clear ih0)
      all_goals first | rfl | (refine scI ?_; have e1 := szT_all (f := (fun (x : (List (Int × (List (Int)))) × (List (Int × (List (Int)))) × Bool × Int × Int) => (szS (fun (x : Int × (List (Int))) => (x.2).length) (x.1)) + (szS (fun (x : Int × (List (Int))) => (x.2).length) (x.2.1)))) (l := l) (m := m) (by omega); omega)
set_option maxHeartbeats 1000000 in
set_option maxRecDepth 10000 in
theorem c_laws_toRelation (a0 : List UInt8) (a1 : Int) (a2 : Bool) (hs : (a0).length ≤ 1048576) : Pu Tryz.prog 37 [.agg [.t none (.v (.string (mkS (a0)))), .t none (.v (.int .i64 (a1))), .t none (.v (.bool (a2)))]] [] 3 (.agg [.t none (.v (.string (mkS (a0)))), .t none (.v (.int .i64 (a1))), .t none (.v (.bool (a2)))]) := by
  refine pu_enter Tryz.func37 rfl (Nat.le_of_ble_eq_true rfl) fun w S => ?_
  refine t_seq ?_
  refine t_region ?_
  refine r_op (o_box 0 rfl rfl rfl rfl) ?_
  refine r_op (o_alloc 1 (zs := [.string (mkS ([])), .int .i64 (0), .bool (false)]) rfl rfl (by kernel_rfl) rfl) ?_
  refine r_end ?_
  refine t_seq ?_
  refine t_region ?_
  refine r_op (o_alloc 2 (zs := [.string (mkS ([])), .int .i64 (0), .bool (false)]) rfl rfl (by kernel_rfl) rfl) ?_
  refine r_end ?_
  refine t_seq ?_
  refine t_region ?_
  refine r_op (o_fieldb rfl (off := 0) (by kernel_rfl) rfl) ?_
  refine r_op (o_load1b rfl (by kernel_rfl) rfl rfl rfl) ?_
  refine r_op (o_fieldb rfl (off := 0) (by kernel_rfl) rfl) ?_
  refine r_op (o_storeb (n := 1) (by kernel_rfl) rfl rfl rfl rfl rfl rfl) ?_
  refine r_end ?_
  refine t_seq ?_
  refine t_region ?_
  refine r_op (o_fieldb rfl (off := 1) (by kernel_rfl) rfl) ?_
  refine r_op (o_load1b rfl (by kernel_rfl) rfl rfl rfl) ?_
  refine r_op (o_fieldb rfl (off := 1) (by kernel_rfl) rfl) ?_
  refine r_op (o_storeb (n := 1) (by kernel_rfl) rfl rfl rfl rfl rfl rfl) ?_
  refine r_end ?_
  refine t_seq ?_
  refine t_region ?_
  refine r_op (o_fieldb rfl (off := 2) (by kernel_rfl) rfl) ?_
  refine r_op (o_load1b rfl (by kernel_rfl) rfl rfl rfl) ?_
  refine r_op (o_fieldb rfl (off := 2) (by kernel_rfl) rfl) ?_
  refine r_op (o_storeb (n := 1) (by kernel_rfl) rfl rfl rfl rfl rfl rfl) ?_
  refine r_end ?_
  refine t_seq ?_
  refine t_region ?_
  refine r_op (o_loadAb rfl (n := 3) (by kernel_rfl) (by kernel_rfl) rfl rfl rfl) ?_
  refine r_op (o_storeb (n := 3) (by kernel_rfl) rfl rfl rfl rfl rfl rfl) ?_
  refine r_end ?_
  refine t_ret Tryz.func37 (.cells (n := 3) (by kernel_rfl) (by kernel_rfl) rfl rfl rfl .nil) rfl fun E S w u hI hd => ?_
  refine post_mk hI hd ?_ trivial rfl rfl rfl <;> clear hI hd
  all_goals first | rfl | (simp_all <;> omega)
set_option maxHeartbeats 1000000 in
set_option maxRecDepth 10000 in
theorem c_laws_toRelationS (l : List (List UInt8 × Int × Bool)) (hs : szS (fun (x : List UInt8 × Int × Bool) => (x.1).length) l ≤ 1048576) : Pu Tryz.prog 11 [.c (.t none (.sl 3 (enS3 encS encI encB) (l)))] [(0, some (.row none 61 true 3 (enS3 encS encI encB) (l)))] 1 (.c (.own 0)) := by
  refine pu_enter Tryz.func11 rfl (Nat.le_of_ble_eq_true rfl) fun w S => ?_
  have gl := sz_len (f := (fun (x : List UInt8 × Int × Bool) => (x.1).length)) (l := l)
  refine t_seq ?_
  refine t_region ?_
  refine r_op (o_assign rfl rfl) ?_
  refine r_end ?_
  refine t_seq ?_
  refine t_region ?_
  refine r_op (o_move rfl rfl) ?_
  refine r_op (o_len rfl rfl rfl) ?_
  refine r_op (o_make 0 true (et := 61) (sz := 3) (by' := 32) (enS3 encS encI encB) (([], 0, false)) (zs := [.string (mkS ([])), .int .i64 (0), .bool (false)]) rfl rfl (by kernel_rfl) (by kernel_rfl) rfl rfl (.cons (.v rfl) (.cons (.v rfl) (.cons (.v rfl) .nil))) rfl rfl (by first | omega | (simp; omega) | (have e1 := sz_at (f := (fun (x : List UInt8 × Int × Bool) => (x.1).length)) (l := l) (m := m) (by assumption); (try dsimp only at e1); omega)) (by first | omega | (simp; omega) | (have e1 := sz_at (f := (fun (x : List UInt8 × Int × Bool) => (x.1).length)) (l := l) (m := m) (by assumption); (try dsimp only at e1); omega)) (by first | omega | (simp; omega) | (have e1 := sz_at (f := (fun (x : List UInt8 × Int × Bool) => (x.1).length)) (l := l) (m := m) (by assumption); (try dsimp only at e1); omega))) ?_
  refine r_op (o_assign rfl rfl) ?_
  refine r_end ?_
  refine t_seq ?_
  refine t_seq ?_
  refine t_region ?_
  refine r_op (o_assign rfl rfl) ?_
  refine r_end ?_
  refine t_block ?_
  refine t_loopL (fun m => ⟨[(0, some (.c (.t none (.sl 3 (enS3 encS encI encB) (l))))), (2, some (.c (.t none (.v (.slice none 0 0))))), (3, some (.c (.own 0))), (4, some (.c (.t none (.v (.int .i64 ((m : Int)))))))], [(0, some (.row none 61 true 3 (enS3 encS encI encB) (l.take m ++ List.replicate (l.length - m) (([], 0, false)))))], 1⟩ : Nat → St) (fun m => m ≤ l.length) (fun m => l.length - m) 0 ⟨⟨rfl, ⟨rfl, ⟨rfl, ⟨rfl, trivial⟩⟩⟩⟩, ⟨(eqR (by simp)), trivial⟩, rfl⟩ (by simp) ?_
  rintro m hI ih0
  try dsimp only at hI ih0
  refine t_seq ?_
  refine t_seq ?_
  refine t_region ?_
  refine r_op (o_move rfl rfl) ?_
  refine r_op (o_move rfl rfl) ?_
  refine r_op (o_len rfl rfl rfl) ?_
  refine r_op (o_bin rfl rfl rfl rfl) ?_
  refine r_end ?_
  refine t_cond rfl (fun h1 => ?_) (fun h1 => ?_)
  ·
    have h1' := of_decide_eq_true h1
    refine t_skip ?_
    refine t_seq ?_
    refine t_block ?_
    refine t_region ?_
    refine r_op (o_move rfl rfl) ?_
    refine r_op (o_move rfl rfl) ?_
    refine r_op (o_move rfl rfl) ?_
    refine r_op (o_move rfl rfl) ?_
    obtain ⟨z2, hz3, b4⟩ := at_get (xs := l) (n := (m : Int)) (by first | omega | (simp; omega) | (have e1 := sz_at (f := (fun (x : List UInt8 × Int × Bool) => (x.1).length)) (l := l) (m := m) (by assumption); (try dsimp only at e1); omega)) (by first | omega | (simp; omega) | (have e1 := sz_at (f := (fun (x : List UInt8 × Int × Bool) => (x.1).length)) (l := l) (m := m) (by assumption); (try dsimp only at e1); omega))
    refine r_op (o_index rfl (by kernel_rfl) rfl rfl b4 hz3) ?_
    refine r_op (o_loadA rfl (n := 3) (by kernel_rfl) (by kernel_rfl) rfl rfl) ?_
    refine r_op (o_call 1 4 false (Go.Proofs.enters_of Tryz.func37 (by kernel_rfl) rfl) (c_laws_toRelation (z2.1) (z2.2.1) (z2.2.2) (by first | omega | (simp; omega) | (have e1 := sz_at (f := (fun (x : List UInt8 × Int × Bool) => (x.1).length)) (l := l) (m := m) (by assumption); (try dsimp only at e1); omega))) rfl (.cons rfl (.agg (.cons .t0 (.cons .t0 (.cons .t0 .nil)))) .nil) rfl rfl rfl) ?_
    obtain ⟨z5, hz6, b7⟩ := at_get (xs := l.take m ++ List.replicate (l.length - m) (([], 0, false))) (n := (m : Int)) (by first | omega | (simp; omega) | (have e1 := sz_at (f := (fun (x : List UInt8 × Int × Bool) => (x.1).length)) (l := l) (m := m) (by assumption); (try dsimp only at e1); omega)) (by first | omega | (simp; omega) | (have e1 := sz_at (f := (fun (x : List UInt8 × Int × Bool) => (x.1).length)) (l := l) (m := m) (by assumption); (try dsimp only at e1); omega))
    refine r_op (o_indexo rfl (by kernel_rfl) rfl rfl rfl b7 (at_lt b7 hz6)) ?_
    refine r_op (o_storeo (((z2.1), (z2.2.1), (z2.2.2))) (n := 3) (by kernel_rfl) rfl rfl hz6 rfl rfl rfl rfl (.cons .sc (.cons .sc (.cons .sc .nil))) rfl (fun j h1 h2 => by simp at h1 h2; omega)) ?_
    refine r_end ?_
    refine t_endblock ?_
    refine t_region ?_
    refine r_op (o_move rfl rfl) ?_
    refine r_op (o_bin rfl rfl rfl rfl) ?_
    refine r_op (o_assign rfl rfl) ?_
    refine r_end ?_
    refine t_le ?_ (ih0 (m + 1) (by (try dsimp only); omega) (by (try dsimp only); omega))
    exact ⟨⟨rfl, ⟨rfl, ⟨rfl, ⟨(eqI (wrS (by omega))), trivial⟩⟩⟩⟩, ⟨(eqR (fill_set (by assumption))), trivial⟩, rfl⟩
  ·
    have h1' := of_decide_eq_false h1
    refine t_exit rfl ?_
    refine t_seq ?_
    refine t_region ?_
    refine r_op (o_move rfl rfl) ?_
    refine r_op (o_assign rfl rfl) ?_
    refine r_end ?_
    refine t_ret Tryz.func11 (.tmp rfl .nil) rfl fun E S w u hI hd => ?_
    refine post_mk hI hd ?_ ⟨eqR ?_, trivial⟩ rfl rfl rfl <;> clear hI hd <;> (try clear ih0)
    all_goals first | rfl | ((obtain rfl : m = l.length := by omega); simp)
set_option maxHeartbeats 1000000 in
set_option maxRecDepth 10000 in
theorem c_laws_toIntS (l : List Int) (hl : l.length ≤ 1048576) : Pu Tryz.prog 150 [.c (.t none (.sl 1 encI (l)))] [(0, some (.row none 3 true 1 encI (l)))] 1 (.c (.own 0)) := by
  refine pu_enter Tryz.func150 rfl (Nat.le_of_ble_eq_true rfl) fun w S => ?_
  refine t_seq ?_
  refine t_region ?_
  refine r_op (o_assign rfl rfl) ?_
  refine r_end ?_
  refine t_seq ?_
  refine t_region ?_
  refine r_op (o_move rfl rfl) ?_
  refine r_op (o_len rfl rfl rfl) ?_
  refine r_op (o_make 0 true (et := 3) (sz := 1) (by' := 8) encI (0) (zs := [.int .i64 (0)]) rfl rfl (by kernel_rfl) (by kernel_rfl) rfl rfl (.cons (.v rfl) .nil) rfl rfl (by first | omega | (simp; omega)) (by first | omega | (simp; omega)) (by first | omega | (simp; omega))) ?_
  refine r_op (o_assign rfl rfl) ?_
  refine r_end ?_
  refine t_seq ?_
  refine t_seq ?_
  refine t_region ?_
  refine r_op (o_assign rfl rfl) ?_
  refine r_end ?_
  refine t_block ?_
  refine t_loopL (fun m => ⟨[(0, some (.c (.t none (.sl 1 encI (l))))), (2, some (.c (.t none (.v (.slice none 0 0))))), (3, some (.c (.own 0))), (4, some (.c (.t none (.v (.int .i64 ((m : Int)))))))], [(0, some (.row none 3 true 1 encI (l.take m ++ List.replicate (l.length - m) 0)))], 1⟩ : Nat → St) (fun m => m ≤ l.length) (fun m => l.length - m) 0 ⟨⟨rfl, ⟨rfl, ⟨rfl, ⟨rfl, trivial⟩⟩⟩⟩, ⟨(eqR (by simp)), trivial⟩, rfl⟩ (by simp) ?_
  rintro m hI ih0
  try dsimp only at hI ih0
  refine t_seq ?_
  refine t_seq ?_
  refine t_region ?_
  refine r_op (o_move rfl rfl) ?_
  refine r_op (o_move rfl rfl) ?_
  refine r_op (o_len rfl rfl rfl) ?_
  refine r_op (o_bin rfl rfl rfl rfl) ?_
  refine r_end ?_
  refine t_cond rfl (fun h1 => ?_) (fun h1 => ?_)
  ·
    have h1' := of_decide_eq_true h1
    refine t_skip ?_
    refine t_seq ?_
    refine t_block ?_
    refine t_region ?_
    refine r_op (o_move rfl rfl) ?_
    refine r_op (o_move rfl rfl) ?_
    refine r_op (o_move rfl rfl) ?_
    refine r_op (o_move rfl rfl) ?_
    obtain ⟨z2, hz3, b4⟩ := at_get (xs := l) (n := (m : Int)) (by first | omega | (simp; omega)) (by first | omega | (simp; omega))
    refine r_op (o_index rfl (by kernel_rfl) rfl rfl b4 hz3) ?_
    refine r_op (o_load1 rfl (by kernel_rfl) rfl rfl) ?_
    obtain ⟨z5, hz6, b7⟩ := at_get (xs := l.take m ++ List.replicate (l.length - m) 0) (n := (m : Int)) (by first | omega | (simp; omega)) (by first | omega | (simp; omega))
    refine r_op (o_indexo rfl (by kernel_rfl) rfl rfl rfl b7 (at_lt b7 hz6)) ?_
    refine r_op (o_storeo (z2) (n := 1) (by kernel_rfl) rfl rfl hz6 rfl rfl rfl rfl (.cons .sc .nil) rfl (fun j h1 h2 => by simp at h1 h2; omega)) ?_
    refine r_end ?_
    refine t_endblock ?_
    refine t_region ?_
    refine r_op (o_move rfl rfl) ?_
    refine r_op (o_bin rfl rfl rfl rfl) ?_
    refine r_op (o_assign rfl rfl) ?_
    refine r_end ?_
    refine t_le ?_ (ih0 (m + 1) (by (try dsimp only); omega) (by (try dsimp only); omega))
    exact ⟨⟨rfl, ⟨rfl, ⟨rfl, ⟨(eqI (wrS (by omega))), trivial⟩⟩⟩⟩, ⟨(eqR (fill_set (by assumption))), trivial⟩, rfl⟩
  ·
    have h1' := of_decide_eq_false h1
    refine t_exit rfl ?_
    refine t_seq ?_
    refine t_region ?_
    refine r_op (o_move rfl rfl) ?_
    refine r_op (o_assign rfl rfl) ?_
    refine r_end ?_
    refine t_ret Tryz.func150 (.tmp rfl .nil) rfl fun E S w u hI hd => ?_
    refine post_mk hI hd ?_ ⟨eqR ?_, trivial⟩ rfl rfl rfl <;> clear hI hd <;> (try clear ih0)
    all_goals first | rfl | ((obtain rfl : m = l.length := by omega); simp)
set_option maxHeartbeats 1000000 in
set_option maxRecDepth 10000 in
theorem c_laws_toAtom (a0 : Int) (a1 : List (Int)) (hs : (a1).length ≤ 1048576) : Pu Tryz.prog 117 [.agg [.t none (.v (.int .i64 (a0))), .t none (.sl 1 encI (a1))]] [(3, some (.row none 3 true 1 encI (a1)))] 4 (.agg [.t none (.v (.int .i64 (a0))), .own 3]) := by
  refine pu_enter Tryz.func117 rfl (Nat.le_of_ble_eq_true rfl) fun w S => ?_
  refine t_seq ?_
  refine t_region ?_
  refine r_op (o_box 0 rfl rfl rfl rfl) ?_
  refine r_op (o_alloc 1 (zs := [.int .i64 (0), .slice none 0 0]) rfl rfl (by kernel_rfl) rfl) ?_
  refine r_end ?_
  refine t_seq ?_
  refine t_region ?_
  refine r_op (o_alloc 2 (zs := [.int .i64 (0), .slice none 0 0]) rfl rfl (by kernel_rfl) rfl) ?_
  refine r_end ?_
  refine t_seq ?_
  refine t_region ?_
  refine r_op (o_fieldb rfl (off := 0) (by kernel_rfl) rfl) ?_
  refine r_op (o_load1b rfl (by kernel_rfl) rfl rfl rfl) ?_
  refine r_op (o_fieldb rfl (off := 0) (by kernel_rfl) rfl) ?_
  refine r_op (o_storeb (n := 1) (by kernel_rfl) rfl rfl rfl rfl rfl rfl) ?_
  refine r_end ?_
  refine t_seq ?_
  refine t_region ?_
  refine r_op (o_fieldb rfl (off := 1) (by kernel_rfl) rfl) ?_
  refine r_op (o_load1b rfl (by kernel_rfl) rfl rfl rfl) ?_
  refine r_op (o_call 3 4 false (Go.Proofs.enters_of Tryz.func150 (by kernel_rfl) rfl) (c_laws_toIntS (a1) (by first | omega | (simp; omega))) rfl (.cons rfl (.c .t0) .nil) rfl rfl rfl) ?_
  refine r_op (o_fieldb rfl (off := 1) (by kernel_rfl) rfl) ?_
  refine r_op (o_storeb (n := 1) (by kernel_rfl) rfl rfl rfl rfl rfl rfl) ?_
  refine r_end ?_
  refine t_seq ?_
  refine t_region ?_
  refine r_op (o_loadAb rfl (n := 2) (by kernel_rfl) (by kernel_rfl) rfl rfl rfl) ?_
  refine r_op (o_storeb (n := 2) (by kernel_rfl) rfl rfl rfl rfl rfl rfl) ?_
  refine r_end ?_
  refine t_ret Tryz.func117 (.cells (n := 2) (by kernel_rfl) (by kernel_rfl) rfl rfl rfl .nil) rfl fun E S w u hI hd => ?_
  refine post_mk hI hd ?_ ⟨eqR ?_, trivial⟩ rfl rfl rfl <;> clear hI hd
  all_goals first | rfl | (simp_all <;> omega)
set_option maxHeartbeats 1000000 in
set_option maxRecDepth 10000 in
theorem c_laws_toAtomS (l : List (Int × (List (Int)))) (hs : szS (fun (x : Int × (List (Int))) => (x.2).length) l ≤ 1048576) : Pu Tryz.prog 72 [.c (.t none (.sl 2 (enS2 encI (enSl 1 encI)) (l)))] [(0, some (.row none 111 true 2 (enS2 encI (enSl 1 encI)) (l)))] 1 (.c (.own 0)) := by
  refine pu_enter Tryz.func72 rfl (Nat.le_of_ble_eq_true rfl) fun w S => ?_
  have gl := sz_len (f := (fun (x : Int × (List (Int))) => (x.2).length)) (l := l)
  refine t_seq ?_
  refine t_region ?_
  refine r_op (o_assign rfl rfl) ?_
  refine r_end ?_
  refine t_seq ?_
  refine t_region ?_
  refine r_op (o_move rfl rfl) ?_
  refine r_op (o_len rfl rfl rfl) ?_
  refine r_op (o_make 0 true (et := 111) (sz := 2) (by' := 32) (enS2 encI (enSl 1 encI)) ((0, [])) (zs := [.int .i64 (0), .slice none 0 0]) rfl rfl (by kernel_rfl) (by kernel_rfl) rfl rfl (.cons (.v rfl) (.cons .sl .nil)) rfl rfl (by first | omega | (simp; omega) | (have e1 := sz_at (f := (fun (x : Int × (List (Int))) => (x.2).length)) (l := l) (m := m) (by assumption); (try dsimp only at e1); omega)) (by first | omega | (simp; omega) | (have e1 := sz_at (f := (fun (x : Int × (List (Int))) => (x.2).length)) (l := l) (m := m) (by assumption); (try dsimp only at e1); omega)) (by first | omega | (simp; omega) | (have e1 := sz_at (f := (fun (x : Int × (List (Int))) => (x.2).length)) (l := l) (m := m) (by assumption); (try dsimp only at e1); omega))) ?_
  refine r_op (o_assign rfl rfl) ?_
  refine r_end ?_
  refine t_seq ?_
  refine t_seq ?_
  refine t_region ?_
  refine r_op (o_assign rfl rfl) ?_
  refine r_end ?_
  refine t_block ?_
  refine t_loopL (fun m => ⟨[(0, some (.c (.t none (.sl 2 (enS2 encI (enSl 1 encI)) (l))))), (2, some (.c (.t none (.v (.slice none 0 0))))), (3, some (.c (.own 0))), (4, some (.c (.t none (.v (.int .i64 ((m : Int)))))))], [(0, some (.row none 111 true 2 (enS2 encI (enSl 1 encI)) (l.take m ++ List.replicate (l.length - m) ((0, [])))))], 1⟩ : Nat → St) (fun m => m ≤ l.length) (fun m => l.length - m) 0 ⟨⟨rfl, ⟨rfl, ⟨rfl, ⟨rfl, trivial⟩⟩⟩⟩, ⟨(eqR (by simp)), trivial⟩, rfl⟩ (by simp) ?_
  rintro m hI ih0
  try dsimp only at hI ih0
  refine t_seq ?_
  refine t_seq ?_
  refine t_region ?_
  refine r_op (o_move rfl rfl) ?_
  refine r_op (o_move rfl rfl) ?_
  refine r_op (o_len rfl rfl rfl) ?_
  refine r_op (o_bin rfl rfl rfl rfl) ?_
  refine r_end ?_
  refine t_cond rfl (fun h1 => ?_) (fun h1 => ?_)
  ·
    have h1' := of_decide_eq_true h1
    refine t_skip ?_
    refine t_seq ?_
    refine t_block ?_
    refine t_region ?_
    refine r_op (o_move rfl rfl) ?_
    refine r_op (o_move rfl rfl) ?_
    refine r_op (o_move rfl rfl) ?_
    refine r_op (o_move rfl rfl) ?_
    obtain ⟨z2, hz3, b4⟩ := at_get (xs := l) (n := (m : Int)) (by first | omega | (simp; omega) | (have e1 := sz_at (f := (fun (x : Int × (List (Int))) => (x.2).length)) (l := l) (m := m) (by assumption); (try dsimp only at e1); omega)) (by first | omega | (simp; omega) | (have e1 := sz_at (f := (fun (x : Int × (List (Int))) => (x.2).length)) (l := l) (m := m) (by assumption); (try dsimp only at e1); omega))
    refine r_op (o_index rfl (by kernel_rfl) rfl rfl b4 hz3) ?_
    refine r_op (o_loadA rfl (n := 2) (by kernel_rfl) (by kernel_rfl) rfl rfl) ?_
    refine r_op (o_call 1 5 false (Go.Proofs.enters_of Tryz.func117 (by kernel_rfl) rfl) (c_laws_toAtom (z2.1) (z2.2) (by first | omega | (simp; omega) | (have e1 := sz_at (f := (fun (x : Int × (List (Int))) => (x.2).length)) (l := l) (m := m) (by assumption); (try dsimp only at e1); omega))) rfl (.cons rfl (.agg (.cons .t0 (.cons .t0 .nil))) .nil) rfl rfl rfl) ?_
    obtain ⟨z5, hz6, b7⟩ := at_get (xs := l.take m ++ List.replicate (l.length - m) ((0, []))) (n := (m : Int)) (by first | omega | (simp; omega) | (have e1 := sz_at (f := (fun (x : Int × (List (Int))) => (x.2).length)) (l := l) (m := m) (by assumption); (try dsimp only at e1); omega)) (by first | omega | (simp; omega) | (have e1 := sz_at (f := (fun (x : Int × (List (Int))) => (x.2).length)) (l := l) (m := m) (by assumption); (try dsimp only at e1); omega))
    refine r_op (o_indexo rfl (by kernel_rfl) rfl rfl rfl b7 (at_lt b7 hz6)) ?_
    refine r_op (o_storeo (((z2.1), (z2.2))) (n := 2) (by kernel_rfl) rfl rfl hz6 rfl rfl rfl rfl (.cons .sc (.take (.own rfl) rfl .nil)) rfl (fun j h1 h2 => by simp at h1 h2; omega)) ?_
    refine r_end ?_
    refine t_endblock ?_
    refine t_region ?_
    refine r_op (o_move rfl rfl) ?_
    refine r_op (o_bin rfl rfl rfl rfl) ?_
    refine r_op (o_assign rfl rfl) ?_
    refine r_end ?_
    refine t_le ?_ (ih0 (m + 1) (by (try dsimp only); omega) (by (try dsimp only); omega))
    exact ⟨⟨rfl, ⟨rfl, ⟨rfl, ⟨(eqI (wrS (by omega))), trivial⟩⟩⟩⟩, ⟨(eqR (fill_set (by assumption))), trivial⟩, rfl⟩
  ·
    have h1' := of_decide_eq_false h1
    refine t_exit rfl ?_
    refine t_seq ?_
    refine t_region ?_
    refine r_op (o_move rfl rfl) ?_
    refine r_op (o_assign rfl rfl) ?_
    refine r_end ?_
    refine t_ret Tryz.func72 (.tmp rfl .nil) rfl fun E S w u hI hd => ?_
    refine post_mk hI hd ?_ ⟨eqR ?_, trivial⟩ rfl rfl rfl <;> clear hI hd <;> (try clear ih0)
    all_goals first | rfl | ((obtain rfl : m = l.length := by omega); simp)
set_option maxHeartbeats 1000000 in
set_option maxRecDepth 10000 in
theorem c_laws_toDependency (a0 : List (Int × (List (Int)))) (a1 : List (Int × (List (Int)))) (a2 : Bool) (a3 : Int) (a4 : Int) (hs : (szS (fun (x : Int × (List (Int))) => (x.2).length) (a0)) + (szS (fun (x : Int × (List (Int))) => (x.2).length) (a1)) ≤ 1048576) : Pu Tryz.prog 38 [.agg [.t none (.sl 2 (enS2 encI (enSl 1 encI)) (a0)), .t none (.sl 2 (enS2 encI (enSl 1 encI)) (a1)), .t none (.v (.bool (a2))), .t none (.v (.int .i64 (a3))), .t none (.v (.int .i64 (a4)))]] [(3, some (.row none 111 true 2 (enS2 encI (enSl 1 encI)) (a0))), (4, some (.row none 111 true 2 (enS2 encI (enSl 1 encI)) (a1)))] 5 (.agg [.own 3, .own 4, .t none (.v (.bool (a2))), .t none (.v (.int .i64 (a3))), .t none (.v (.int .i64 (a4)))]) := by
  refine pu_enter Tryz.func38 rfl (Nat.le_of_ble_eq_true rfl) fun w S => ?_
  refine t_seq ?_
  refine t_region ?_
  refine r_op (o_box 0 rfl rfl rfl rfl) ?_
  refine r_op (o_alloc 1 (zs := [.slice none 0 0, .slice none 0 0, .bool (false), .int .i64 (0), .int .i64 (0)]) rfl rfl (by kernel_rfl) rfl) ?_
  refine r_end ?_
  refine t_seq ?_
  refine t_region ?_
  refine r_op (o_alloc 2 (zs := [.slice none 0 0, .slice none 0 0, .bool (false), .int .i64 (0), .int .i64 (0)]) rfl rfl (by kernel_rfl) rfl) ?_
  refine r_end ?_
  refine t_seq ?_
  refine t_region ?_
  refine r_op (o_fieldb rfl (off := 0) (by kernel_rfl) rfl) ?_
  refine r_op (o_load1b rfl (by kernel_rfl) rfl rfl rfl) ?_
  refine r_op (o_call 3 4 false (Go.Proofs.enters_of Tryz.func72 (by kernel_rfl) rfl) (c_laws_toAtomS (a0) (by first | omega | (simp; omega))) rfl (.cons rfl (.c .t0) .nil) rfl rfl rfl) ?_
  refine r_op (o_fieldb rfl (off := 0) (by kernel_rfl) rfl) ?_
  refine r_op (o_storeb (n := 1) (by kernel_rfl) rfl rfl rfl rfl rfl rfl) ?_
  refine r_end ?_
  refine t_seq ?_
  refine t_region ?_
  refine r_op (o_fieldb rfl (off := 1) (by kernel_rfl) rfl) ?_
  refine r_op (o_load1b rfl (by kernel_rfl) rfl rfl rfl) ?_
  refine r_op (o_call 4 5 false (Go.Proofs.enters_of Tryz.func72 (by kernel_rfl) rfl) (c_laws_toAtomS (a1) (by first | omega | (simp; omega))) rfl (.cons rfl (.c .t0) .nil) rfl rfl rfl) ?_
  refine r_op (o_fieldb rfl (off := 1) (by kernel_rfl) rfl) ?_
  refine r_op (o_storeb (n := 1) (by kernel_rfl) rfl rfl rfl rfl rfl rfl) ?_
  refine r_end ?_
  refine t_seq ?_
  refine t_region ?_
  refine r_op (o_fieldb rfl (off := 2) (by kernel_rfl) rfl) ?_
  refine r_op (o_load1b rfl (by kernel_rfl) rfl rfl rfl) ?_
  refine r_op (o_fieldb rfl (off := 2) (by kernel_rfl) rfl) ?_
  refine r_op (o_storeb (n := 1) (by kernel_rfl) rfl rfl rfl rfl rfl rfl) ?_
  refine r_end ?_
  refine t_seq ?_
  refine t_region ?_
  refine r_op (o_fieldb rfl (off := 3) (by kernel_rfl) rfl) ?_
  refine r_op (o_load1b rfl (by kernel_rfl) rfl rfl rfl) ?_
  refine r_op (o_fieldb rfl (off := 3) (by kernel_rfl) rfl) ?_
  refine r_op (o_storeb (n := 1) (by kernel_rfl) rfl rfl rfl rfl rfl rfl) ?_
  refine r_end ?_
  refine t_seq ?_
  refine t_region ?_
  refine r_op (o_fieldb rfl (off := 4) (by kernel_rfl) rfl) ?_
  refine r_op (o_load1b rfl (by kernel_rfl) rfl rfl rfl) ?_
  refine r_op (o_fieldb rfl (off := 4) (by kernel_rfl) rfl) ?_
  refine r_op (o_storeb (n := 1) (by kernel_rfl) rfl rfl rfl rfl rfl rfl) ?_
  refine r_end ?_
  refine t_seq ?_
  refine t_region ?_
  refine r_op (o_loadAb rfl (n := 5) (by kernel_rfl) (by kernel_rfl) rfl rfl rfl) ?_
  refine r_op (o_storeb (n := 5) (by kernel_rfl) rfl rfl rfl rfl rfl rfl) ?_
  refine r_end ?_
  refine t_ret Tryz.func38 (.cells (n := 5) (by kernel_rfl) (by kernel_rfl) rfl rfl rfl .nil) rfl fun E S w u hI hd => ?_
  refine post_mk hI hd ?_ ⟨eqR ?_, ⟨eqR ?_, trivial⟩⟩ rfl rfl rfl <;> clear hI hd
  all_goals first | rfl | (simp_all <;> omega)
set_option maxHeartbeats 1000000 in
set_option maxRecDepth 10000 in
theorem c_laws_toDependencyS (l : List ((List (Int × (List (Int)))) × (List (Int × (List (Int)))) × Bool × Int × Int)) (hs : szS (fun (x : (List (Int × (List (Int)))) × (List (Int × (List (Int)))) × Bool × Int × Int) => (szS (fun (x : Int × (List (Int))) => (x.2).length) (x.1)) + (szS (fun (x : Int × (List (Int))) => (x.2).length) (x.2.1))) l ≤ 1048576) : Pu Tryz.prog 12 [.c (.t none (.sl 5 (enS5 (enSl 2 (enS2 encI (enSl 1 encI))) (enSl 2 (enS2 encI (enSl 1 encI))) encB encI encI) (l)))] [(0, some (.row none 36 true 5 (enS5 (enSl 2 (enS2 encI (enSl 1 encI))) (enSl 2 (enS2 encI (enSl 1 encI))) encB encI encI) (l)))] 1 (.c (.own 0)) := by
  refine pu_enter Tryz.func12 rfl (Nat.le_of_ble_eq_true rfl) fun w S => ?_
  have gl := sz_len (f := (fun (x : (List (Int × (List (Int)))) × (List (Int × (List (Int)))) × Bool × Int × Int) => (szS (fun (x : Int × (List (Int))) => (x.2).length) (x.1)) + (szS (fun (x : Int × (List (Int))) => (x.2).length) (x.2.1)))) (l := l)
  refine t_seq ?_
  refine t_region ?_
  refine r_op (o_assign rfl rfl) ?_
  refine r_end ?_
  refine t_seq ?_
  refine t_region ?_
  refine r_op (o_move rfl rfl) ?_
  refine r_op (o_len rfl rfl rfl) ?_
  refine r_op (o_make 0 true (et := 36) (sz := 5) (by' := 72) (enS5 (enSl 2 (enS2 encI (enSl 1 encI))) (enSl 2 (enS2 encI (enSl 1 encI))) encB encI encI) (([], [], false, 0, 0)) (zs := [.slice none 0 0, .slice none 0 0, .bool (false), .int .i64 (0), .int .i64 (0)]) rfl rfl (by kernel_rfl) (by kernel_rfl) rfl rfl (.cons .sl (.cons .sl (.cons (.v rfl) (.cons (.v rfl) (.cons (.v rfl) .nil))))) rfl rfl (by first | omega | (simp; omega) | (have e1 := sz_at (f := (fun (x : (List (Int × (List (Int)))) × (List (Int × (List (Int)))) × Bool × Int × Int) => (szS (fun (x : Int × (List (Int))) => (x.2).length) (x.1)) + (szS (fun (x : Int × (List (Int))) => (x.2).length) (x.2.1)))) (l := l) (m := m) (by assumption); (try dsimp only at e1); omega)) (by first | omega | (simp; omega) | (have e1 := sz_at (f := (fun (x : (List (Int × (List (Int)))) × (List (Int × (List (Int)))) × Bool × Int × Int) => (szS (fun (x : Int × (List (Int))) => (x.2).length) (x.1)) + (szS (fun (x : Int × (List (Int))) => (x.2).length) (x.2.1)))) (l := l) (m := m) (by assumption); (try dsimp only at e1); omega)) (by first | omega | (simp; omega) | (have e1 := sz_at (f := (fun (x : (List (Int × (List (Int)))) × (List (Int × (List (Int)))) × Bool × Int × Int) => (szS (fun (x : Int × (List (Int))) => (x.2).length) (x.1)) + (szS (fun (x : Int × (List (Int))) => (x.2).length) (x.2.1)))) (l := l) (m := m) (by assumption); (try dsimp only at e1); omega))) ?_
  refine r_op (o_assign rfl rfl) ?_
  refine r_end ?_
  refine t_seq ?_
  refine t_seq ?_
  refine t_region ?_
  refine r_op (o_assign rfl rfl) ?_
  refine r_end ?_
  refine t_block ?_
  refine t_loopL (fun m => ⟨[(0, some (.c (.t none (.sl 5 (enS5 (enSl 2 (enS2 encI (enSl 1 encI))) (enSl 2 (enS2 encI (enSl 1 encI))) encB encI encI) (l))))), (2, some (.c (.t none (.v (.slice none 0 0))))), (3, some (.c (.own 0))), (4, some (.c (.t none (.v (.int .i64 ((m : Int)))))))], [(0, some (.row none 36 true 5 (enS5 (enSl 2 (enS2 encI (enSl 1 encI))) (enSl 2 (enS2 encI (enSl 1 encI))) encB encI encI) (l.take m ++ List.replicate (l.length - m) (([], [], false, 0, 0)))))], 1⟩ : Nat → St) (fun m => m ≤ l.length) (fun m => l.length - m) 0 ⟨⟨rfl, ⟨rfl, ⟨rfl, ⟨rfl, trivial⟩⟩⟩⟩, ⟨(eqR (by simp)), trivial⟩, rfl⟩ (by simp) ?_
  rintro m hI ih0
  try dsimp only at hI ih0
  refine t_seq ?_
  refine t_seq ?_
  refine t_region ?_
  refine r_op (o_move rfl rfl) ?_
  refine r_op (o_move rfl rfl) ?_
  refine r_op (o_len rfl rfl rfl) ?_
  refine r_op (o_bin rfl rfl rfl rfl) ?_
  refine r_end ?_
  refine t_cond rfl (fun h1 => ?_) (fun h1 => ?_)
  ·
    have h1' := of_decide_eq_true h1
    refine t_skip ?_
    refine t_seq ?_
    refine t_block ?_
    refine t_region ?_
    refine r_op (o_move rfl rfl) ?_
    refine r_op (o_move rfl rfl) ?_
    refine r_op (o_move rfl rfl) ?_
    refine r_op (o_move rfl rfl) ?_
    obtain ⟨z2, hz3, b4⟩ := at_get (xs := l) (n := (m : Int)) (by first | omega | (simp; omega) | (have e1 := sz_at (f := (fun (x : (List (Int × (List (Int)))) × (List (Int × (List (Int)))) × Bool × Int × Int) => (szS (fun (x : Int × (List (Int))) => (x.2).length) (x.1)) + (szS (fun (x : Int × (List (Int))) => (x.2).length) (x.2.1)))) (l := l) (m := m) (by assumption); (try dsimp only at e1); omega)) (by first | omega | (simp; omega) | (have e1 := sz_at (f := (fun (x : (List (Int × (List (Int)))) × (List (Int × (List (Int)))) × Bool × Int × Int) => (szS (fun (x : Int × (List (Int))) => (x.2).length) (x.1)) + (szS (fun (x : Int × (List (Int))) => (x.2).length) (x.2.1)))) (l := l) (m := m) (by assumption); (try dsimp only at e1); omega))
    refine r_op (o_index rfl (by kernel_rfl) rfl rfl b4 hz3) ?_
    refine r_op (o_loadA rfl (n := 5) (by kernel_rfl) (by kernel_rfl) rfl rfl) ?_
    refine r_op (o_call 1 6 false (Go.Proofs.enters_of Tryz.func38 (by kernel_rfl) rfl) (c_laws_toDependency (z2.1) (z2.2.1) (z2.2.2.1) (z2.2.2.2.1) (z2.2.2.2.2) (by first | omega | (simp; omega) | (have e1 := sz_at (f := (fun (x : (List (Int × (List (Int)))) × (List (Int × (List (Int)))) × Bool × Int × Int) => (szS (fun (x : Int × (List (Int))) => (x.2).length) (x.1)) + (szS (fun (x : Int × (List (Int))) => (x.2).length) (x.2.1)))) (l := l) (m := m) (by assumption); (try dsimp only at e1); omega))) rfl (.cons rfl (.agg (.cons .t0 (.cons .t0 (.cons .t0 (.cons .t0 (.cons .t0 .nil)))))) .nil) rfl rfl rfl) ?_
    obtain ⟨z5, hz6, b7⟩ := at_get (xs := l.take m ++ List.replicate (l.length - m) (([], [], false, 0, 0))) (n := (m : Int)) (by first | omega | (simp; omega) | (have e1 := sz_at (f := (fun (x : (List (Int × (List (Int)))) × (List (Int × (List (Int)))) × Bool × Int × Int) => (szS (fun (x : Int × (List (Int))) => (x.2).length) (x.1)) + (szS (fun (x : Int × (List (Int))) => (x.2).length) (x.2.1)))) (l := l) (m := m) (by assumption); (try dsimp only at e1); omega)) (by first | omega | (simp; omega) | (have e1 := sz_at (f := (fun (x : (List (Int × (List (Int)))) × (List (Int × (List (Int)))) × Bool × Int × Int) => (szS (fun (x : Int × (List (Int))) => (x.2).length) (x.1)) + (szS (fun (x : Int × (List (Int))) => (x.2).length) (x.2.1)))) (l := l) (m := m) (by assumption); (try dsimp only at e1); omega))
    refine r_op (o_indexo rfl (by kernel_rfl) rfl rfl rfl b7 (at_lt b7 hz6)) ?_
    refine r_op (o_storeo (((z2.1), (z2.2.1), (z2.2.2.1), (z2.2.2.2.1), (z2.2.2.2.2))) (n := 5) (by kernel_rfl) rfl rfl hz6 rfl rfl rfl rfl (.take (.own rfl) rfl (.take (.own rfl) rfl (.cons .sc (.cons .sc (.cons .sc .nil))))) rfl (fun j h1 h2 => by simp at h1 h2; omega)) ?_
    refine r_end ?_
    refine t_endblock ?_
    refine t_region ?_
    refine r_op (o_move rfl rfl) ?_
    refine r_op (o_bin rfl rfl rfl rfl) ?_
    refine r_op (o_assign rfl rfl) ?_
    refine r_end ?_
    refine t_le ?_ (ih0 (m + 1) (by (try dsimp only); omega) (by (try dsimp only); omega))
    exact ⟨⟨rfl, ⟨rfl, ⟨rfl, ⟨(eqI (wrS (by omega))), trivial⟩⟩⟩⟩, ⟨(eqR (fill_set (by assumption))), trivial⟩, rfl⟩
  ·
    have h1' := of_decide_eq_false h1
    refine t_exit rfl ?_
    refine t_seq ?_
    refine t_region ?_
    refine r_op (o_move rfl rfl) ?_
    refine r_op (o_assign rfl rfl) ?_
    refine r_end ?_
    refine t_ret Tryz.func12 (.tmp rfl .nil) rfl fun E S w u hI hd => ?_
    refine post_mk hI hd ?_ ⟨eqR ?_, trivial⟩ rfl rfl rfl <;> clear hI hd <;> (try clear ih0)
    all_goals first | rfl | ((obtain rfl : m = l.length := by omega); simp)
set_option maxHeartbeats 1000000 in
set_option maxRecDepth 10000 in
theorem c_spec_l1In (a0 a1 a2 : Int) : Pu Tryz.prog 109 [.c (.t none (.v (.int .i64 (a0)))), .c (.t none (.v (.int .i64 (a1)))), .c (.t none (.v (.int .i64 (a2))))] [] 0 (.c (.t none (.v (.bool (decide (a1 ≤ a0 ∧ a0 ≤ a2)))))) := by
  refine pu_enter Tryz.func109 rfl (Nat.le_of_ble_eq_true rfl) fun w S => ?_
  refine t_seq ?_
  refine t_region ?_
  refine r_op (o_assign rfl rfl) ?_
  refine r_end ?_
  refine t_seq ?_
  refine t_region ?_
  refine r_op (o_move rfl rfl) ?_
  refine r_op (o_move rfl rfl) ?_
  refine r_op (o_bin rfl rfl rfl rfl) ?_
  refine r_op (o_move rfl rfl) ?_
  refine r_guard rfl rfl rfl (fun g1 => ?_) (fun g1 => ?_)
  ·
    have g1' := of_decide_eq_true g1
    refine r_op (o_move rfl rfl) ?_
    refine r_guard rfl rfl rfl (fun _ => ?_) (nc g1)
    refine r_op (o_move rfl rfl) ?_
    refine r_guard rfl rfl rfl (fun _ => ?_) (nc g1)
    refine r_op (o_bin rfl rfl rfl rfl) ?_
    refine r_op (o_pickT rfl rfl g1 rfl) ?_
    refine r_op (o_assign rfl rfl) ?_
    refine r_end ?_
    refine t_ret Tryz.func109 (.tmp rfl .nil) rfl fun E S w u hI hd => ?_
    refine post_mk hI hd ?_ trivial rfl rfl rfl <;> clear hI hd
    all_goals first | rfl | (simp_all <;> omega)
  ·
    have g1' := of_decide_eq_false g1
    refine r_guard rfl rfl rfl (ncf g1) (fun _ => ?_)
    refine r_guard rfl rfl rfl (ncf g1) (fun _ => ?_)
    refine r_op (o_pickF rfl rfl g1 rfl) ?_
    refine r_op (o_assign rfl rfl) ?_
    refine r_end ?_
    refine t_ret Tryz.func109 (.tmp rfl .nil) rfl fun E S w u hI hd => ?_
    refine post_mk hI hd ?_ trivial rfl rfl rfl <;> clear hI hd
    all_goals first | rfl | (simp_all <;> omega)
set_option maxHeartbeats 1000000 in
set_option maxRecDepth 10000 in
theorem c_spec_IsValidRelation (n : List UInt8) (a : Int) (s : Bool) : Pu Tryz.prog 113 [.agg [.t none (.v (.string (mkS (n)))), .t none (.v (.int .i64 (a))), .t none (.v (.bool (s)))]] [] 0 (.c (.t none (.v (.bool (relOk (n, a, s)))))) := by
  refine pu_enter Tryz.func113 rfl (Nat.le_of_ble_eq_true rfl) fun w S => ?_
  refine t_seq ?_
  refine t_region ?_
  refine r_op (o_box 0 rfl rfl rfl rfl) ?_
  refine r_op (o_assign rfl rfl) ?_
  refine r_end ?_
  refine t_seq ?_
  refine t_region ?_
  refine r_op (o_fieldb rfl (off := 0) (by kernel_rfl) rfl) ?_
  refine r_op (o_load1b rfl (by kernel_rfl) rfl rfl rfl) ?_
  refine r_op (o_lenS rfl Tryz.underlying9 rfl) ?_
  refine r_op (o_bin rfl rfl rfl rfl) ?_
  refine r_op (o_move rfl rfl) ?_
  refine r_guard rfl rfl rfl (fun g1 => ?_) (fun g1 => ?_)
  ·
    have g1' := of_decide_eq_true g1
    refine r_op (o_fieldb rfl (off := 0) (by kernel_rfl) rfl) ?_
    refine r_guard rfl rfl rfl (fun _ => ?_) (nc g1)
    refine r_op (o_load1b rfl (by kernel_rfl) rfl rfl rfl) ?_
    refine r_guard rfl rfl rfl (fun _ => ?_) (nc g1)
    obtain ⟨z2, hz3, b4⟩ := at_get (xs := n) (n := 0) (by first | omega | (simp; omega)) (by first | omega | (simp; omega))
    refine r_op (o_indexS rfl Tryz.underlying9 rfl rfl b4 hz3) ?_
    refine r_guard rfl rfl rfl (fun _ => ?_) (nc g1)
    refine r_op (o_bin rfl rfl rfl rfl) ?_
    refine r_op (o_pickT rfl rfl g1 rfl) ?_
    refine r_op (o_move rfl rfl) ?_
    refine r_guard rfl rfl rfl (fun g5 => ?_) (fun g5 => ?_)
    ·
      have g5' := of_decide_eq_true g5
      refine r_op (o_fieldb rfl (off := 0) (by kernel_rfl) rfl) ?_
      refine r_guard rfl rfl rfl (fun _ => ?_) (nc g5)
      refine r_op (o_load1b rfl (by kernel_rfl) rfl rfl rfl) ?_
      refine r_guard rfl rfl rfl (fun _ => ?_) (nc g5)
      refine r_op (o_indexS rfl Tryz.underlying9 rfl rfl b4 hz3) ?_
      refine r_guard rfl rfl rfl (fun _ => ?_) (nc g5)
      refine r_op (o_bin rfl rfl rfl rfl) ?_
      refine r_op (o_pickT rfl rfl g5 rfl) ?_
      refine r_op (o_move rfl rfl) ?_
      refine r_guard rfl rfl rfl (fun g6 => ?_) (fun g6 => ?_)
      ·
        have g6' := of_decide_eq_true g6
        refine r_op (o_fieldb rfl (off := 1) (by kernel_rfl) rfl) ?_
        refine r_guard rfl rfl rfl (fun _ => ?_) (nc g6)
        refine r_op (o_load1b rfl (by kernel_rfl) rfl rfl rfl) ?_
        refine r_guard rfl rfl rfl (fun _ => ?_) (nc g6)
        refine r_op (o_call 1 1 false (Go.Proofs.enters_of Tryz.func109 (by kernel_rfl) rfl) (c_spec_l1In (a) (1) (3)) rfl (.cons rfl (.c .t0) (.cons rfl (.c .t0) (.cons rfl (.c .t0) .nil))) rfl rfl rfl) ?_
        refine r_op (o_pickT rfl rfl g6 rfl) ?_
        refine r_op (o_assign rfl rfl) ?_
        refine r_end ?_
        refine t_ret Tryz.func113 (.tmp rfl .nil) rfl fun E S w u hI hd => ?_
        refine post_mk hI hd ?_ trivial rfl rfl rfl <;> clear hI hd
        all_goals first | rfl | (refine scB ?_; first | (have e := nameOk_not (by assumption); simp [relOk, e]; done) | (obtain ⟨c, rfl⟩ := one_of (by assumption); simp at *; subst_vars; simp [relOk, nameOk]; omega))
      ·
        have g6' := of_decide_eq_false g6
        refine r_guard rfl rfl rfl (ncf g6) (fun _ => ?_)
        refine r_guard rfl rfl rfl (ncf g6) (fun _ => ?_)
        refine r_op (o_pickF rfl rfl g6 rfl) ?_
        refine r_op (o_assign rfl rfl) ?_
        refine r_end ?_
        refine t_ret Tryz.func113 (.tmp rfl .nil) rfl fun E S w u hI hd => ?_
        refine post_mk hI hd ?_ trivial rfl rfl rfl <;> clear hI hd
        all_goals first | rfl | (refine scB ?_; first | (have e := nameOk_not (by assumption); simp [relOk, e]; done) | (obtain ⟨c, rfl⟩ := one_of (by assumption); simp at *; subst_vars; simp [relOk, nameOk]; omega))
    ·
      have g5' := of_decide_eq_false g5
      refine r_guard rfl rfl rfl (ncf g5) (fun _ => ?_)
      refine r_guard rfl rfl rfl (ncf g5) (fun _ => ?_)
      refine r_guard rfl rfl rfl (ncf g5) (fun _ => ?_)
      refine r_op (o_pickF rfl rfl g5 rfl) ?_
      refine r_op (o_move rfl rfl) ?_
      refine r_guard rfl rfl rfl (ncf rfl) (fun _ => ?_)
      refine r_guard rfl rfl rfl (ncf rfl) (fun _ => ?_)
      refine r_guard rfl rfl rfl (ncf rfl) (fun _ => ?_)
      refine r_op (o_pickF rfl rfl rfl rfl) ?_
      refine r_op (o_assign rfl rfl) ?_
      refine r_end ?_
      refine t_ret Tryz.func113 (.tmp rfl .nil) rfl fun E S w u hI hd => ?_
      refine post_mk hI hd ?_ trivial rfl rfl rfl <;> clear hI hd
      all_goals first | rfl | (refine scB ?_; first | (have e := nameOk_not (by assumption); simp [relOk, e]; done) | (obtain ⟨c, rfl⟩ := one_of (by assumption); simp at *; subst_vars; simp [relOk, nameOk]; omega))
  ·
    have g1' := of_decide_eq_false g1
    refine r_guard rfl rfl rfl (ncf g1) (fun _ => ?_)
    refine r_guard rfl rfl rfl (ncf g1) (fun _ => ?_)
    refine r_guard rfl rfl rfl (ncf g1) (fun _ => ?_)
    refine r_op (o_pickF rfl rfl g1 rfl) ?_
    refine r_op (o_move rfl rfl) ?_
    refine r_guard rfl rfl rfl (ncf rfl) (fun _ => ?_)
    refine r_guard rfl rfl rfl (ncf rfl) (fun _ => ?_)
    refine r_guard rfl rfl rfl (ncf rfl) (fun _ => ?_)
    refine r_guard rfl rfl rfl (ncf rfl) (fun _ => ?_)
    refine r_op (o_pickF rfl rfl rfl rfl) ?_
    refine r_op (o_move rfl rfl) ?_
    refine r_guard rfl rfl rfl (ncf rfl) (fun _ => ?_)
    refine r_guard rfl rfl rfl (ncf rfl) (fun _ => ?_)
    refine r_guard rfl rfl rfl (ncf rfl) (fun _ => ?_)
    refine r_op (o_pickF rfl rfl rfl rfl) ?_
    refine r_op (o_assign rfl rfl) ?_
    refine r_end ?_
    refine t_ret Tryz.func113 (.tmp rfl .nil) rfl fun E S w u hI hd => ?_
    refine post_mk hI hd ?_ trivial rfl rfl rfl <;> clear hI hd
    all_goals first | rfl | (refine scB ?_; first | (have e := nameOk_not (by assumption); simp [relOk, e]; done) | (obtain ⟨c, rfl⟩ := one_of (by assumption); simp at *; subst_vars; simp [relOk, nameOk]; omega))
set_option maxHeartbeats 1000000 in
set_option maxRecDepth 10000 in
theorem c_spec_AreValidRelations (l : List (List UInt8 × Int × Bool)) (hl : l.length ≤ 4611686018427387904) : Pu Tryz.prog 67 [.c (.t none (.sl 3 (enS3 encS encI encB) (l)))] [] 0 (.c (.t none (.v (.bool (relsOk l))))) := by
  refine pu_enter Tryz.func67 rfl (Nat.le_of_ble_eq_true rfl) fun w S => ?_
  refine t_seq ?_
  refine t_region ?_
  refine r_op (o_assign rfl rfl) ?_
  refine r_end ?_
  refine t_seq ?_
  refine t_seq ?_
  refine t_region ?_
  refine r_op (o_assign rfl rfl) ?_
  refine r_end ?_
  refine t_block ?_
  refine t_loopL (fun m => ⟨[(0, some (.c (.t none (.sl 3 (enS3 encS encI encB) (l))))), (3, some (.c (.t none (.v (.int .i64 ((m : Int)))))))], [], 0⟩ : Nat → St) (fun m => m ≤ l.length ∧ ∀ j, j < m → relStep l j = true) (fun m => l.length - m) 0 ⟨⟨rfl, ⟨rfl, trivial⟩⟩, trivial, rfl⟩ (by exact ⟨Nat.zero_le _, fun j h => by omega⟩) ?_
  rintro m hI ih0
  try dsimp only at hI ih0
  obtain ⟨i1, i2⟩ := hI
  refine t_seq ?_
  refine t_seq ?_
  refine t_region ?_
  refine r_op (o_move rfl rfl) ?_
  refine r_op (o_move rfl rfl) ?_
  refine r_op (o_len rfl rfl rfl) ?_
  refine r_op (o_bin rfl rfl rfl rfl) ?_
  refine r_end ?_
  refine t_cond rfl (fun h1 => ?_) (fun h1 => ?_)
  ·
    have h1' := of_decide_eq_true h1
    refine t_skip ?_
    refine t_seq ?_
    refine t_block ?_
    refine t_seq ?_
    refine t_draw (fun _ => true) (by kernel_rfl) ?_
    refine d_take 0 rfl rfl (by kernel_rfl) (by kernel_rfl) (by kernel_rfl) (p_move rfl) ?_
    refine d_take 1 rfl rfl (by kernel_rfl) (by kernel_rfl) (by kernel_rfl) (p_move rfl) ?_
    obtain ⟨z2, hz3, b4⟩ := at_get (xs := l) (n := (m : Int)) (by first | omega | (simp; omega) | (simp only [IntKind.wrap_i64]; omega)) (by first | omega | (simp; omega) | (simp only [IntKind.wrap_i64]; omega))
    refine d_take 2 rfl rfl (by kernel_rfl) (by kernel_rfl) (by kernel_rfl) (p_index (by kernel_rfl) rfl rfl b4 hz3) ?_
    refine d_take 3 rfl rfl (by kernel_rfl) (by kernel_rfl) (by kernel_rfl) (p_loadA (n := 3) (by kernel_rfl) (by kernel_rfl) rfl rfl) ?_
    refine d_only 4 rfl (by kernel_rfl) rfl (o_call 0 0 false (Go.Proofs.enters_of Tryz.func113 (by kernel_rfl) rfl) (c_spec_IsValidRelation (z2.1) (z2.2.1) (z2.2.2)) rfl (.cons rfl (.agg (.cons .t0 (.cons .t0 (.cons .t0 .nil)))) .nil) rfl rfl rfl) ?_
    refine d_take 5 rfl rfl (by kernel_rfl) (by kernel_rfl) (by kernel_rfl) (p_not rfl) ?_
    refine d_take 6 rfl rfl (by kernel_rfl) (by kernel_rfl) (by kernel_rfl) (p_move rfl) ?_
    refine d_guard 7 rfl rfl (by kernel_rfl) (by kernel_rfl) (by kernel_rfl) rfl rfl (fun _ => p_move rfl) (fun g5 => ?_) (fun g5 => ?_)
    ·
      have g5' := (bnf g5)
      refine d_guard 8 rfl rfl (by kernel_rfl) (by kernel_rfl) (by kernel_rfl) rfl rfl (fun _ => p_bin rfl rfl rfl) (fun _ => ?_) (ncf g5)
      refine d_guard 9 rfl rfl (by kernel_rfl) (by kernel_rfl) (by kernel_rfl) rfl rfl (fun _ => p_move rfl) (fun _ => ?_) (ncf g5)
      refine d_guard 10 rfl rfl (by kernel_rfl) (by kernel_rfl) (by kernel_rfl) rfl rfl (fun _ => p_move rfl) (fun g6 => ?_) (fun g6 => ?_)
      ·
        have g6' := of_decide_eq_true g6
        refine d_guard 11 rfl rfl (by kernel_rfl) (by kernel_rfl) (by kernel_rfl) rfl rfl (fun _ => p_move rfl) (fun _ => ?_) (nc g6)
        refine d_guard 12 rfl rfl (by kernel_rfl) (by kernel_rfl) (by kernel_rfl) rfl rfl (fun _ => p_bin rfl rfl rfl) (fun _ => ?_) (nc g6)
        obtain ⟨z7, hz8, b9⟩ := at_get (xs := l) (n := IntKind.i64.wrap ((m : Int) - 1)) (by first | omega | (simp; omega) | (simp only [IntKind.wrap_i64]; omega)) (by first | omega | (simp; omega) | (simp only [IntKind.wrap_i64]; omega))
        refine d_guard 13 rfl rfl (by kernel_rfl) (by kernel_rfl) (by kernel_rfl) rfl rfl (fun _ => p_index (by kernel_rfl) rfl rfl b9 hz8) (fun _ => ?_) (nc g6)
        refine d_guard 14 rfl rfl (by kernel_rfl) (by kernel_rfl) (by kernel_rfl) rfl rfl (fun _ => p_field (off := 0) (by kernel_rfl) rfl) (fun _ => ?_) (nc g6)
        refine d_guard 15 rfl rfl (by kernel_rfl) (by kernel_rfl) (by kernel_rfl) rfl rfl (fun _ => p_load1 (by kernel_rfl) rfl rfl) (fun _ => ?_) (nc g6)
        refine d_guard 16 rfl rfl (by kernel_rfl) (by kernel_rfl) (by kernel_rfl) rfl rfl (fun _ => p_move rfl) (fun _ => ?_) (nc g6)
        refine d_guard 17 rfl rfl (by kernel_rfl) (by kernel_rfl) (by kernel_rfl) rfl rfl (fun _ => p_move rfl) (fun _ => ?_) (nc g6)
        refine d_guard 18 rfl rfl (by kernel_rfl) (by kernel_rfl) (by kernel_rfl) rfl rfl (fun _ => p_index (by kernel_rfl) rfl rfl b4 hz3) (fun _ => ?_) (nc g6)
        refine d_guard 19 rfl rfl (by kernel_rfl) (by kernel_rfl) (by kernel_rfl) rfl rfl (fun _ => p_field (off := 0) (by kernel_rfl) rfl) (fun _ => ?_) (nc g6)
        refine d_guard 20 rfl rfl (by kernel_rfl) (by kernel_rfl) (by kernel_rfl) rfl rfl (fun _ => p_load1 (by kernel_rfl) rfl rfl) (fun _ => ?_) (nc g6)
        refine d_guard 21 rfl rfl (by kernel_rfl) (by kernel_rfl) (by kernel_rfl) rfl rfl (fun _ => p_str rfl rfl rfl) (fun _ => ?_) (nc g6)
        refine d_guard 22 rfl rfl (by kernel_rfl) (by kernel_rfl) (by kernel_rfl) rfl rfl (fun _ => p_pickT rfl g6 rfl) (fun _ => ?_) (ncf g5)
        refine d_take 23 rfl rfl (by kernel_rfl) (by kernel_rfl) (by kernel_rfl) (p_pickF rfl g5 rfl) ?_
        refine d_end (by kernel_rfl) ?_
        refine t_cond rfl (fun h10 => ?_) (fun h10 => ?_)
        ·
          have h10' := (bnt h10)
          refine t_seq ?_
          refine t_region ?_
          refine r_op (o_assign rfl rfl) ?_
          refine r_end ?_
          refine t_ret Tryz.func67 (.tmp rfl .nil) rfl fun E S w u hI hd => ?_
          refine post_mk hI hd ?_ trivial rfl rfl rfl <;> clear hI hd <;> (try clear ih0)
          all_goals first | rfl | (rw [relsOk_not (m := m) (by omega) (relStep_pos (n := (IntKind.i64.wrap ((m : Int) - 1)).toNat) (by assumption) (by assumption) (by omega) (by simp only [IntKind.wrap_i64]; omega) (by assumption) (by assumption))])
        ·
          have h10' := (bnf h10)
          refine t_skip ?_
          refine t_endblock ?_
          refine t_region ?_
          refine r_op (o_move rfl rfl) ?_
          refine r_op (o_bin rfl rfl rfl rfl) ?_
          refine r_op (o_assign rfl rfl) ?_
          refine r_end ?_
          refine t_le ?_ (ih0 (m + 1) (by (try dsimp only); omega) (by (try dsimp only); exact ⟨by omega, step_all i2 (relStep_pos (n := (IntKind.i64.wrap ((m : Int) - 1)).toNat) (by assumption) (by assumption) (by omega) (by simp only [IntKind.wrap_i64]; omega) (by assumption) (by assumption))⟩))
          exact ⟨⟨rfl, ⟨(eqI (wr64 (by omega) (by omega))), trivial⟩⟩, trivial, rfl⟩
      ·
        have g6' := of_decide_eq_false g6
        refine d_guard 11 rfl rfl (by kernel_rfl) (by kernel_rfl) (by kernel_rfl) rfl rfl (v := .c .top) (ncf g6) (ncf g6) (fun _ => ?_)
        refine d_guard 12 rfl rfl (by kernel_rfl) (by kernel_rfl) (by kernel_rfl) rfl rfl (v := .c .top) (ncf g6) (ncf g6) (fun _ => ?_)
        refine d_guard 13 rfl rfl (by kernel_rfl) (by kernel_rfl) (by kernel_rfl) rfl rfl (v := .c .top) (ncf g6) (ncf g6) (fun _ => ?_)
        refine d_guard 14 rfl rfl (by kernel_rfl) (by kernel_rfl) (by kernel_rfl) rfl rfl (v := .c .top) (ncf g6) (ncf g6) (fun _ => ?_)
        refine d_guard 15 rfl rfl (by kernel_rfl) (by kernel_rfl) (by kernel_rfl) rfl rfl (v := .c .top) (ncf g6) (ncf g6) (fun _ => ?_)
        refine d_guard 16 rfl rfl (by kernel_rfl) (by kernel_rfl) (by kernel_rfl) rfl rfl (v := .c .top) (ncf g6) (ncf g6) (fun _ => ?_)
        refine d_guard 17 rfl rfl (by kernel_rfl) (by kernel_rfl) (by kernel_rfl) rfl rfl (v := .c .top) (ncf g6) (ncf g6) (fun _ => ?_)
        refine d_guard 18 rfl rfl (by kernel_rfl) (by kernel_rfl) (by kernel_rfl) rfl rfl (v := .c .top) (ncf g6) (ncf g6) (fun _ => ?_)
        refine d_guard 19 rfl rfl (by kernel_rfl) (by kernel_rfl) (by kernel_rfl) rfl rfl (v := .c .top) (ncf g6) (ncf g6) (fun _ => ?_)
        refine d_guard 20 rfl rfl (by kernel_rfl) (by kernel_rfl) (by kernel_rfl) rfl rfl (v := .c .top) (ncf g6) (ncf g6) (fun _ => ?_)
        refine d_guard 21 rfl rfl (by kernel_rfl) (by kernel_rfl) (by kernel_rfl) rfl rfl (v := .c .top) (ncf g6) (ncf g6) (fun _ => ?_)
        refine d_guard 22 rfl rfl (by kernel_rfl) (by kernel_rfl) (by kernel_rfl) rfl rfl (fun _ => p_pickF rfl g6 rfl) (fun _ => ?_) (ncf g5)
        refine d_take 23 rfl rfl (by kernel_rfl) (by kernel_rfl) (by kernel_rfl) (p_pickF rfl g5 rfl) ?_
        refine d_end (by kernel_rfl) ?_
        refine t_cond rfl (ncf rfl) (fun _ => ?_)
        refine t_skip ?_
        refine t_endblock ?_
        refine t_region ?_
        refine r_op (o_move rfl rfl) ?_
        refine r_op (o_bin rfl rfl rfl rfl) ?_
        refine r_op (o_assign rfl rfl) ?_
        refine r_end ?_
        refine t_le ?_ (ih0 (m + 1) (by (try dsimp only); omega) (by (try dsimp only); exact ⟨by omega, step_all i2 (relStep_zero (by assumption) (by assumption) (by omega))⟩))
        exact ⟨⟨rfl, ⟨(eqI (wr64 (by omega) (by omega))), trivial⟩⟩, trivial, rfl⟩
    ·
      have g5' := (bnt g5)
      refine d_guard 8 rfl rfl (by kernel_rfl) (by kernel_rfl) (by kernel_rfl) rfl rfl (v := .c .top) (nc g5) (nc g5) (fun _ => ?_)
      refine d_guard 9 rfl rfl (by kernel_rfl) (by kernel_rfl) (by kernel_rfl) rfl rfl (v := .c .top) (nc g5) (nc g5) (fun _ => ?_)
      refine d_skip 10 rfl rfl (by kernel_rfl) (by kernel_rfl) (by kernel_rfl) rfl rfl ?_
      refine d_skip 11 rfl rfl (by kernel_rfl) (by kernel_rfl) (by kernel_rfl) rfl rfl ?_
      refine d_skip 12 rfl rfl (by kernel_rfl) (by kernel_rfl) (by kernel_rfl) rfl rfl ?_
      refine d_skip 13 rfl rfl (by kernel_rfl) (by kernel_rfl) (by kernel_rfl) rfl rfl ?_
      refine d_skip 14 rfl rfl (by kernel_rfl) (by kernel_rfl) (by kernel_rfl) rfl rfl ?_
      refine d_skip 15 rfl rfl (by kernel_rfl) (by kernel_rfl) (by kernel_rfl) rfl rfl ?_
      refine d_skip 16 rfl rfl (by kernel_rfl) (by kernel_rfl) (by kernel_rfl) rfl rfl ?_
      refine d_skip 17 rfl rfl (by kernel_rfl) (by kernel_rfl) (by kernel_rfl) rfl rfl ?_
      refine d_skip 18 rfl rfl (by kernel_rfl) (by kernel_rfl) (by kernel_rfl) rfl rfl ?_
      refine d_skip 19 rfl rfl (by kernel_rfl) (by kernel_rfl) (by kernel_rfl) rfl rfl ?_
      refine d_skip 20 rfl rfl (by kernel_rfl) (by kernel_rfl) (by kernel_rfl) rfl rfl ?_
      refine d_skip 21 rfl rfl (by kernel_rfl) (by kernel_rfl) (by kernel_rfl) rfl rfl ?_
      refine d_guard 22 rfl rfl (by kernel_rfl) (by kernel_rfl) (by kernel_rfl) rfl rfl (v := .c .top) (nc g5) (nc g5) (fun _ => ?_)
      refine d_take 23 rfl rfl (by kernel_rfl) (by kernel_rfl) (by kernel_rfl) (p_pickT rfl g5 rfl) ?_
      refine d_end (by kernel_rfl) ?_
      refine t_cond rfl (fun _ => ?_) (nc rfl)
      refine t_seq ?_
      refine t_region ?_
      refine r_op (o_assign rfl rfl) ?_
      refine r_end ?_
      refine t_ret Tryz.func67 (.tmp rfl .nil) rfl fun E S w u hI hd => ?_
      refine post_mk hI hd ?_ trivial rfl rfl rfl <;> clear hI hd <;> (try clear ih0)
      all_goals first | rfl | (rw [relsOk_not (m := m) (by omega) (relStep_bad (by assumption) (by assumption))])
  ·
    have h1' := of_decide_eq_false h1
    refine t_exit rfl ?_
    refine t_seq ?_
    refine t_region ?_
    refine r_op (o_move rfl rfl) ?_
    refine r_op (o_len rfl rfl rfl) ?_
    refine r_op (o_bin rfl rfl rfl rfl) ?_
    refine r_op (o_assign rfl rfl) ?_
    refine r_end ?_
    refine t_ret Tryz.func67 (.tmp rfl .nil) rfl fun E S w u hI hd => ?_
    refine post_mk hI hd ?_ trivial rfl rfl rfl <;> clear hI hd <;> (try clear ih0)
    all_goals first | rfl | (rw [relsOk_end (m := m) i2 (by omega)]; exact scD (by omega))
set_option maxHeartbeats 1000000 in
set_option maxRecDepth 10000 in
theorem c_spec_IsValidAtom (rs : List (List UInt8 × Int × Bool)) (r : Int) (ts : List Int) (hrs : rs.length ≤ 4611686018427387904) (hts : ts.length ≤ 4611686018427387904) : Pu Tryz.prog 110 [.c (.t none (.sl 3 (enS3 encS encI encB) (rs))), .agg [.t none (.v (.int .i64 (r))), .t none (.sl 1 encI (ts))]] [] 0 (.c (.t none (.v (.bool (atomOk rs r ts))))) := by
  refine pu_enter Tryz.func110 rfl (Nat.le_of_ble_eq_true rfl) fun w S => ?_
  refine t_seq ?_
  refine t_region ?_
  refine r_op (o_box 0 rfl rfl rfl rfl) ?_
  refine r_op (o_assign rfl rfl) ?_
  refine r_end ?_
  refine t_seq ?_
  refine t_seq ?_
  refine t_draw (fun _ => true) (by kernel_rfl) ?_
  refine d_take 0 rfl rfl (by kernel_rfl) (by kernel_rfl) (by kernel_rfl) (p_move rfl) ?_
  refine d_only 1 rfl (by kernel_rfl) rfl (o_call 1 1 false (Go.Proofs.enters_of Tryz.func67 (by kernel_rfl) rfl) (c_spec_AreValidRelations (rs) (by first | omega | assumption | (simp; omega) | (simp only [IntKind.wrap_i64] at *; omega))) rfl (.cons rfl (.c .t0) .nil) rfl rfl rfl) ?_
  refine d_take 2 rfl rfl (by kernel_rfl) (by kernel_rfl) (by kernel_rfl) (p_not rfl) ?_
  refine d_take 3 rfl rfl (by kernel_rfl) (by kernel_rfl) (by kernel_rfl) (p_move rfl) ?_
  refine d_guard 4 rfl rfl (by kernel_rfl) (by kernel_rfl) (by kernel_rfl) rfl rfl (fun _ => p_fieldb (off := 0) (by kernel_rfl) rfl) (fun g1 => ?_) (fun g1 => ?_)
  ·
    have g1' := (bnf g1)
    refine d_guard 5 rfl rfl (by kernel_rfl) (by kernel_rfl) (by kernel_rfl) rfl rfl (fun _ => p_load1b (by kernel_rfl) rfl rfl rfl) (fun _ => ?_) (ncf g1)
    refine d_guard 6 rfl rfl (by kernel_rfl) (by kernel_rfl) (by kernel_rfl) rfl rfl (fun _ => p_move rfl) (fun _ => ?_) (ncf g1)
    refine d_guard 7 rfl rfl (by kernel_rfl) (by kernel_rfl) (by kernel_rfl) rfl rfl (fun _ => p_len rfl rfl) (fun _ => ?_) (ncf g1)
    refine d_guard 8 rfl rfl (by kernel_rfl) (by kernel_rfl) (by kernel_rfl) rfl rfl (fun _ => p_bin rfl rfl rfl) (fun _ => ?_) (ncf g1)
    refine d_onlyG 9 rfl rfl (by kernel_rfl) rfl rfl rfl (fun _ => (o_call 1 1 false (Go.Proofs.enters_of Tryz.func109 (by kernel_rfl) rfl) (c_spec_l1In (r) (0) (IntKind.i64.wrap (((rs).length : Int) - 1))) rfl (.cons rfl (.c .t0) (.cons rfl (.c .t0) (.cons rfl (.c .t0) .nil))) rfl rfl rfl)) (fun _ => ?_) (ncf g1)
    refine d_guard 10 rfl rfl (by kernel_rfl) (by kernel_rfl) (by kernel_rfl) rfl rfl (fun _ => p_not rfl) (fun _ => ?_) (ncf g1)
    refine d_take 11 rfl rfl (by kernel_rfl) (by kernel_rfl) (by kernel_rfl) (p_pickF rfl g1 rfl) ?_
    refine d_take 12 rfl rfl (by kernel_rfl) (by kernel_rfl) (by kernel_rfl) (p_move rfl) ?_
    refine d_guard 13 rfl rfl (by kernel_rfl) (by kernel_rfl) (by kernel_rfl) rfl rfl (fun _ => p_fieldb (off := 1) (by kernel_rfl) rfl) (fun g2 => ?_) (fun g2 => ?_)
    ·
      have g2' := of_decide_eq_true (bnf g2)
      refine d_guard 14 rfl rfl (by kernel_rfl) (by kernel_rfl) (by kernel_rfl) rfl rfl (fun _ => p_load1b (by kernel_rfl) rfl rfl rfl) (fun _ => ?_) (ncf g2)
      refine d_guard 15 rfl rfl (by kernel_rfl) (by kernel_rfl) (by kernel_rfl) rfl rfl (fun _ => p_len rfl rfl) (fun _ => ?_) (ncf g2)
      refine d_guard 16 rfl rfl (by kernel_rfl) (by kernel_rfl) (by kernel_rfl) rfl rfl (fun _ => p_move rfl) (fun _ => ?_) (ncf g2)
      refine d_guard 17 rfl rfl (by kernel_rfl) (by kernel_rfl) (by kernel_rfl) rfl rfl (fun _ => p_fieldb (off := 0) (by kernel_rfl) rfl) (fun _ => ?_) (ncf g2)
      refine d_guard 18 rfl rfl (by kernel_rfl) (by kernel_rfl) (by kernel_rfl) rfl rfl (fun _ => p_load1b (by kernel_rfl) rfl rfl rfl) (fun _ => ?_) (ncf g2)
      obtain ⟨z3, hz4, b5⟩ := at_get (xs := rs) (n := r) (by first | omega | assumption | (simp; omega) | (simp only [IntKind.wrap_i64] at *; omega)) (by first | omega | assumption | (simp; omega) | (simp only [IntKind.wrap_i64] at *; omega))
      refine d_guard 19 rfl rfl (by kernel_rfl) (by kernel_rfl) (by kernel_rfl) rfl rfl (fun _ => p_index (by kernel_rfl) rfl rfl b5 hz4) (fun _ => ?_) (ncf g2)
      refine d_guard 20 rfl rfl (by kernel_rfl) (by kernel_rfl) (by kernel_rfl) rfl rfl (fun _ => p_field (off := 1) (by kernel_rfl) rfl) (fun _ => ?_) (ncf g2)
      refine d_guard 21 rfl rfl (by kernel_rfl) (by kernel_rfl) (by kernel_rfl) rfl rfl (fun _ => p_load1 (by kernel_rfl) rfl rfl) (fun _ => ?_) (ncf g2)
      refine d_guard 22 rfl rfl (by kernel_rfl) (by kernel_rfl) (by kernel_rfl) rfl rfl (fun _ => p_bin rfl rfl rfl) (fun _ => ?_) (ncf g2)
      refine d_take 23 rfl rfl (by kernel_rfl) (by kernel_rfl) (by kernel_rfl) (p_pickF rfl g2 rfl) ?_
      refine d_end (by kernel_rfl) ?_
      refine t_cond rfl (fun h6 => ?_) (fun h6 => ?_)
      ·
        have h6' := of_decide_eq_true h6
        refine t_seq ?_
        refine t_region ?_
        refine r_op (o_assign rfl rfl) ?_
        refine r_end ?_
        refine t_ret Tryz.func110 (.tmp rfl .nil) rfl fun E S w u hI hd => ?_
        refine post_mk hI hd ?_ trivial rfl rfl rfl <;> clear hI hd <;> (try clear ih0)
        all_goals first | rfl | (refine scB ?_; first | (rw [atom_no1 (by assumption)]; done) | (rw [atom_no2 (by simp only [IntKind.wrap_i64] at *; omega)]; done) | (rw [atom_no3 (by assumption) (by assumption)]; done) | (rw [atom_yes (by assumption) (by simp only [IntKind.wrap_i64] at *; omega) (by assumption) (by omega)]; done) | (rw [atom_yes (by assumption) (by simp only [IntKind.wrap_i64] at *; omega) (by assumption) (by omega), any_true (p := fun t => !termOk t) (by assumption) (by simp only [termOk, Bool.not_eq_true']; exact decide_eq_false (by assumption))]; rfl) | (rw [atom_yes (by assumption) (by simp only [IntKind.wrap_i64] at *; omega) (by assumption) (by omega), any_false (p := fun t => !termOk t) i2 (by omega)]; rfl))
      ·
        have h6' := of_decide_eq_false h6
        refine t_skip ?_
        refine t_seq ?_
        refine t_seq ?_
        refine t_region ?_
        refine r_op (o_assign rfl rfl) ?_
        refine r_end ?_
        refine t_block ?_
        refine t_loopL (fun m => ⟨[(3, some (.c (.ptr 0 0))), (5, some (.c (.t none (.v (.int .i64 ((m : Int)))))))], [(0, some (.box [.t none (.v (.int .i64 (r))), .t none (.sl 1 encI (ts))]))], 1⟩ : Nat → St) (fun m => m ≤ ts.length ∧ ∀ j z, j < m → ts[j]? = some z → (fun t => !termOk t) z = false) (fun m => ts.length - m) 0 ⟨⟨rfl, ⟨rfl, trivial⟩⟩, ⟨rfl, trivial⟩, rfl⟩ (by exact ⟨Nat.zero_le _, fun j z h => by omega⟩) ?_
        rintro m hI ih0
        try dsimp only at hI ih0
        obtain ⟨i1, i2⟩ := hI
        refine t_seq ?_
        refine t_seq ?_
        refine t_region ?_
        refine r_op (o_move rfl rfl) ?_
        refine r_op (o_fieldb rfl (off := 1) (by kernel_rfl) rfl) ?_
        refine r_op (o_load1b rfl (by kernel_rfl) rfl rfl rfl) ?_
        refine r_op (o_len rfl rfl rfl) ?_
        refine r_op (o_bin rfl rfl rfl rfl) ?_
        refine r_end ?_
        refine t_cond rfl (fun h7 => ?_) (fun h7 => ?_)
        ·
          have h7' := of_decide_eq_true h7
          refine t_skip ?_
          refine t_seq ?_
          refine t_block ?_
          refine t_seq ?_
          refine t_region ?_
          refine r_op (o_fieldb rfl (off := 1) (by kernel_rfl) rfl) ?_
          refine r_op (o_load1b rfl (by kernel_rfl) rfl rfl rfl) ?_
          refine r_op (o_move rfl rfl) ?_
          obtain ⟨z8, hz9, b10⟩ := at_get (xs := ts) (n := (m : Int)) (by first | omega | assumption | (simp; omega) | (simp only [IntKind.wrap_i64] at *; omega)) (by first | omega | assumption | (simp; omega) | (simp only [IntKind.wrap_i64] at *; omega))
          refine r_op (o_index rfl (by kernel_rfl) rfl rfl b10 hz9) ?_
          refine r_op (o_load1 rfl (by kernel_rfl) rfl rfl) ?_
          refine r_op (o_call 1 1 false (Go.Proofs.enters_of Tryz.func109 (by kernel_rfl) rfl) (c_spec_l1In (z8) (-10) (4)) rfl (.cons rfl (.c .t0) (.cons rfl (.c .t0) (.cons rfl (.c .t0) .nil))) rfl rfl rfl) ?_
          refine r_op (o_not rfl rfl) ?_
          refine r_end ?_
          refine t_cond rfl (fun h11 => ?_) (fun h11 => ?_)
          ·
            have h11' := of_decide_eq_false (bnt h11)
            refine t_seq ?_
            refine t_region ?_
            refine r_op (o_assign rfl rfl) ?_
            refine r_end ?_
            refine t_ret Tryz.func110 (.tmp rfl .nil) rfl fun E S w u hI hd => ?_
            refine post_mk hI hd ?_ trivial rfl rfl rfl <;> clear hI hd <;> (try clear ih0)
            all_goals first | rfl | (refine scB ?_; first | (rw [atom_no1 (by assumption)]; done) | (rw [atom_no2 (by simp only [IntKind.wrap_i64] at *; omega)]; done) | (rw [atom_no3 (by assumption) (by assumption)]; done) | (rw [atom_yes (by assumption) (by simp only [IntKind.wrap_i64] at *; omega) (by assumption) (by omega)]; done) | (rw [atom_yes (by assumption) (by simp only [IntKind.wrap_i64] at *; omega) (by assumption) (by omega), any_true (p := fun t => !termOk t) (by assumption) (by simp only [termOk, Bool.not_eq_true']; exact decide_eq_false (by assumption))]; rfl) | (rw [atom_yes (by assumption) (by simp only [IntKind.wrap_i64] at *; omega) (by assumption) (by omega), any_false (p := fun t => !termOk t) i2 (by omega)]; rfl))
          ·
            have h11' := of_decide_eq_true (bnf h11)
            refine t_skip ?_
            refine t_endblock ?_
            refine t_region ?_
            refine r_op (o_move rfl rfl) ?_
            refine r_op (o_bin rfl rfl rfl rfl) ?_
            refine r_op (o_assign rfl rfl) ?_
            refine r_end ?_
            refine t_le ?_ (ih0 (m + 1) (by (try dsimp only); omega) (by (try dsimp only); exact ⟨by omega, no_step i2 (by assumption) rfl (by simp only [termOk, Bool.not_eq_false']; exact decide_eq_true (by assumption))⟩))
            exact ⟨⟨rfl, ⟨(eqI (wr64 (by omega) (by omega))), trivial⟩⟩, ⟨rfl, trivial⟩, rfl⟩
        ·
          have h7' := of_decide_eq_false h7
          refine t_exit rfl ?_
          refine t_seq ?_
          refine t_region ?_
          refine r_op (o_assign rfl rfl) ?_
          refine r_end ?_
          refine t_ret Tryz.func110 (.tmp rfl .nil) rfl fun E S w u hI hd => ?_
          refine post_mk hI hd ?_ trivial rfl rfl rfl <;> clear hI hd <;> (try clear ih0)
          all_goals first | rfl | (refine scB ?_; first | (rw [atom_no1 (by assumption)]; done) | (rw [atom_no2 (by simp only [IntKind.wrap_i64] at *; omega)]; done) | (rw [atom_no3 (by assumption) (by assumption)]; done) | (rw [atom_yes (by assumption) (by simp only [IntKind.wrap_i64] at *; omega) (by assumption) (by omega)]; done) | (rw [atom_yes (by assumption) (by simp only [IntKind.wrap_i64] at *; omega) (by assumption) (by omega), any_true (p := fun t => !termOk t) (by assumption) (by simp only [termOk, Bool.not_eq_true']; exact decide_eq_false (by assumption))]; rfl) | (rw [atom_yes (by assumption) (by simp only [IntKind.wrap_i64] at *; omega) (by assumption) (by omega), any_false (p := fun t => !termOk t) i2 (by omega)]; rfl))
    ·
      have g2' := of_decide_eq_false (bnt g2)
      refine d_guard 14 rfl rfl (by kernel_rfl) (by kernel_rfl) (by kernel_rfl) rfl rfl (v := .c .top) (nc g2) (nc g2) (fun _ => ?_)
      refine d_guard 15 rfl rfl (by kernel_rfl) (by kernel_rfl) (by kernel_rfl) rfl rfl (v := .c .top) (nc g2) (nc g2) (fun _ => ?_)
      refine d_guard 16 rfl rfl (by kernel_rfl) (by kernel_rfl) (by kernel_rfl) rfl rfl (v := .c .top) (nc g2) (nc g2) (fun _ => ?_)
      refine d_guard 17 rfl rfl (by kernel_rfl) (by kernel_rfl) (by kernel_rfl) rfl rfl (v := .c .top) (nc g2) (nc g2) (fun _ => ?_)
      refine d_guard 18 rfl rfl (by kernel_rfl) (by kernel_rfl) (by kernel_rfl) rfl rfl (v := .c .top) (nc g2) (nc g2) (fun _ => ?_)
      refine d_guard 19 rfl rfl (by kernel_rfl) (by kernel_rfl) (by kernel_rfl) rfl rfl (v := .c .top) (nc g2) (nc g2) (fun _ => ?_)
      refine d_guard 20 rfl rfl (by kernel_rfl) (by kernel_rfl) (by kernel_rfl) rfl rfl (v := .c .top) (nc g2) (nc g2) (fun _ => ?_)
      refine d_guard 21 rfl rfl (by kernel_rfl) (by kernel_rfl) (by kernel_rfl) rfl rfl (v := .c .top) (nc g2) (nc g2) (fun _ => ?_)
      refine d_guard 22 rfl rfl (by kernel_rfl) (by kernel_rfl) (by kernel_rfl) rfl rfl (v := .c .top) (nc g2) (nc g2) (fun _ => ?_)
      refine d_take 23 rfl rfl (by kernel_rfl) (by kernel_rfl) (by kernel_rfl) (p_pickT rfl g2 rfl) ?_
      refine d_end (by kernel_rfl) ?_
      refine t_cond rfl (fun _ => ?_) (nc rfl)
      refine t_seq ?_
      refine t_region ?_
      refine r_op (o_assign rfl rfl) ?_
      refine r_end ?_
      refine t_ret Tryz.func110 (.tmp rfl .nil) rfl fun E S w u hI hd => ?_
      refine post_mk hI hd ?_ trivial rfl rfl rfl <;> clear hI hd <;> (try clear ih0)
      all_goals first | rfl | (refine scB ?_; first | (rw [atom_no1 (by assumption)]; done) | (rw [atom_no2 (by simp only [IntKind.wrap_i64] at *; omega)]; done) | (rw [atom_no3 (by assumption) (by assumption)]; done) | (rw [atom_yes (by assumption) (by simp only [IntKind.wrap_i64] at *; omega) (by assumption) (by omega)]; done) | (rw [atom_yes (by assumption) (by simp only [IntKind.wrap_i64] at *; omega) (by assumption) (by omega), any_true (p := fun t => !termOk t) (by assumption) (by simp only [termOk, Bool.not_eq_true']; exact decide_eq_false (by assumption))]; rfl) | (rw [atom_yes (by assumption) (by simp only [IntKind.wrap_i64] at *; omega) (by assumption) (by omega), any_false (p := fun t => !termOk t) i2 (by omega)]; rfl))
  ·
    have g1' := (bnt g1)
    refine d_guard 5 rfl rfl (by kernel_rfl) (by kernel_rfl) (by kernel_rfl) rfl rfl (v := .c .top) (nc g1) (nc g1) (fun _ => ?_)
    refine d_guard 6 rfl rfl (by kernel_rfl) (by kernel_rfl) (by kernel_rfl) rfl rfl (v := .c .top) (nc g1) (nc g1) (fun _ => ?_)
    refine d_guard 7 rfl rfl (by kernel_rfl) (by kernel_rfl) (by kernel_rfl) rfl rfl (v := .c .top) (nc g1) (nc g1) (fun _ => ?_)
    refine d_guard 8 rfl rfl (by kernel_rfl) (by kernel_rfl) (by kernel_rfl) rfl rfl (v := .c .top) (nc g1) (nc g1) (fun _ => ?_)
    refine d_guard 9 rfl rfl (by kernel_rfl) (by kernel_rfl) (by kernel_rfl) rfl rfl (v := .c .top) (nc g1) (nc g1) (fun _ => ?_)
    refine d_guard 10 rfl rfl (by kernel_rfl) (by kernel_rfl) (by kernel_rfl) rfl rfl (v := .c .top) (nc g1) (nc g1) (fun _ => ?_)
    refine d_take 11 rfl rfl (by kernel_rfl) (by kernel_rfl) (by kernel_rfl) (p_pickT rfl g1 rfl) ?_
    refine d_take 12 rfl rfl (by kernel_rfl) (by kernel_rfl) (by kernel_rfl) (p_move rfl) ?_
    refine d_guard 13 rfl rfl (by kernel_rfl) (by kernel_rfl) (by kernel_rfl) rfl rfl (v := .c .top) (nc rfl) (nc rfl) (fun _ => ?_)
    refine d_guard 14 rfl rfl (by kernel_rfl) (by kernel_rfl) (by kernel_rfl) rfl rfl (v := .c .top) (nc rfl) (nc rfl) (fun _ => ?_)
    refine d_guard 15 rfl rfl (by kernel_rfl) (by kernel_rfl) (by kernel_rfl) rfl rfl (v := .c .top) (nc rfl) (nc rfl) (fun _ => ?_)
    refine d_guard 16 rfl rfl (by kernel_rfl) (by kernel_rfl) (by kernel_rfl) rfl rfl (v := .c .top) (nc rfl) (nc rfl) (fun _ => ?_)
    refine d_guard 17 rfl rfl (by kernel_rfl) (by kernel_rfl) (by kernel_rfl) rfl rfl (v := .c .top) (nc rfl) (nc rfl) (fun _ => ?_)
    refine d_guard 18 rfl rfl (by kernel_rfl) (by kernel_rfl) (by kernel_rfl) rfl rfl (v := .c .top) (nc rfl) (nc rfl) (fun _ => ?_)
    refine d_guard 19 rfl rfl (by kernel_rfl) (by kernel_rfl) (by kernel_rfl) rfl rfl (v := .c .top) (nc rfl) (nc rfl) (fun _ => ?_)
    refine d_guard 20 rfl rfl (by kernel_rfl) (by kernel_rfl) (by kernel_rfl) rfl rfl (v := .c .top) (nc rfl) (nc rfl) (fun _ => ?_)
    refine d_guard 21 rfl rfl (by kernel_rfl) (by kernel_rfl) (by kernel_rfl) rfl rfl (v := .c .top) (nc rfl) (nc rfl) (fun _ => ?_)
    refine d_guard 22 rfl rfl (by kernel_rfl) (by kernel_rfl) (by kernel_rfl) rfl rfl (v := .c .top) (nc rfl) (nc rfl) (fun _ => ?_)
    refine d_take 23 rfl rfl (by kernel_rfl) (by kernel_rfl) (by kernel_rfl) (p_pickT rfl rfl rfl) ?_
    refine d_end (by kernel_rfl) ?_
    refine t_cond rfl (fun _ => ?_) (nc rfl)
    refine t_seq ?_
    refine t_region ?_
    refine r_op (o_assign rfl rfl) ?_
    refine r_end ?_
    refine t_ret Tryz.func110 (.tmp rfl .nil) rfl fun E S w u hI hd => ?_
    refine post_mk hI hd ?_ trivial rfl rfl rfl <;> clear hI hd <;> (try clear ih0)
    all_goals first | rfl | (refine scB ?_; first | (rw [atom_no1 (by assumption)]; done) | (rw [atom_no2 (by simp only [IntKind.wrap_i64] at *; omega)]; done) | (rw [atom_no3 (by assumption) (by assumption)]; done) | (rw [atom_yes (by assumption) (by simp only [IntKind.wrap_i64] at *; omega) (by assumption) (by omega)]; done) | (rw [atom_yes (by assumption) (by simp only [IntKind.wrap_i64] at *; omega) (by assumption) (by omega), any_true (p := fun t => !termOk t) (by assumption) (by simp only [termOk, Bool.not_eq_true']; exact decide_eq_false (by assumption))]; rfl) | (rw [atom_yes (by assumption) (by simp only [IntKind.wrap_i64] at *; omega) (by assumption) (by omega), any_false (p := fun t => !termOk t) i2 (by omega)]; rfl))
set_option maxHeartbeats 1000000 in
set_option maxRecDepth 10000 in
theorem c_spec_l4Put (U : Nat → Value) (l : List Int) (x : Int) (hl : l.length ≤ 1099511627776) : Mu Tryz.prog 148 [.c (.own 0), .c (.t none (.v (.int .i64 (x))))] [(0, some (.row (some (U 0)) 3 true 1 encI (l)))] 1 [(0, some (.row none 3 true 1 encI (putI l x)))] 1 (.c (.own 0)) := by
  refine mu_enter Tryz.func148 rfl (Nat.le_of_ble_eq_true rfl) fun w S M => ?_
  refine t_seq ?_
  refine t_region ?_
  refine r_op (o_assign rfl rfl) ?_
  refine r_end ?_
  refine t_seq ?_
  refine t_region ?_
  refine r_op (o_assign rfl rfl) ?_
  refine r_end ?_
  refine t_seq ?_
  refine t_block ?_
  refine t_loopL (fun m => ⟨[(0, some (.c (.own 0))), (1, some (.c (.t none (.v (.int .i64 (x)))))), (4, some (.c (.t none (.v (.slice none 0 0))))), (5, some (.c (.t none (.v (.int .i64 ((m : Int)))))))], [(0, some (.row (some (U 0)) 3 true 1 encI (l)))], 1⟩ : Nat → St) (fun m => m ≤ l.length ∧ ∀ j y, j < m → l[j]? = some y → y < x) (fun m => l.length - m) 0 ⟨⟨rfl, ⟨rfl, ⟨rfl, ⟨rfl, trivial⟩⟩⟩⟩, ⟨rfl, trivial⟩, rfl⟩ (by exact ⟨Nat.zero_le _, fun j z h => by omega⟩) ?_
  rintro m hI ih0
  try dsimp only at hI ih0
  obtain ⟨i1, i2⟩ := hI
  refine t_seq ?_
  refine t_seq ?_
  refine t_region ?_
  refine r_op (o_move rfl rfl) ?_
  refine r_op (o_move rfl rfl) ?_
  refine r_op (o_leno rfl rfl rfl rfl) ?_
  refine r_op (o_bin rfl rfl rfl rfl) ?_
  refine r_op (o_move rfl rfl) ?_
  refine r_guard rfl rfl rfl (fun g1 => ?_) (fun g1 => ?_)
  ·
    have g1' := of_decide_eq_true g1
    refine r_op (o_move rfl rfl) ?_
    refine r_guard rfl rfl rfl (fun _ => ?_) (nc g1)
    refine r_op (o_move rfl rfl) ?_
    refine r_guard rfl rfl rfl (fun _ => ?_) (nc g1)
    obtain ⟨z2, hz3, b4⟩ := at_get (xs := l) (n := (m : Int)) (by first | omega | (simp only [List.length_append, List.length_take, List.length_drop, List.length_cons, List.length_nil]; omega)) (by first | omega | (simp only [List.length_append, List.length_take, List.length_drop, List.length_cons, List.length_nil]; omega))
    refine r_op (o_indexo rfl (by kernel_rfl) rfl rfl rfl b4 (at_lt b4 hz3)) ?_
    refine r_guard rfl rfl rfl (fun _ => ?_) (nc g1)
    refine r_op (o_load1o rfl (by kernel_rfl) rfl rfl rfl hz3) ?_
    refine r_guard rfl rfl rfl (fun _ => ?_) (nc g1)
    refine r_op (o_move rfl rfl) ?_
    refine r_guard rfl rfl rfl (fun _ => ?_) (nc g1)
    refine r_op (o_bin rfl rfl rfl rfl) ?_
    refine r_op (o_pickT rfl rfl g1 rfl) ?_
    refine r_end ?_
    refine t_cond rfl (fun h5 => ?_) (fun h5 => ?_)
    ·
      have h5' := of_decide_eq_true h5
      refine t_skip ?_
      refine t_block ?_
      refine t_region ?_
      refine r_op (o_move rfl rfl) ?_
      refine r_op (o_bin rfl rfl rfl rfl) ?_
      refine r_op (o_assign rfl rfl) ?_
      refine r_end ?_
      refine t_endblock ?_
      refine t_le ?_ (ih0 (m + 1) (by (try dsimp only); omega) (by (try dsimp only); exact ⟨by omega, lt_step i2 (by assumption) rfl (by omega)⟩))
      exact ⟨⟨rfl, ⟨rfl, ⟨rfl, ⟨(eqI (wr64 (by omega) (by omega))), trivial⟩⟩⟩⟩, ⟨rfl, trivial⟩, rfl⟩
    ·
      have h5' := of_decide_eq_false h5
      refine t_exit rfl ?_
      refine t_seq ?_
      refine t_seq ?_
      refine t_region ?_
      refine r_op (o_move rfl rfl) ?_
      refine r_op (o_move rfl rfl) ?_
      refine r_op (o_leno rfl rfl rfl rfl) ?_
      refine r_op (o_bin rfl rfl rfl rfl) ?_
      refine r_op (o_move rfl rfl) ?_
      refine r_guard rfl rfl rfl (fun g6 => ?_) (fun g6 => ?_)
      ·
        have g6' := of_decide_eq_true g6
        refine r_op (o_move rfl rfl) ?_
        refine r_guard rfl rfl rfl (fun _ => ?_) (nc g6)
        refine r_op (o_move rfl rfl) ?_
        refine r_guard rfl rfl rfl (fun _ => ?_) (nc g6)
        refine r_op (o_indexo rfl (by kernel_rfl) rfl rfl rfl b4 (at_lt b4 hz3)) ?_
        refine r_guard rfl rfl rfl (fun _ => ?_) (nc g6)
        refine r_op (o_load1o rfl (by kernel_rfl) rfl rfl rfl hz3) ?_
        refine r_guard rfl rfl rfl (fun _ => ?_) (nc g6)
        refine r_op (o_move rfl rfl) ?_
        refine r_guard rfl rfl rfl (fun _ => ?_) (nc g6)
        refine r_op (o_bin rfl rfl rfl rfl) ?_
        refine r_op (o_pickT rfl rfl g6 rfl) ?_
        refine r_end ?_
        refine t_cond rfl (fun h7 => ?_) (fun h7 => ?_)
        ·
          have h7' := of_decide_eq_true h7
          refine t_seq ?_
          refine t_region ?_
          refine r_op (o_move rfl rfl) ?_
          refine r_op (o_assign rfl rfl) ?_
          refine r_end ?_
          refine gt_unpin 0 rfl ?_
          refine t_ret Tryz.func148 (.tmp rfl .nil) rfl fun E S w u hI hd => ?_
          refine postM_mk hI hd ?_ ⟨eqR ?_, trivial⟩ rfl rfl <;> clear hI hd <;> (try clear ih0)
          all_goals first | rfl | (first | (rw [putI_there i2 (by assumption) (by omega)]; done) | (rw [putI_new i2 i1 (fun y hy => by first | (have e7 := Option.some.inj (hy.symm.trans hz3); omega) | (have e7 := (List.getElem?_eq_some_iff.1 hy).1; omega))]; simp))
        ·
          have h7' := of_decide_eq_false h7
          refine t_skip ?_
          refine t_seq ?_
          refine t_region ?_
          refine r_op (o_move rfl rfl) ?_
          refine r_op (o_lit1 1 (e := 3) (sz := 1) (zs := [.int .i64 (0)]) (enc := encI) (x) rfl rfl (by kernel_rfl) rfl rfl rfl rfl rfl rfl (.cons .sc .nil)) ?_
          refine r_op (o_move rfl rfl) ?_
          refine r_op (o_move rfl rfl) ?_
          refine r_op (o_subo rfl (by kernel_rfl) rfl rfl (.l rfl (by first | omega | (simp only [List.length_append, List.length_take, List.length_drop, List.length_cons, List.length_nil]; omega)) (by first | omega | (simp only [List.length_append, List.length_take, List.length_drop, List.length_cons, List.length_nil]; omega)))) ?_
          refine r_op (o_appendS 1 (e := 3) (sz := 1) (by' := 8) rfl (by kernel_rfl) rfl rfl rfl rfl (fun _ _ => ⟨_, rfl⟩) (by first | omega | (simp only [List.length_append, List.length_take, List.length_drop, List.length_cons, List.length_nil]; omega)) (by first | omega | (simp only [List.length_append, List.length_take, List.length_drop, List.length_cons, List.length_nil]; omega))) ?_
          refine r_op (o_assign rfl rfl) ?_
          refine r_end ?_
          refine t_seq ?_
          refine t_region ?_
          refine r_op (o_lit0 2 (e := 3) (sz := 1) (zs := [.int .i64 (0)]) encI rfl rfl (by kernel_rfl) rfl) ?_
          refine r_op (o_move rfl rfl) ?_
          refine r_op (o_move rfl rfl) ?_
          refine r_op (o_subo rfl (by kernel_rfl) rfl rfl (.h rfl (by first | omega | (simp only [List.length_append, List.length_take, List.length_drop, List.length_cons, List.length_nil]; omega)) (by first | omega | (simp only [List.length_append, List.length_take, List.length_drop, List.length_cons, List.length_nil]; omega)))) ?_
          refine r_op (o_appendS 2 (e := 3) (sz := 1) (by' := 8) rfl (by kernel_rfl) rfl rfl rfl rfl (fun _ _ => ⟨_, rfl⟩) (by first | omega | (simp only [List.length_append, List.length_take, List.length_drop, List.length_cons, List.length_nil]; omega)) (by first | omega | (simp only [List.length_append, List.length_take, List.length_drop, List.length_cons, List.length_nil]; omega))) ?_
          refine r_op (o_move rfl rfl) ?_
          refine r_op (o_appendO 2 (e := 3) (sz := 1) (by' := 8) rfl (by kernel_rfl) rfl rfl rfl rfl rfl (by decide) (fun _ _ => ⟨_, rfl⟩) (by first | omega | (simp only [List.length_append, List.length_take, List.length_drop, List.length_cons, List.length_nil]; omega)) (by first | omega | (simp only [List.length_append, List.length_take, List.length_drop, List.length_cons, List.length_nil]; omega))) ?_
          refine r_op (o_assign rfl rfl) ?_
          refine r_end ?_
          refine gt_as0 4 2 rfl rfl ?_
          refine t_ret Tryz.func148 (.tmp rfl .nil) rfl fun E S w u hI hd => ?_
          refine postM_mk hI hd ?_ ⟨eqR ?_, trivial⟩ rfl rfl <;> clear hI hd <;> (try clear ih0)
          all_goals first | rfl | (first | (rw [putI_there i2 (by assumption) (by omega)]; done) | (rw [putI_new i2 i1 (fun y hy => by first | (have e7 := Option.some.inj (hy.symm.trans hz3); omega) | (have e7 := (List.getElem?_eq_some_iff.1 hy).1; omega))]; simp))
      ·
        have g6' := of_decide_eq_false g6
        refine r_guard rfl rfl rfl (ncf g6) (fun _ => ?_)
        refine r_guard rfl rfl rfl (ncf g6) (fun _ => ?_)
        refine r_guard rfl rfl rfl (ncf g6) (fun _ => ?_)
        refine r_guard rfl rfl rfl (ncf g6) (fun _ => ?_)
        refine r_guard rfl rfl rfl (ncf g6) (fun _ => ?_)
        refine r_op (o_pickF rfl rfl g6 rfl) ?_
        refine r_end ?_
        refine t_cond rfl (ncf rfl) (fun _ => ?_)
        refine t_skip ?_
        refine t_seq ?_
        refine t_region ?_
        refine r_op (o_move rfl rfl) ?_
        refine r_op (o_lit1 1 (e := 3) (sz := 1) (zs := [.int .i64 (0)]) (enc := encI) (x) rfl rfl (by kernel_rfl) rfl rfl rfl rfl rfl rfl (.cons .sc .nil)) ?_
        refine r_op (o_move rfl rfl) ?_
        refine r_op (o_move rfl rfl) ?_
        refine r_op (o_subo rfl (by kernel_rfl) rfl rfl (.l rfl (by first | omega | (simp only [List.length_append, List.length_take, List.length_drop, List.length_cons, List.length_nil]; omega)) (by first | omega | (simp only [List.length_append, List.length_take, List.length_drop, List.length_cons, List.length_nil]; omega)))) ?_
        refine r_op (o_appendS 1 (e := 3) (sz := 1) (by' := 8) rfl (by kernel_rfl) rfl rfl rfl rfl (fun _ _ => ⟨_, rfl⟩) (by first | omega | (simp only [List.length_append, List.length_take, List.length_drop, List.length_cons, List.length_nil]; omega)) (by first | omega | (simp only [List.length_append, List.length_take, List.length_drop, List.length_cons, List.length_nil]; omega))) ?_
        refine r_op (o_assign rfl rfl) ?_
        refine r_end ?_
        refine t_seq ?_
        refine t_region ?_
        refine r_op (o_lit0 2 (e := 3) (sz := 1) (zs := [.int .i64 (0)]) encI rfl rfl (by kernel_rfl) rfl) ?_
        refine r_op (o_move rfl rfl) ?_
        refine r_op (o_move rfl rfl) ?_
        refine r_op (o_subo rfl (by kernel_rfl) rfl rfl (.h rfl (by first | omega | (simp only [List.length_append, List.length_take, List.length_drop, List.length_cons, List.length_nil]; omega)) (by first | omega | (simp only [List.length_append, List.length_take, List.length_drop, List.length_cons, List.length_nil]; omega)))) ?_
        refine r_op (o_appendS 2 (e := 3) (sz := 1) (by' := 8) rfl (by kernel_rfl) rfl rfl rfl rfl (fun _ _ => ⟨_, rfl⟩) (by first | omega | (simp only [List.length_append, List.length_take, List.length_drop, List.length_cons, List.length_nil]; omega)) (by first | omega | (simp only [List.length_append, List.length_take, List.length_drop, List.length_cons, List.length_nil]; omega))) ?_
        refine r_op (o_move rfl rfl) ?_
        refine r_op (o_appendO 2 (e := 3) (sz := 1) (by' := 8) rfl (by kernel_rfl) rfl rfl rfl rfl rfl (by decide) (fun _ _ => ⟨_, rfl⟩) (by first | omega | (simp only [List.length_append, List.length_take, List.length_drop, List.length_cons, List.length_nil]; omega)) (by first | omega | (simp only [List.length_append, List.length_take, List.length_drop, List.length_cons, List.length_nil]; omega))) ?_
        refine r_op (o_assign rfl rfl) ?_
        refine r_end ?_
        refine gt_as0 4 2 rfl rfl ?_
        refine t_ret Tryz.func148 (.tmp rfl .nil) rfl fun E S w u hI hd => ?_
        refine postM_mk hI hd ?_ ⟨eqR ?_, trivial⟩ rfl rfl <;> clear hI hd <;> (try clear ih0)
        all_goals first | rfl | (first | (rw [putI_there i2 (by assumption) (by omega)]; done) | (rw [putI_new i2 i1 (fun y hy => by first | (have e7 := Option.some.inj (hy.symm.trans hz3); omega) | (have e7 := (List.getElem?_eq_some_iff.1 hy).1; omega))]; simp))
  ·
    have g1' := of_decide_eq_false g1
    refine r_guard rfl rfl rfl (ncf g1) (fun _ => ?_)
    refine r_guard rfl rfl rfl (ncf g1) (fun _ => ?_)
    refine r_guard rfl rfl rfl (ncf g1) (fun _ => ?_)
    refine r_guard rfl rfl rfl (ncf g1) (fun _ => ?_)
    refine r_guard rfl rfl rfl (ncf g1) (fun _ => ?_)
    refine r_op (o_pickF rfl rfl g1 rfl) ?_
    refine r_end ?_
    refine t_cond rfl (ncf rfl) (fun _ => ?_)
    refine t_exit rfl ?_
    refine t_seq ?_
    refine t_seq ?_
    refine t_region ?_
    refine r_op (o_move rfl rfl) ?_
    refine r_op (o_move rfl rfl) ?_
    refine r_op (o_leno rfl rfl rfl rfl) ?_
    refine r_op (o_bin rfl rfl rfl rfl) ?_
    refine r_op (o_move rfl rfl) ?_
    refine r_guard rfl rfl rfl (fun g8 => ?_) (fun g8 => ?_)
    ·
      have g8' := of_decide_eq_true g8
      refine r_op (o_move rfl rfl) ?_
      refine r_guard rfl rfl rfl (fun _ => ?_) (nc g8)
      refine r_op (o_move rfl rfl) ?_
      refine r_guard rfl rfl rfl (fun _ => ?_) (nc g8)
      obtain ⟨z9, hz10, b11⟩ := at_get (xs := l) (n := (m : Int)) (by first | omega | (simp only [List.length_append, List.length_take, List.length_drop, List.length_cons, List.length_nil]; omega)) (by first | omega | (simp only [List.length_append, List.length_take, List.length_drop, List.length_cons, List.length_nil]; omega))
      refine r_op (o_indexo rfl (by kernel_rfl) rfl rfl rfl b11 (at_lt b11 hz10)) ?_
      refine r_guard rfl rfl rfl (fun _ => ?_) (nc g8)
      refine r_op (o_load1o rfl (by kernel_rfl) rfl rfl rfl hz10) ?_
      refine r_guard rfl rfl rfl (fun _ => ?_) (nc g8)
      refine r_op (o_move rfl rfl) ?_
      refine r_guard rfl rfl rfl (fun _ => ?_) (nc g8)
      refine r_op (o_bin rfl rfl rfl rfl) ?_
      refine r_op (o_pickT rfl rfl g8 rfl) ?_
      refine r_end ?_
      refine t_cond rfl (fun h12 => ?_) (fun h12 => ?_)
      ·
        have h12' := of_decide_eq_true h12
        refine t_seq ?_
        refine t_region ?_
        refine r_op (o_move rfl rfl) ?_
        refine r_op (o_assign rfl rfl) ?_
        refine r_end ?_
        refine gt_unpin 0 rfl ?_
        refine t_ret Tryz.func148 (.tmp rfl .nil) rfl fun E S w u hI hd => ?_
        refine postM_mk hI hd ?_ ⟨eqR ?_, trivial⟩ rfl rfl <;> clear hI hd <;> (try clear ih0)
        all_goals first | rfl | (first | (rw [putI_there i2 (by assumption) (by omega)]; done) | (rw [putI_new i2 i1 (fun y hy => by first | (have e7 := Option.some.inj (hy.symm.trans hz10); omega) | (have e7 := (List.getElem?_eq_some_iff.1 hy).1; omega))]; simp))
      ·
        have h12' := of_decide_eq_false h12
        refine t_skip ?_
        refine t_seq ?_
        refine t_region ?_
        refine r_op (o_move rfl rfl) ?_
        refine r_op (o_lit1 1 (e := 3) (sz := 1) (zs := [.int .i64 (0)]) (enc := encI) (x) rfl rfl (by kernel_rfl) rfl rfl rfl rfl rfl rfl (.cons .sc .nil)) ?_
        refine r_op (o_move rfl rfl) ?_
        refine r_op (o_move rfl rfl) ?_
        refine r_op (o_subo rfl (by kernel_rfl) rfl rfl (.l rfl (by first | omega | (simp only [List.length_append, List.length_take, List.length_drop, List.length_cons, List.length_nil]; omega)) (by first | omega | (simp only [List.length_append, List.length_take, List.length_drop, List.length_cons, List.length_nil]; omega)))) ?_
        refine r_op (o_appendS 1 (e := 3) (sz := 1) (by' := 8) rfl (by kernel_rfl) rfl rfl rfl rfl (fun _ _ => ⟨_, rfl⟩) (by first | omega | (simp only [List.length_append, List.length_take, List.length_drop, List.length_cons, List.length_nil]; omega)) (by first | omega | (simp only [List.length_append, List.length_take, List.length_drop, List.length_cons, List.length_nil]; omega))) ?_
        refine r_op (o_assign rfl rfl) ?_
        refine r_end ?_
        refine t_seq ?_
        refine t_region ?_
        refine r_op (o_lit0 2 (e := 3) (sz := 1) (zs := [.int .i64 (0)]) encI rfl rfl (by kernel_rfl) rfl) ?_
        refine r_op (o_move rfl rfl) ?_
        refine r_op (o_move rfl rfl) ?_
        refine r_op (o_subo rfl (by kernel_rfl) rfl rfl (.h rfl (by first | omega | (simp only [List.length_append, List.length_take, List.length_drop, List.length_cons, List.length_nil]; omega)) (by first | omega | (simp only [List.length_append, List.length_take, List.length_drop, List.length_cons, List.length_nil]; omega)))) ?_
        refine r_op (o_appendS 2 (e := 3) (sz := 1) (by' := 8) rfl (by kernel_rfl) rfl rfl rfl rfl (fun _ _ => ⟨_, rfl⟩) (by first | omega | (simp only [List.length_append, List.length_take, List.length_drop, List.length_cons, List.length_nil]; omega)) (by first | omega | (simp only [List.length_append, List.length_take, List.length_drop, List.length_cons, List.length_nil]; omega))) ?_
        refine r_op (o_move rfl rfl) ?_
        refine r_op (o_appendO 2 (e := 3) (sz := 1) (by' := 8) rfl (by kernel_rfl) rfl rfl rfl rfl rfl (by decide) (fun _ _ => ⟨_, rfl⟩) (by first | omega | (simp only [List.length_append, List.length_take, List.length_drop, List.length_cons, List.length_nil]; omega)) (by first | omega | (simp only [List.length_append, List.length_take, List.length_drop, List.length_cons, List.length_nil]; omega))) ?_
        refine r_op (o_assign rfl rfl) ?_
        refine r_end ?_
        refine gt_as0 4 2 rfl rfl ?_
        refine t_ret Tryz.func148 (.tmp rfl .nil) rfl fun E S w u hI hd => ?_
        refine postM_mk hI hd ?_ ⟨eqR ?_, trivial⟩ rfl rfl <;> clear hI hd <;> (try clear ih0)
        all_goals first | rfl | (first | (rw [putI_there i2 (by assumption) (by omega)]; done) | (rw [putI_new i2 i1 (fun y hy => by first | (have e7 := Option.some.inj (hy.symm.trans hz10); omega) | (have e7 := (List.getElem?_eq_some_iff.1 hy).1; omega))]; simp))
    ·
      have g8' := of_decide_eq_false g8
      refine r_guard rfl rfl rfl (ncf g8) (fun _ => ?_)
      refine r_guard rfl rfl rfl (ncf g8) (fun _ => ?_)
      refine r_guard rfl rfl rfl (ncf g8) (fun _ => ?_)
      refine r_guard rfl rfl rfl (ncf g8) (fun _ => ?_)
      refine r_guard rfl rfl rfl (ncf g8) (fun _ => ?_)
      refine r_op (o_pickF rfl rfl g8 rfl) ?_
      refine r_end ?_
      refine t_cond rfl (ncf rfl) (fun _ => ?_)
      refine t_skip ?_
      refine t_seq ?_
      refine t_region ?_
      refine r_op (o_move rfl rfl) ?_
      refine r_op (o_lit1 1 (e := 3) (sz := 1) (zs := [.int .i64 (0)]) (enc := encI) (x) rfl rfl (by kernel_rfl) rfl rfl rfl rfl rfl rfl (.cons .sc .nil)) ?_
      refine r_op (o_move rfl rfl) ?_
      refine r_op (o_move rfl rfl) ?_
      refine r_op (o_subo rfl (by kernel_rfl) rfl rfl (.l rfl (by first | omega | (simp only [List.length_append, List.length_take, List.length_drop, List.length_cons, List.length_nil]; omega)) (by first | omega | (simp only [List.length_append, List.length_take, List.length_drop, List.length_cons, List.length_nil]; omega)))) ?_
      refine r_op (o_appendS 1 (e := 3) (sz := 1) (by' := 8) rfl (by kernel_rfl) rfl rfl rfl rfl (fun _ _ => ⟨_, rfl⟩) (by first | omega | (simp only [List.length_append, List.length_take, List.length_drop, List.length_cons, List.length_nil]; omega)) (by first | omega | (simp only [List.length_append, List.length_take, List.length_drop, List.length_cons, List.length_nil]; omega))) ?_
      refine r_op (o_assign rfl rfl) ?_
      refine r_end ?_
      refine t_seq ?_
      refine t_region ?_
      refine r_op (o_lit0 2 (e := 3) (sz := 1) (zs := [.int .i64 (0)]) encI rfl rfl (by kernel_rfl) rfl) ?_
      refine r_op (o_move rfl rfl) ?_
      refine r_op (o_move rfl rfl) ?_
      refine r_op (o_subo rfl (by kernel_rfl) rfl rfl (.h rfl (by first | omega | (simp only [List.length_append, List.length_take, List.length_drop, List.length_cons, List.length_nil]; omega)) (by first | omega | (simp only [List.length_append, List.length_take, List.length_drop, List.length_cons, List.length_nil]; omega)))) ?_
      refine r_op (o_appendS 2 (e := 3) (sz := 1) (by' := 8) rfl (by kernel_rfl) rfl rfl rfl rfl (fun _ _ => ⟨_, rfl⟩) (by first | omega | (simp only [List.length_append, List.length_take, List.length_drop, List.length_cons, List.length_nil]; omega)) (by first | omega | (simp only [List.length_append, List.length_take, List.length_drop, List.length_cons, List.length_nil]; omega))) ?_
      refine r_op (o_move rfl rfl) ?_
      refine r_op (o_appendO 2 (e := 3) (sz := 1) (by' := 8) rfl (by kernel_rfl) rfl rfl rfl rfl rfl (by decide) (fun _ _ => ⟨_, rfl⟩) (by first | omega | (simp only [List.length_append, List.length_take, List.length_drop, List.length_cons, List.length_nil]; omega)) (by first | omega | (simp only [List.length_append, List.length_take, List.length_drop, List.length_cons, List.length_nil]; omega))) ?_
      refine r_op (o_assign rfl rfl) ?_
      refine r_end ?_
      refine gt_as0 4 2 rfl rfl ?_
      refine t_ret Tryz.func148 (.tmp rfl .nil) rfl fun E S w u hI hd => ?_
      refine postM_mk hI hd ?_ ⟨eqR ?_, trivial⟩ rfl rfl <;> clear hI hd <;> (try clear ih0)
      all_goals first | rfl | (first | (rw [putI_there i2 (by assumption) (by omega)]; done) | (rw [putI_new i2 i1 (fun y hy => by first | (have e7 := Option.some.inj (hy.symm.trans (by assumption)); omega) | (have e7 := (List.getElem?_eq_some_iff.1 hy).1; omega))]; simp))
set_option maxHeartbeats 1000000 in
set_option maxRecDepth 10000 in
theorem c_spec_Variables (l : List (Int × List Int)) (hl : szS (fun (x : Int × (List (Int))) => (x.2).length) l ≤ 1048576) : Pu Tryz.prog 111 [.c (.t none (.sl 2 (enS2 encI (enSl 1 encI)) (l)))] [(0, some (.row none 3 true 1 encI (setI (varsL l))))] 1 (.c (.own 0)) := by
  refine pu_enter Tryz.func111 rfl (Nat.le_of_ble_eq_true rfl) fun w S => ?_
  have gl := sz_len (f := (fun (x : Int × (List (Int))) => (x.2).length)) (l := l); have gv := varsL_size l
  refine t_seq ?_
  refine t_region ?_
  refine r_op (o_assign rfl rfl) ?_
  refine r_end ?_
  refine t_seq ?_
  refine t_region ?_
  refine r_op (o_lit0 0 (e := 3) (sz := 1) (zs := [.int .i64 (0)]) encI rfl rfl (by kernel_rfl) rfl) ?_
  refine r_op (o_assign rfl rfl) ?_
  refine r_end ?_
  refine t_seq ?_
  refine t_seq ?_
  refine t_region ?_
  refine r_op (o_assign rfl rfl) ?_
  refine r_end ?_
  refine t_block ?_
  refine t_loopL (fun m => ⟨[(0, some (.c (.t none (.sl 2 (enS2 encI (enSl 1 encI)) (l))))), (2, some (.c (.t none (.v (.slice none 0 0))))), (3, some (.c (.own 0))), (4, some (.c (.t none (.v (.int .i64 ((m : Int)))))))], [(0, some (.row none 3 true 1 encI (setI (varsL (l.take m)))))], 1⟩ : Nat → St) (fun m => m ≤ l.length) (fun m => l.length - m) 0 ⟨⟨rfl, ⟨rfl, ⟨rfl, ⟨rfl, trivial⟩⟩⟩⟩, ⟨rfl, trivial⟩, rfl⟩ (by exact Nat.zero_le _) ?_
  rintro m hI ih0
  try dsimp only at hI ih0
  have i1 := hI
  refine t_seq ?_
  refine t_seq ?_
  refine t_region ?_
  refine r_op (o_move rfl rfl) ?_
  refine r_op (o_move rfl rfl) ?_
  refine r_op (o_len rfl rfl rfl) ?_
  refine r_op (o_bin rfl rfl rfl rfl) ?_
  refine r_end ?_
  refine t_cond rfl (fun h1 => ?_) (fun h1 => ?_)
  ·
    have h1' := of_decide_eq_true h1
    refine t_skip ?_
    refine t_seq ?_
    refine t_block ?_
    refine t_seq ?_
    refine t_region ?_
    refine r_op (o_assign rfl rfl) ?_
    refine r_end ?_
    refine t_block ?_
    refine t_loopL (fun n => ⟨[(0, some (.c (.t none (.sl 2 (enS2 encI (enSl 1 encI)) (l))))), (2, some (.c (.t none (.v (.slice none 0 0))))), (3, some (.c (.own 0))), (4, some (.c (.t none (.v (.int .i64 ((m : Int))))))), (5, some (.c (.t none (.v (.int .i64 ((n : Int)))))))], [(0, some (.row none 3 true 1 encI (setI (varsL (l.take m) ++ nonneg ((l.getD m (0, [])).2.take n)))))], 1⟩ : Nat → St) (fun n => n ≤ (l.getD m (0, [])).2.length) (fun n => (l.getD m (0, [])).2.length - n) 0 ⟨⟨rfl, ⟨rfl, ⟨rfl, ⟨rfl, ⟨rfl, trivial⟩⟩⟩⟩⟩, ⟨(eqR (by rw [nonneg_zero, List.append_nil])), trivial⟩, rfl⟩ (by exact Nat.zero_le _) ?_
    rintro n hI ih1
    try dsimp only at hI ih1
    have j1 := hI; have hzv := getA_get (l := l) (m := m) (by omega); have vp := varsL_part (n := n) hzv; (have e1 := sz_at (f := (fun (x : Int × (List (Int))) => (x.2).length)) (l := l) (m := m) hzv; (try dsimp only at e1)); have sl := setI_len (varsL (l.take m) ++ nonneg ((l.getD m (0, [])).2.take n)); rw [List.length_append] at sl
    refine t_seq ?_
    refine t_seq ?_
    refine t_region ?_
    refine r_op (o_move rfl rfl) ?_
    refine r_op (o_move rfl rfl) ?_
    refine r_op (o_move rfl rfl) ?_
    obtain ⟨z2, hz3, b4⟩ := at_get (xs := l) (n := (m : Int)) (by first | omega | (have e1 := sz_at (f := (fun (x : Int × (List (Int))) => (x.2).length)) (l := l) (m := m) (by assumption); (try dsimp only at e1); omega)) (by first | omega | (have e1 := sz_at (f := (fun (x : Int × (List (Int))) => (x.2).length)) (l := l) (m := m) (by assumption); (try dsimp only at e1); omega))
    refine r_op (o_index rfl (by kernel_rfl) rfl rfl b4 hz3) ?_
    refine r_op (o_field rfl (off := 1) (by kernel_rfl) rfl) ?_
    refine r_op (o_load1 rfl (by kernel_rfl) rfl rfl) ?_
    refine r_op (o_len rfl rfl rfl) ?_
    refine r_op (o_bin rfl rfl rfl rfl) ?_
    refine r_end ?_
    refine t_cond rfl (fun h5 => ?_) (fun h5 => ?_)
    ·
      have h5' := of_decide_eq_true h5
      refine t_skip ?_
      refine t_seq ?_
      refine t_block ?_
      refine t_seq ?_
      refine t_region ?_
      refine r_op (o_move rfl rfl) ?_
      refine r_op (o_move rfl rfl) ?_
      refine r_op (o_index rfl (by kernel_rfl) rfl rfl b4 hz3) ?_
      refine r_op (o_field rfl (off := 1) (by kernel_rfl) rfl) ?_
      refine r_op (o_load1 rfl (by kernel_rfl) rfl rfl) ?_
      refine r_op (o_move rfl rfl) ?_
      obtain ⟨z6, hz7, b8⟩ := at_get (xs := z2.2) (n := (n : Int)) (by first | omega | (have e1 := sz_at (f := (fun (x : Int × (List (Int))) => (x.2).length)) (l := l) (m := m) (by assumption); (try dsimp only at e1); omega)) (by first | omega | (have e1 := sz_at (f := (fun (x : Int × (List (Int))) => (x.2).length)) (l := l) (m := m) (by assumption); (try dsimp only at e1); omega))
      refine r_op (o_index rfl (by kernel_rfl) rfl rfl b8 hz7) ?_
      refine r_op (o_load1 rfl (by kernel_rfl) rfl rfl) ?_
      refine r_op (o_bin rfl rfl rfl rfl) ?_
      refine r_end ?_
      refine t_cond rfl (fun h9 => ?_) (fun h9 => ?_)
      ·
        have h9' := of_decide_eq_true h9
        refine t_region ?_
        refine r_op (o_move rfl rfl) ?_
        refine r_op (o_move rfl rfl) ?_
        refine r_op (o_move rfl rfl) ?_
        refine r_op (o_index rfl (by kernel_rfl) rfl rfl b4 hz3) ?_
        refine r_op (o_field rfl (off := 1) (by kernel_rfl) rfl) ?_
        refine r_op (o_load1 rfl (by kernel_rfl) rfl rfl) ?_
        refine r_op (o_move rfl rfl) ?_
        refine r_op (o_index rfl (by kernel_rfl) rfl rfl b8 hz7) ?_
        refine r_op (o_load1 rfl (by kernel_rfl) rfl rfl) ?_
        refine r_op (o_callC 0 (l' := putI (setI (varsL (l.take m) ++ nonneg ((l.getD m (0, [])).2.take n))) (z6)) (Go.Proofs.enters_of Tryz.func148 (by kernel_rfl) rfl) (fun U => c_spec_l4Put U  (setI (varsL (l.take m) ++ nonneg ((l.getD m (0, [])).2.take n))) (z6) (by first | omega | (have e1 := sz_at (f := (fun (x : Int × (List (Int))) => (x.2).length)) (l := l) (m := m) (by assumption); (try dsimp only at e1); omega))) rfl rfl (.cons rfl (.own rfl) (.cons rfl .t0 .nil))) ?_
        refine r_op (o_assign rfl rfl) ?_
        refine r_end ?_
        refine t_endblock ?_
        refine t_region ?_
        refine r_op (o_move rfl rfl) ?_
        refine r_op (o_bin rfl rfl rfl rfl) ?_
        refine r_op (o_assign rfl rfl) ?_
        refine r_end ?_
        have gd3 := Option.some.inj (hzv.symm.trans hz3); have gd4 := congrArg (fun q => q.2.length) gd3; (try dsimp only at gd4); have hx9 : (l.getD m (0, [])).2[n]? = some z6 := by rw [gd3]; exact hz7
        refine t_le ?_ (ih1 (n + 1) (by (try dsimp only); omega) (by (try dsimp only); omega))
        exact ⟨⟨rfl, ⟨rfl, ⟨rfl, ⟨rfl, ⟨(eqI (wr64 (by omega) (by omega))), trivial⟩⟩⟩⟩⟩, ⟨(eqR (by first | (rw [nonneg_more hx9 (by omega), ← List.append_assoc, setI_snoc]; done) | (rw [nonneg_same hx9 (by omega)]; done))), trivial⟩, rfl⟩
      ·
        have h9' := of_decide_eq_false h9
        refine t_skip ?_
        refine t_endblock ?_
        refine t_region ?_
        refine r_op (o_move rfl rfl) ?_
        refine r_op (o_bin rfl rfl rfl rfl) ?_
        refine r_op (o_assign rfl rfl) ?_
        refine r_end ?_
        have gd3 := Option.some.inj (hzv.symm.trans hz3); have gd4 := congrArg (fun q => q.2.length) gd3; (try dsimp only at gd4); have hx9 : (l.getD m (0, [])).2[n]? = some z6 := by rw [gd3]; exact hz7
        refine t_le ?_ (ih1 (n + 1) (by (try dsimp only); omega) (by (try dsimp only); omega))
        exact ⟨⟨rfl, ⟨rfl, ⟨rfl, ⟨rfl, ⟨(eqI (wr64 (by omega) (by omega))), trivial⟩⟩⟩⟩⟩, ⟨(eqR (by first | (rw [nonneg_more hx9 (by omega), ← List.append_assoc, setI_snoc]; done) | (rw [nonneg_same hx9 (by omega)]; done))), trivial⟩, rfl⟩
    ·
      have h5' := of_decide_eq_false h5
      refine t_exit rfl ?_
      refine t_endblock ?_
      refine t_region ?_
      refine r_op (o_move rfl rfl) ?_
      refine r_op (o_bin rfl rfl rfl rfl) ?_
      refine r_op (o_assign rfl rfl) ?_
      refine r_end ?_
      have gd3 := Option.some.inj (hzv.symm.trans hz3)
      refine t_le ?_ (ih0 (m + 1) (by (try dsimp only); omega) (by (try dsimp only); omega))
      exact ⟨⟨rfl, ⟨rfl, ⟨rfl, ⟨(eqI (wr64 (by omega) (by omega))), trivial⟩⟩⟩⟩, ⟨(eqR (by rw [varsL_step hzv, gd3]; congr 3; exact List.take_of_length_le (by rw [gd3] at j1; omega))), trivial⟩, rfl⟩
  ·
    have h1' := of_decide_eq_false h1
    refine t_exit rfl ?_
    refine t_seq ?_
    refine t_region ?_
    refine r_op (o_move rfl rfl) ?_
    refine r_op (o_assign rfl rfl) ?_
    refine r_end ?_
    refine t_ret Tryz.func111 (.tmp rfl .nil) rfl fun E S w u hI hd => ?_
    refine post_mk hI hd ?_ ⟨eqR ?_, trivial⟩ rfl rfl rfl <;> clear hI hd <;> (try clear ih0) <;> (try clear ih1)
    all_goals first | rfl | (first | rfl | (rw [varsL_end (by omega)]))
set_option maxHeartbeats 1000000 in
set_option maxRecDepth 10000 in
theorem c_spec_l4Has (l : List Int) (v : Int) (hl : l.length ≤ 4611686018427387904) : Pu Tryz.prog 112 [.c (.t none (.sl 1 encI (l))), .c (.t none (.v (.int .i64 (v))))] [] 0 (.c (.t none (.v (.bool (hasI l v))))) := by
  refine pu_enter Tryz.func112 rfl (Nat.le_of_ble_eq_true rfl) fun w S => ?_
  refine t_seq ?_
  refine t_region ?_
  refine r_op (o_assign rfl rfl) ?_
  refine r_end ?_
  refine t_seq ?_
  refine t_seq ?_
  refine t_region ?_
  refine r_op (o_assign rfl rfl) ?_
  refine r_end ?_
  refine t_block ?_
  refine t_loopL (fun m => ⟨[(0, some (.c (.t none (.sl 1 encI (l))))), (1, some (.c (.t none (.v (.int .i64 (v)))))), (5, some (.c (.t none (.v (.int .i64 ((m : Int)))))))], [], 0⟩ : Nat → St) (fun m => m ≤ l.length ∧ ∀ j z, j < m → l[j]? = some z → (fun y => decide (y = v)) z = false) (fun m => l.length - m) 0 ⟨⟨rfl, ⟨rfl, ⟨rfl, trivial⟩⟩⟩, trivial, rfl⟩ (by exact ⟨Nat.zero_le _, fun j z h => by omega⟩) ?_
  rintro m hI ih0
  try dsimp only at hI ih0
  obtain ⟨i1, i2⟩ := hI
  refine t_seq ?_
  refine t_seq ?_
  refine t_region ?_
  refine r_op (o_move rfl rfl) ?_
  refine r_op (o_move rfl rfl) ?_
  refine r_op (o_len rfl rfl rfl) ?_
  refine r_op (o_bin rfl rfl rfl rfl) ?_
  refine r_end ?_
  refine t_cond rfl (fun h1 => ?_) (fun h1 => ?_)
  ·
    have h1' := of_decide_eq_true h1
    refine t_skip ?_
    refine t_seq ?_
    refine t_block ?_
    refine t_seq ?_
    refine t_region ?_
    refine r_op (o_move rfl rfl) ?_
    refine r_op (o_move rfl rfl) ?_
    obtain ⟨z2, hz3, b4⟩ := at_get (xs := l) (n := (m : Int)) (by first | omega | (simp; omega)) (by first | omega | (simp; omega))
    refine r_op (o_index rfl (by kernel_rfl) rfl rfl b4 hz3) ?_
    refine r_op (o_load1 rfl (by kernel_rfl) rfl rfl) ?_
    refine r_op (o_move rfl rfl) ?_
    refine r_op (o_bin rfl rfl rfl rfl) ?_
    refine r_end ?_
    refine t_cond rfl (fun h5 => ?_) (fun h5 => ?_)
    ·
      have h5' := of_decide_eq_true h5
      refine t_seq ?_
      refine t_region ?_
      refine r_op (o_assign rfl rfl) ?_
      refine r_end ?_
      refine t_ret Tryz.func112 (.tmp rfl .nil) rfl fun E S w u hI hd => ?_
      refine post_mk hI hd ?_ trivial rfl rfl rfl <;> clear hI hd <;> (try clear ih0)
      all_goals first | rfl | (refine scB ?_; exact (any_true (p := fun y => decide (y = v)) (by assumption) (decide_eq_true (by omega))).symm)
    ·
      have h5' := of_decide_eq_false h5
      refine t_skip ?_
      refine t_endblock ?_
      refine t_region ?_
      refine r_op (o_move rfl rfl) ?_
      refine r_op (o_bin rfl rfl rfl rfl) ?_
      refine r_op (o_assign rfl rfl) ?_
      refine r_end ?_
      refine t_le ?_ (ih0 (m + 1) (by (try dsimp only); omega) (by (try dsimp only); exact ⟨by omega, no_step i2 (by assumption) rfl (decide_eq_false (by omega))⟩))
      exact ⟨⟨rfl, ⟨rfl, ⟨(eqI (wr64 (by omega) (by omega))), trivial⟩⟩⟩, trivial, rfl⟩
  ·
    have h1' := of_decide_eq_false h1
    refine t_exit rfl ?_
    refine t_seq ?_
    refine t_region ?_
    refine r_op (o_assign rfl rfl) ?_
    refine r_end ?_
    refine t_ret Tryz.func112 (.tmp rfl .nil) rfl fun E S w u hI hd => ?_
    refine post_mk hI hd ?_ trivial rfl rfl rfl <;> clear hI hd <;> (try clear ih0)
    all_goals first | rfl | (refine scB ?_; exact (any_false (p := fun y => decide (y = v)) i2 (by omega)).symm)
set_option maxHeartbeats 1000000 in
set_option maxRecDepth 10000 in
theorem c_spec_IsValidDependency (rs : Rels) (a0 : List (Int × (List (Int)))) (a1 : List (Int × (List (Int)))) (a2 : Bool) (a3 : Int) (a4 : Int) (hrs : rs.length ≤ 4611686018427387904) (hs : szS (fun (x : Int × (List (Int))) => (x.2).length) a0 + szS (fun (x : Int × (List (Int))) => (x.2).length) a1 ≤ 1048576) : Pu Tryz.prog 66 [.c (.t none (.sl 3 (enS3 encS encI encB) (rs))), .agg [.t none (.sl 2 (enS2 encI (enSl 1 encI)) (a0)), .t none (.sl 2 (enS2 encI (enSl 1 encI)) (a1)), .t none (.v (.bool (a2))), .t none (.v (.int .i64 (a3))), .t none (.v (.int .i64 (a4)))]] [] 0 (.c (.t none (.v (.bool (depOk rs a0 a1 a2 a3 a4))))) := by
  refine pu_enter Tryz.func66 rfl (Nat.le_of_ble_eq_true rfl) fun w S => ?_
  have g0 := sz_len (f := (fun (x : Int × (List (Int))) => (x.2).length)) (l := a0); have g1 := sz_len (f := (fun (x : Int × (List (Int))) => (x.2).length)) (l := a1); have v0 := setI_len (varsL a0); have v1 := varsL_size a0
  refine t_seq ?_
  refine t_region ?_
  refine r_op (o_box 0 rfl rfl rfl rfl) ?_
  refine r_op (o_assign rfl rfl) ?_
  refine r_end ?_
  refine t_seq ?_
  refine t_seq ?_
  refine t_region ?_
  refine r_op (o_fieldb rfl (off := 0) (by kernel_rfl) rfl) ?_
  refine r_op (o_load1b rfl (by kernel_rfl) rfl rfl rfl) ?_
  refine r_op (o_len rfl rfl rfl) ?_
  refine r_op (o_call 1 1 false (Go.Proofs.enters_of Tryz.func109 (by kernel_rfl) rfl) (c_spec_l1In (((a0).length : Int)) (1) (2)) rfl (.cons rfl (.c .t0) (.cons rfl (.c .t0) (.cons rfl (.c .t0) .nil))) rfl rfl rfl) ?_
  refine r_op (o_not rfl rfl) ?_
  refine r_end ?_
  refine t_cond rfl (fun h1 => ?_) (fun h1 => ?_)
  ·
    have h1' := of_decide_eq_false (bnt h1)
    refine t_seq ?_
    refine t_region ?_
    refine r_op (o_assign rfl rfl) ?_
    refine r_end ?_
    refine t_ret Tryz.func66 (.tmp rfl .nil) rfl fun E S w u hI hd => ?_
    refine post_mk hI hd ?_ trivial rfl rfl rfl <;> clear hI hd <;> (try clear ih0) <;> (try clear ih1)
    all_goals first | rfl | (refine scB ?_; (try (have qA := iA (by omega))); (try (have qK := kA (by omega))); (try (have qB := any_true (p := badA rs) (l := a0) (m := m) (by assumption) (by unfold badA; grind))); (try (have qC := any_true (p := badA rs) (l := a1) (m := n) (by assumption) (by unfold badA; grind))); (try (have qS := srcA_at (rs := rs) (r := (by assumption).1) (ts := (by assumption).2) (by assumption); have qD := any_true (p := srcA rs) (l := a1) (m := n) (by assumption) (by grind))); clear hs g0 g1 v0 v1; unfold depOk atomsOk; grind)
  ·
    have h1' := of_decide_eq_true (bnf h1)
    refine t_skip ?_
    refine t_seq ?_
    refine t_seq ?_
    refine t_region ?_
    refine r_op (o_assign rfl rfl) ?_
    refine r_end ?_
    refine t_block ?_
    refine t_loopL (fun m => ⟨[(0, some (.c (.t none (.sl 3 (enS3 encS encI encB) (rs))))), (3, some (.c (.ptr 0 0))), (5, some (.c (.t none (.v (.int .i64 ((m : Int)))))))], [(0, some (.box [.t none (.sl 2 (enS2 encI (enSl 1 encI)) (a0)), .t none (.sl 2 (enS2 encI (enSl 1 encI)) (a1)), .t none (.v (.bool (a2))), .t none (.v (.int .i64 (a3))), .t none (.v (.int .i64 (a4)))]))], 1⟩ : Nat → St) (fun m => m ≤ a0.length ∧ ∀ j z, j < m → a0[j]? = some z → badA rs z = false) (fun m => a0.length - m) 0 ⟨⟨rfl, ⟨rfl, ⟨rfl, trivial⟩⟩⟩, ⟨rfl, trivial⟩, rfl⟩ (by exact ⟨Nat.zero_le _, fun j z h => by omega⟩) ?_
    rintro m hI ih0
    try dsimp only at hI ih0
    obtain ⟨i1, i2⟩ := hI; have iA : a0.length ≤ m → a0.any (badA rs) = false := fun e => any_false i2 e
    refine t_seq ?_
    refine t_seq ?_
    refine t_region ?_
    refine r_op (o_move rfl rfl) ?_
    refine r_op (o_fieldb rfl (off := 0) (by kernel_rfl) rfl) ?_
    refine r_op (o_load1b rfl (by kernel_rfl) rfl rfl rfl) ?_
    refine r_op (o_len rfl rfl rfl) ?_
    refine r_op (o_bin rfl rfl rfl rfl) ?_
    refine r_end ?_
    refine t_cond rfl (fun h2 => ?_) (fun h2 => ?_)
    ·
      have h2' := of_decide_eq_true h2
      refine t_skip ?_
      refine t_seq ?_
      refine t_block ?_
      refine t_seq ?_
      refine t_region ?_
      refine r_op (o_move rfl rfl) ?_
      refine r_op (o_fieldb rfl (off := 0) (by kernel_rfl) rfl) ?_
      refine r_op (o_load1b rfl (by kernel_rfl) rfl rfl rfl) ?_
      refine r_op (o_move rfl rfl) ?_
      obtain ⟨z3, hz4, b5⟩ := at_get (xs := a0) (n := (m : Int)) (by first | omega | assumption | (have e1 := sz_at (f := (fun (x : Int × (List (Int))) => (x.2).length)) (l := a0) (m := m) (by assumption); (try dsimp only at e1); omega) | (have e1 := sz_at (f := (fun (x : Int × (List (Int))) => (x.2).length)) (l := a1) (m := n) (by assumption); (try dsimp only at e1); omega) | exact (atom_idx (by assumption)).1 | exact (atom_idx (by assumption)).2) (by first | omega | assumption | (have e1 := sz_at (f := (fun (x : Int × (List (Int))) => (x.2).length)) (l := a0) (m := m) (by assumption); (try dsimp only at e1); omega) | (have e1 := sz_at (f := (fun (x : Int × (List (Int))) => (x.2).length)) (l := a1) (m := n) (by assumption); (try dsimp only at e1); omega) | exact (atom_idx (by assumption)).1 | exact (atom_idx (by assumption)).2)
      refine r_op (o_index rfl (by kernel_rfl) rfl rfl b5 hz4) ?_
      refine r_op (o_loadA rfl (n := 2) (by kernel_rfl) (by kernel_rfl) rfl rfl) ?_
      refine r_op (o_call 1 1 false (Go.Proofs.enters_of Tryz.func110 (by kernel_rfl) rfl) (c_spec_IsValidAtom (rs) (z3.1) (z3.2) (by first | omega | assumption | (have e1 := sz_at (f := (fun (x : Int × (List (Int))) => (x.2).length)) (l := a0) (m := m) (by assumption); (try dsimp only at e1); omega) | (have e1 := sz_at (f := (fun (x : Int × (List (Int))) => (x.2).length)) (l := a1) (m := n) (by assumption); (try dsimp only at e1); omega) | exact (atom_idx (by assumption)).1 | exact (atom_idx (by assumption)).2) (by first | omega | assumption | (have e1 := sz_at (f := (fun (x : Int × (List (Int))) => (x.2).length)) (l := a0) (m := m) (by assumption); (try dsimp only at e1); omega) | (have e1 := sz_at (f := (fun (x : Int × (List (Int))) => (x.2).length)) (l := a1) (m := n) (by assumption); (try dsimp only at e1); omega) | exact (atom_idx (by assumption)).1 | exact (atom_idx (by assumption)).2)) rfl (.cons rfl (.c .t0) (.cons rfl (.agg (.cons .t0 (.cons .t0 .nil))) .nil)) rfl rfl rfl) ?_
      refine r_op (o_not rfl rfl) ?_
      refine r_end ?_
      refine t_cond rfl (fun h6 => ?_) (fun h6 => ?_)
      ·
        have h6' := (bnt h6)
        refine t_seq ?_
        refine t_region ?_
        refine r_op (o_assign rfl rfl) ?_
        refine r_end ?_
        refine t_ret Tryz.func66 (.tmp rfl .nil) rfl fun E S w u hI hd => ?_
        refine post_mk hI hd ?_ trivial rfl rfl rfl <;> clear hI hd <;> (try clear ih0) <;> (try clear ih1)
        all_goals first | rfl | (refine scB ?_; (try (have qA := iA (by omega))); (try (have qK := kA (by omega))); (try (have qB := any_true (p := badA rs) (l := a0) (m := m) hz4 (by unfold badA; grind))); (try (have qC := any_true (p := badA rs) (l := a1) (m := n) hz4 (by unfold badA; grind))); (try (have qS := srcA_at (rs := rs) (r := z3.1) (ts := z3.2) (by assumption); have qD := any_true (p := srcA rs) (l := a1) (m := n) hz4 (by grind))); clear hs g0 g1 v0 v1; unfold depOk atomsOk; grind)
      ·
        have h6' := (bnf h6)
        refine t_skip ?_
        refine t_endblock ?_
        refine t_region ?_
        refine r_op (o_move rfl rfl) ?_
        refine r_op (o_bin rfl rfl rfl rfl) ?_
        refine r_op (o_assign rfl rfl) ?_
        refine r_end ?_
        refine t_le ?_ (ih0 (m + 1) (by (try dsimp only); omega) (by (try dsimp only); exact ⟨by omega, no_step i2 (by assumption) rfl (by unfold badA; grind)⟩))
        exact ⟨⟨rfl, ⟨rfl, ⟨(eqI (wr64 (by omega) (by omega))), trivial⟩⟩⟩, ⟨rfl, trivial⟩, rfl⟩
    ·
      have h2' := of_decide_eq_false h2
      refine t_exit rfl ?_
      refine t_seq ?_
      refine t_seq ?_
      refine t_region ?_
      refine r_op (o_fieldb rfl (off := 2) (by kernel_rfl) rfl) ?_
      refine r_op (o_load1b rfl (by kernel_rfl) rfl rfl rfl) ?_
      refine r_end ?_
      refine t_cond rfl (fun h7 => ?_) (fun h7 => ?_)
      ·
        have h7' := h7
        refine t_seq ?_
        refine t_region ?_
        refine r_op (o_fieldb rfl (off := 0) (by kernel_rfl) rfl) ?_
        refine r_op (o_load1b rfl (by kernel_rfl) rfl rfl rfl) ?_
        refine r_op (o_call 1 2 false (Go.Proofs.enters_of Tryz.func111 (by kernel_rfl) rfl) (c_spec_Variables (a0) (by first | omega | assumption | (have e1 := sz_at (f := (fun (x : Int × (List (Int))) => (x.2).length)) (l := a0) (m := m) (by assumption); (try dsimp only at e1); omega) | (have e1 := sz_at (f := (fun (x : Int × (List (Int))) => (x.2).length)) (l := a1) (m := n) (by assumption); (try dsimp only at e1); omega) | exact (atom_idx (by assumption)).1 | exact (atom_idx (by assumption)).2)) rfl (.cons rfl (.c .t0) .nil) rfl rfl rfl) ?_
        refine r_op (o_assign rfl rfl) ?_
        refine r_end ?_
        refine t_seq ?_
        refine t_region ?_
        refine r_op (o_fieldb rfl (off := 1) (by kernel_rfl) rfl) ?_
        refine r_op (o_load1b rfl (by kernel_rfl) rfl rfl rfl) ?_
        refine r_op (o_len rfl rfl rfl) ?_
        refine r_op (o_bin rfl rfl rfl rfl) ?_
        refine r_op (o_move rfl rfl) ?_
        refine r_guard rfl rfl rfl (fun g8 => ?_) (fun g8 => ?_)
        ·
          have g8' := of_decide_eq_true g8
          refine r_op (o_move rfl rfl) ?_
          refine r_guard rfl rfl rfl (fun _ => ?_) (nc g8)
          refine r_op (o_fieldb rfl (off := 3) (by kernel_rfl) rfl) ?_
          refine r_guard rfl rfl rfl (fun _ => ?_) (nc g8)
          refine r_op (o_load1b rfl (by kernel_rfl) rfl rfl rfl) ?_
          refine r_guard rfl rfl rfl (fun _ => ?_) (nc g8)
          refine r_op (o_call 2 2 false (Go.Proofs.enters_of Tryz.func112 (by kernel_rfl) rfl) (c_spec_l4Has (setI (varsL (a0))) (a3) (by first | omega | assumption | (have e1 := sz_at (f := (fun (x : Int × (List (Int))) => (x.2).length)) (l := a0) (m := m) (by assumption); (try dsimp only at e1); omega) | (have e1 := sz_at (f := (fun (x : Int × (List (Int))) => (x.2).length)) (l := a1) (m := n) (by assumption); (try dsimp only at e1); omega) | exact (atom_idx (by assumption)).1 | exact (atom_idx (by assumption)).2)) rfl (.cons rfl (.c (.own rfl)) (.cons rfl (.c .t0) .nil)) rfl rfl rfl) ?_
          refine r_op (o_pickT rfl rfl g8 rfl) ?_
          refine r_op (o_move rfl rfl) ?_
          refine r_guard rfl rfl rfl (fun g9 => ?_) (fun g9 => ?_)
          ·
            have g9' := g9
            refine r_op (o_move rfl rfl) ?_
            refine r_guard rfl rfl rfl (fun _ => ?_) (nc g9)
            refine r_op (o_fieldb rfl (off := 4) (by kernel_rfl) rfl) ?_
            refine r_guard rfl rfl rfl (fun _ => ?_) (nc g9)
            refine r_op (o_load1b rfl (by kernel_rfl) rfl rfl rfl) ?_
            refine r_guard rfl rfl rfl (fun _ => ?_) (nc g9)
            refine r_op (o_call 2 2 false (Go.Proofs.enters_of Tryz.func112 (by kernel_rfl) rfl) (c_spec_l4Has (setI (varsL (a0))) (a4) (by first | omega | assumption | (have e1 := sz_at (f := (fun (x : Int × (List (Int))) => (x.2).length)) (l := a0) (m := m) (by assumption); (try dsimp only at e1); omega) | (have e1 := sz_at (f := (fun (x : Int × (List (Int))) => (x.2).length)) (l := a1) (m := n) (by assumption); (try dsimp only at e1); omega) | exact (atom_idx (by assumption)).1 | exact (atom_idx (by assumption)).2)) rfl (.cons rfl (.c (.own rfl)) (.cons rfl (.c .t0) .nil)) rfl rfl rfl) ?_
            refine r_op (o_pickT rfl rfl g9 rfl) ?_
            refine r_op (o_move rfl rfl) ?_
            refine r_guard rfl rfl rfl (fun g10 => ?_) (fun g10 => ?_)
            ·
              have g10' := g10
              refine r_op (o_fieldb rfl (off := 3) (by kernel_rfl) rfl) ?_
              refine r_guard rfl rfl rfl (fun _ => ?_) (nc g10)
              refine r_op (o_load1b rfl (by kernel_rfl) rfl rfl rfl) ?_
              refine r_guard rfl rfl rfl (fun _ => ?_) (nc g10)
              refine r_op (o_fieldb rfl (off := 4) (by kernel_rfl) rfl) ?_
              refine r_guard rfl rfl rfl (fun _ => ?_) (nc g10)
              refine r_op (o_load1b rfl (by kernel_rfl) rfl rfl rfl) ?_
              refine r_guard rfl rfl rfl (fun _ => ?_) (nc g10)
              refine r_op (o_bin rfl rfl rfl rfl) ?_
              refine r_op (o_pickT rfl rfl g10 rfl) ?_
              refine r_op (o_assign rfl rfl) ?_
              refine r_end ?_
              refine t_ret Tryz.func66 (.tmp rfl .nil) rfl fun E S w u hI hd => ?_
              refine post_mk hI hd ?_ trivial rfl rfl rfl <;> clear hI hd <;> (try clear ih0) <;> (try clear ih1)
              all_goals first | rfl | (refine scB ?_; (try (have qA := iA (by omega))); (try (have qK := kA (by omega))); (try (have qB := any_true (p := badA rs) (l := a0) (m := m) (by assumption) (by unfold badA; grind))); (try (have qC := any_true (p := badA rs) (l := a1) (m := n) (by assumption) (by unfold badA; grind))); (try (have qS := srcA_at (rs := rs) (r := (by assumption).1) (ts := (by assumption).2) (by assumption); have qD := any_true (p := srcA rs) (l := a1) (m := n) (by assumption) (by grind))); clear hs g0 g1 v0 v1; unfold depOk atomsOk; grind)
            ·
              have g10' := g10
              refine r_guard rfl rfl rfl (ncf g10) (fun _ => ?_)
              refine r_guard rfl rfl rfl (ncf g10) (fun _ => ?_)
              refine r_guard rfl rfl rfl (ncf g10) (fun _ => ?_)
              refine r_guard rfl rfl rfl (ncf g10) (fun _ => ?_)
              refine r_op (o_pickF rfl rfl g10 rfl) ?_
              refine r_op (o_assign rfl rfl) ?_
              refine r_end ?_
              refine t_ret Tryz.func66 (.tmp rfl .nil) rfl fun E S w u hI hd => ?_
              refine post_mk hI hd ?_ trivial rfl rfl rfl <;> clear hI hd <;> (try clear ih0) <;> (try clear ih1)
              all_goals first | rfl | (refine scB ?_; (try (have qA := iA (by omega))); (try (have qK := kA (by omega))); (try (have qB := any_true (p := badA rs) (l := a0) (m := m) (by assumption) (by unfold badA; grind))); (try (have qC := any_true (p := badA rs) (l := a1) (m := n) (by assumption) (by unfold badA; grind))); (try (have qS := srcA_at (rs := rs) (r := (by assumption).1) (ts := (by assumption).2) (by assumption); have qD := any_true (p := srcA rs) (l := a1) (m := n) (by assumption) (by grind))); clear hs g0 g1 v0 v1; unfold depOk atomsOk; grind)
          ·
            have g9' := g9
            refine r_guard rfl rfl rfl (ncf g9) (fun _ => ?_)
            refine r_guard rfl rfl rfl (ncf g9) (fun _ => ?_)
            refine r_guard rfl rfl rfl (ncf g9) (fun _ => ?_)
            refine r_op (o_pickF rfl rfl g9 rfl) ?_
            refine r_op (o_move rfl rfl) ?_
            refine r_guard rfl rfl rfl (ncf rfl) (fun _ => ?_)
            refine r_guard rfl rfl rfl (ncf rfl) (fun _ => ?_)
            refine r_guard rfl rfl rfl (ncf rfl) (fun _ => ?_)
            refine r_guard rfl rfl rfl (ncf rfl) (fun _ => ?_)
            refine r_guard rfl rfl rfl (ncf rfl) (fun _ => ?_)
            refine r_op (o_pickF rfl rfl rfl rfl) ?_
            refine r_op (o_assign rfl rfl) ?_
            refine r_end ?_
            refine t_ret Tryz.func66 (.tmp rfl .nil) rfl fun E S w u hI hd => ?_
            refine post_mk hI hd ?_ trivial rfl rfl rfl <;> clear hI hd <;> (try clear ih0) <;> (try clear ih1)
            all_goals first | rfl | (refine scB ?_; (try (have qA := iA (by omega))); (try (have qK := kA (by omega))); (try (have qB := any_true (p := badA rs) (l := a0) (m := m) (by assumption) (by unfold badA; grind))); (try (have qC := any_true (p := badA rs) (l := a1) (m := n) (by assumption) (by unfold badA; grind))); (try (have qS := srcA_at (rs := rs) (r := (by assumption).1) (ts := (by assumption).2) (by assumption); have qD := any_true (p := srcA rs) (l := a1) (m := n) (by assumption) (by grind))); clear hs g0 g1 v0 v1; unfold depOk atomsOk; grind)
        ·
          have g8' := of_decide_eq_false g8
          refine r_guard rfl rfl rfl (ncf g8) (fun _ => ?_)
          refine r_guard rfl rfl rfl (ncf g8) (fun _ => ?_)
          refine r_guard rfl rfl rfl (ncf g8) (fun _ => ?_)
          refine r_op (o_pickF rfl rfl g8 rfl) ?_
          refine r_op (o_move rfl rfl) ?_
          refine r_guard rfl rfl rfl (ncf rfl) (fun _ => ?_)
          refine r_guard rfl rfl rfl (ncf rfl) (fun _ => ?_)
          refine r_guard rfl rfl rfl (ncf rfl) (fun _ => ?_)
          refine r_guard rfl rfl rfl (ncf rfl) (fun _ => ?_)
          refine r_op (o_pickF rfl rfl rfl rfl) ?_
          refine r_op (o_move rfl rfl) ?_
          refine r_guard rfl rfl rfl (ncf rfl) (fun _ => ?_)
          refine r_guard rfl rfl rfl (ncf rfl) (fun _ => ?_)
          refine r_guard rfl rfl rfl (ncf rfl) (fun _ => ?_)
          refine r_guard rfl rfl rfl (ncf rfl) (fun _ => ?_)
          refine r_guard rfl rfl rfl (ncf rfl) (fun _ => ?_)
          refine r_op (o_pickF rfl rfl rfl rfl) ?_
          refine r_op (o_assign rfl rfl) ?_
          refine r_end ?_
          refine t_ret Tryz.func66 (.tmp rfl .nil) rfl fun E S w u hI hd => ?_
          refine post_mk hI hd ?_ trivial rfl rfl rfl <;> clear hI hd <;> (try clear ih0) <;> (try clear ih1)
          all_goals first | rfl | (refine scB ?_; (try (have qA := iA (by omega))); (try (have qK := kA (by omega))); (try (have qB := any_true (p := badA rs) (l := a0) (m := m) (by assumption) (by unfold badA; grind))); (try (have qC := any_true (p := badA rs) (l := a1) (m := n) (by assumption) (by unfold badA; grind))); (try (have qS := srcA_at (rs := rs) (r := (by assumption).1) (ts := (by assumption).2) (by assumption); have qD := any_true (p := srcA rs) (l := a1) (m := n) (by assumption) (by grind))); clear hs g0 g1 v0 v1; unfold depOk atomsOk; grind)
      ·
        have h7' := h7
        refine t_skip ?_
        refine t_seq ?_
        refine t_seq ?_
        refine t_region ?_
        refine r_op (o_assign rfl rfl) ?_
        refine r_end ?_
        refine t_block ?_
        refine t_loopL (fun n => ⟨[(0, some (.c (.t none (.sl 3 (enS3 encS encI encB) (rs))))), (3, some (.c (.ptr 0 0))), (7, some (.c (.t none (.v (.int .i64 ((n : Int)))))))], [(0, some (.box [.t none (.sl 2 (enS2 encI (enSl 1 encI)) (a0)), .t none (.sl 2 (enS2 encI (enSl 1 encI)) (a1)), .t none (.v (.bool (a2))), .t none (.v (.int .i64 (a3))), .t none (.v (.int .i64 (a4)))]))], 1⟩ : Nat → St) (fun n => n ≤ a1.length ∧ ∀ j z, j < n → a1[j]? = some z → (badA rs z || srcA rs z) = false) (fun n => a1.length - n) 0 ⟨⟨rfl, ⟨rfl, ⟨rfl, trivial⟩⟩⟩, ⟨rfl, trivial⟩, rfl⟩ (by exact ⟨Nat.zero_le _, fun j z h => by omega⟩) ?_
        rintro n hI ih1
        try dsimp only at hI ih1
        obtain ⟨k1, k2⟩ := hI; (have kA : a1.length ≤ n → a1.any (badA rs) = false ∧ a1.any (srcA rs) = false := fun e => ⟨any_false (fun j z h h2 => by have := k2 j z h h2; simp_all) e, any_false (fun j z h h2 => by have := k2 j z h h2; simp_all) e⟩)
        refine t_seq ?_
        refine t_seq ?_
        refine t_region ?_
        refine r_op (o_move rfl rfl) ?_
        refine r_op (o_fieldb rfl (off := 1) (by kernel_rfl) rfl) ?_
        refine r_op (o_load1b rfl (by kernel_rfl) rfl rfl rfl) ?_
        refine r_op (o_len rfl rfl rfl) ?_
        refine r_op (o_bin rfl rfl rfl rfl) ?_
        refine r_end ?_
        refine t_cond rfl (fun h11 => ?_) (fun h11 => ?_)
        ·
          have h11' := of_decide_eq_true h11
          refine t_skip ?_
          refine t_seq ?_
          refine t_block ?_
          refine t_seq ?_
          refine t_region ?_
          refine r_op (o_move rfl rfl) ?_
          refine r_op (o_fieldb rfl (off := 1) (by kernel_rfl) rfl) ?_
          refine r_op (o_load1b rfl (by kernel_rfl) rfl rfl rfl) ?_
          refine r_op (o_move rfl rfl) ?_
          obtain ⟨z12, hz13, b14⟩ := at_get (xs := a1) (n := (n : Int)) (by first | omega | assumption | (have e1 := sz_at (f := (fun (x : Int × (List (Int))) => (x.2).length)) (l := a0) (m := m) (by assumption); (try dsimp only at e1); omega) | (have e1 := sz_at (f := (fun (x : Int × (List (Int))) => (x.2).length)) (l := a1) (m := n) (by assumption); (try dsimp only at e1); omega) | exact (atom_idx (by assumption)).1 | exact (atom_idx (by assumption)).2) (by first | omega | assumption | (have e1 := sz_at (f := (fun (x : Int × (List (Int))) => (x.2).length)) (l := a0) (m := m) (by assumption); (try dsimp only at e1); omega) | (have e1 := sz_at (f := (fun (x : Int × (List (Int))) => (x.2).length)) (l := a1) (m := n) (by assumption); (try dsimp only at e1); omega) | exact (atom_idx (by assumption)).1 | exact (atom_idx (by assumption)).2)
          refine r_op (o_index rfl (by kernel_rfl) rfl rfl b14 hz13) ?_
          refine r_op (o_loadA rfl (n := 2) (by kernel_rfl) (by kernel_rfl) rfl rfl) ?_
          refine r_op (o_call 1 1 false (Go.Proofs.enters_of Tryz.func110 (by kernel_rfl) rfl) (c_spec_IsValidAtom (rs) (z12.1) (z12.2) (by first | omega | assumption | (have e1 := sz_at (f := (fun (x : Int × (List (Int))) => (x.2).length)) (l := a0) (m := m) (by assumption); (try dsimp only at e1); omega) | (have e1 := sz_at (f := (fun (x : Int × (List (Int))) => (x.2).length)) (l := a1) (m := n) (by assumption); (try dsimp only at e1); omega) | exact (atom_idx (by assumption)).1 | exact (atom_idx (by assumption)).2) (by first | omega | assumption | (have e1 := sz_at (f := (fun (x : Int × (List (Int))) => (x.2).length)) (l := a0) (m := m) (by assumption); (try dsimp only at e1); omega) | (have e1 := sz_at (f := (fun (x : Int × (List (Int))) => (x.2).length)) (l := a1) (m := n) (by assumption); (try dsimp only at e1); omega) | exact (atom_idx (by assumption)).1 | exact (atom_idx (by assumption)).2)) rfl (.cons rfl (.c .t0) (.cons rfl (.agg (.cons .t0 (.cons .t0 .nil))) .nil)) rfl rfl rfl) ?_
          refine r_op (o_not rfl rfl) ?_
          refine r_op (o_move rfl rfl) ?_
          refine r_guard rfl rfl rfl (fun g15 => ?_) (fun g15 => ?_)
          ·
            have g15' := (bnf g15)
            refine r_op (o_move rfl rfl) ?_
            refine r_guard rfl rfl rfl (fun _ => ?_) (ncf g15)
            refine r_op (o_fieldb rfl (off := 1) (by kernel_rfl) rfl) ?_
            refine r_guard rfl rfl rfl (fun _ => ?_) (ncf g15)
            refine r_op (o_load1b rfl (by kernel_rfl) rfl rfl rfl) ?_
            refine r_guard rfl rfl rfl (fun _ => ?_) (ncf g15)
            refine r_op (o_move rfl rfl) ?_
            refine r_guard rfl rfl rfl (fun _ => ?_) (ncf g15)
            refine r_op (o_index rfl (by kernel_rfl) rfl rfl b14 hz13) ?_
            refine r_guard rfl rfl rfl (fun _ => ?_) (ncf g15)
            refine r_op (o_field rfl (off := 0) (by kernel_rfl) rfl) ?_
            refine r_guard rfl rfl rfl (fun _ => ?_) (ncf g15)
            refine r_op (o_load1 rfl (by kernel_rfl) rfl rfl) ?_
            refine r_guard rfl rfl rfl (fun _ => ?_) (ncf g15)
            obtain ⟨z16, hz17, b18⟩ := at_get (xs := rs) (n := z12.1) (by first | omega | assumption | (have e1 := sz_at (f := (fun (x : Int × (List (Int))) => (x.2).length)) (l := a0) (m := m) (by assumption); (try dsimp only at e1); omega) | (have e1 := sz_at (f := (fun (x : Int × (List (Int))) => (x.2).length)) (l := a1) (m := n) (by assumption); (try dsimp only at e1); omega) | exact (atom_idx (by assumption)).1 | exact (atom_idx (by assumption)).2) (by first | omega | assumption | (have e1 := sz_at (f := (fun (x : Int × (List (Int))) => (x.2).length)) (l := a0) (m := m) (by assumption); (try dsimp only at e1); omega) | (have e1 := sz_at (f := (fun (x : Int × (List (Int))) => (x.2).length)) (l := a1) (m := n) (by assumption); (try dsimp only at e1); omega) | exact (atom_idx (by assumption)).1 | exact (atom_idx (by assumption)).2)
            refine r_op (o_index rfl (by kernel_rfl) rfl rfl b18 hz17) ?_
            refine r_guard rfl rfl rfl (fun _ => ?_) (ncf g15)
            refine r_op (o_field rfl (off := 2) (by kernel_rfl) rfl) ?_
            refine r_guard rfl rfl rfl (fun _ => ?_) (ncf g15)
            refine r_op (o_load1 rfl (by kernel_rfl) rfl rfl) ?_
            refine r_op (o_pickF rfl rfl g15 rfl) ?_
            refine r_end ?_
            refine t_cond rfl (fun h19 => ?_) (fun h19 => ?_)
            ·
              have h19' := h19
              refine t_seq ?_
              refine t_region ?_
              refine r_op (o_assign rfl rfl) ?_
              refine r_end ?_
              refine t_ret Tryz.func66 (.tmp rfl .nil) rfl fun E S w u hI hd => ?_
              refine post_mk hI hd ?_ trivial rfl rfl rfl <;> clear hI hd <;> (try clear ih0) <;> (try clear ih1)
              all_goals first | rfl | (refine scB ?_; (try (have qA := iA (by omega))); (try (have qK := kA (by omega))); (try (have qB := any_true (p := badA rs) (l := a0) (m := m) hz13 (by unfold badA; grind))); (try (have qC := any_true (p := badA rs) (l := a1) (m := n) hz13 (by unfold badA; grind))); (try (have qS := srcA_at (rs := rs) (r := z12.1) (ts := z12.2) hz17; have qD := any_true (p := srcA rs) (l := a1) (m := n) hz13 (by grind))); clear hs g0 g1 v0 v1; unfold depOk atomsOk; grind)
            ·
              have h19' := h19
              refine t_skip ?_
              refine t_endblock ?_
              refine t_region ?_
              refine r_op (o_move rfl rfl) ?_
              refine r_op (o_bin rfl rfl rfl rfl) ?_
              refine r_op (o_assign rfl rfl) ?_
              refine r_end ?_
              refine t_le ?_ (ih1 (n + 1) (by (try dsimp only); omega) (by (try dsimp only); exact ⟨by omega, no_step (p := fun z => badA rs z || srcA rs z) k2 (by assumption) rfl (by have q1 := srcA_at (rs := rs) (r := z12.1) (ts := z12.2) hz17; unfold badA; grind)⟩))
              exact ⟨⟨rfl, ⟨rfl, ⟨(eqI (wr64 (by omega) (by omega))), trivial⟩⟩⟩, ⟨rfl, trivial⟩, rfl⟩
          ·
            have g15' := (bnt g15)
            refine r_guard rfl rfl rfl (nc g15) (fun _ => ?_)
            refine r_guard rfl rfl rfl (nc g15) (fun _ => ?_)
            refine r_guard rfl rfl rfl (nc g15) (fun _ => ?_)
            refine r_guard rfl rfl rfl (nc g15) (fun _ => ?_)
            refine r_guard rfl rfl rfl (nc g15) (fun _ => ?_)
            refine r_guard rfl rfl rfl (nc g15) (fun _ => ?_)
            refine r_guard rfl rfl rfl (nc g15) (fun _ => ?_)
            refine r_guard rfl rfl rfl (nc g15) (fun _ => ?_)
            refine r_guard rfl rfl rfl (nc g15) (fun _ => ?_)
            refine r_op (o_pickT rfl rfl g15 rfl) ?_
            refine r_end ?_
            refine t_cond rfl (fun _ => ?_) (nc rfl)
            refine t_seq ?_
            refine t_region ?_
            refine r_op (o_assign rfl rfl) ?_
            refine r_end ?_
            refine t_ret Tryz.func66 (.tmp rfl .nil) rfl fun E S w u hI hd => ?_
            refine post_mk hI hd ?_ trivial rfl rfl rfl <;> clear hI hd <;> (try clear ih0) <;> (try clear ih1)
            all_goals first | rfl | (refine scB ?_; (try (have qA := iA (by omega))); (try (have qK := kA (by omega))); (try (have qB := any_true (p := badA rs) (l := a0) (m := m) hz13 (by unfold badA; grind))); (try (have qC := any_true (p := badA rs) (l := a1) (m := n) hz13 (by unfold badA; grind))); (try (have qS := srcA_at (rs := rs) (r := z12.1) (ts := z12.2) (by assumption); have qD := any_true (p := srcA rs) (l := a1) (m := n) hz13 (by grind))); clear hs g0 g1 v0 v1; unfold depOk atomsOk; grind)
        ·
          have h11' := of_decide_eq_false h11
          refine t_exit rfl ?_
          refine t_seq ?_
          refine t_region ?_
          refine r_op (o_fieldb rfl (off := 1) (by kernel_rfl) rfl) ?_
          refine r_op (o_load1b rfl (by kernel_rfl) rfl rfl rfl) ?_
          refine r_op (o_len rfl rfl rfl) ?_
          refine r_op (o_call 1 1 false (Go.Proofs.enters_of Tryz.func109 (by kernel_rfl) rfl) (c_spec_l1In (((a1).length : Int)) (1) (2)) rfl (.cons rfl (.c .t0) (.cons rfl (.c .t0) (.cons rfl (.c .t0) .nil))) rfl rfl rfl) ?_
          refine r_op (o_move rfl rfl) ?_
          refine r_guard rfl rfl rfl (fun g20 => ?_) (fun g20 => ?_)
          ·
            have g20' := of_decide_eq_true g20
            refine r_op (o_fieldb rfl (off := 3) (by kernel_rfl) rfl) ?_
            refine r_guard rfl rfl rfl (fun _ => ?_) (nc g20)
            refine r_op (o_load1b rfl (by kernel_rfl) rfl rfl rfl) ?_
            refine r_guard rfl rfl rfl (fun _ => ?_) (nc g20)
            refine r_op (o_bin rfl rfl rfl rfl) ?_
            refine r_op (o_pickT rfl rfl g20 rfl) ?_
            refine r_op (o_move rfl rfl) ?_
            refine r_guard rfl rfl rfl (fun g21 => ?_) (fun g21 => ?_)
            ·
              have g21' := of_decide_eq_true g21
              refine r_op (o_fieldb rfl (off := 4) (by kernel_rfl) rfl) ?_
              refine r_guard rfl rfl rfl (fun _ => ?_) (nc g21)
              refine r_op (o_load1b rfl (by kernel_rfl) rfl rfl rfl) ?_
              refine r_guard rfl rfl rfl (fun _ => ?_) (nc g21)
              refine r_op (o_bin rfl rfl rfl rfl) ?_
              refine r_op (o_pickT rfl rfl g21 rfl) ?_
              refine r_op (o_assign rfl rfl) ?_
              refine r_end ?_
              refine t_ret Tryz.func66 (.tmp rfl .nil) rfl fun E S w u hI hd => ?_
              refine post_mk hI hd ?_ trivial rfl rfl rfl <;> clear hI hd <;> (try clear ih0) <;> (try clear ih1)
              all_goals first | rfl | (refine scB ?_; (try (have qA := iA (by omega))); (try (have qK := kA (by omega))); (try (have qB := any_true (p := badA rs) (l := a0) (m := m) (by assumption) (by unfold badA; grind))); (try (have qC := any_true (p := badA rs) (l := a1) (m := n) (by assumption) (by unfold badA; grind))); (try (have qS := srcA_at (rs := rs) (r := (by assumption).1) (ts := (by assumption).2) (by assumption); have qD := any_true (p := srcA rs) (l := a1) (m := n) (by assumption) (by grind))); clear hs g0 g1 v0 v1; unfold depOk atomsOk; grind)
            ·
              have g21' := of_decide_eq_false g21
              refine r_guard rfl rfl rfl (ncf g21) (fun _ => ?_)
              refine r_guard rfl rfl rfl (ncf g21) (fun _ => ?_)
              refine r_op (o_pickF rfl rfl g21 rfl) ?_
              refine r_op (o_assign rfl rfl) ?_
              refine r_end ?_
              refine t_ret Tryz.func66 (.tmp rfl .nil) rfl fun E S w u hI hd => ?_
              refine post_mk hI hd ?_ trivial rfl rfl rfl <;> clear hI hd <;> (try clear ih0) <;> (try clear ih1)
              all_goals first | rfl | (refine scB ?_; (try (have qA := iA (by omega))); (try (have qK := kA (by omega))); (try (have qB := any_true (p := badA rs) (l := a0) (m := m) (by assumption) (by unfold badA; grind))); (try (have qC := any_true (p := badA rs) (l := a1) (m := n) (by assumption) (by unfold badA; grind))); (try (have qS := srcA_at (rs := rs) (r := (by assumption).1) (ts := (by assumption).2) (by assumption); have qD := any_true (p := srcA rs) (l := a1) (m := n) (by assumption) (by grind))); clear hs g0 g1 v0 v1; unfold depOk atomsOk; grind)
          ·
            have g20' := of_decide_eq_false g20
            refine r_guard rfl rfl rfl (ncf g20) (fun _ => ?_)
            refine r_guard rfl rfl rfl (ncf g20) (fun _ => ?_)
            refine r_op (o_pickF rfl rfl g20 rfl) ?_
            refine r_op (o_move rfl rfl) ?_
            refine r_guard rfl rfl rfl (ncf rfl) (fun _ => ?_)
            refine r_guard rfl rfl rfl (ncf rfl) (fun _ => ?_)
            refine r_guard rfl rfl rfl (ncf rfl) (fun _ => ?_)
            refine r_op (o_pickF rfl rfl rfl rfl) ?_
            refine r_op (o_assign rfl rfl) ?_
            refine r_end ?_
            refine t_ret Tryz.func66 (.tmp rfl .nil) rfl fun E S w u hI hd => ?_
            refine post_mk hI hd ?_ trivial rfl rfl rfl <;> clear hI hd <;> (try clear ih0) <;> (try clear ih1)
            all_goals first | rfl | (refine scB ?_; (try (have qA := iA (by omega))); (try (have qK := kA (by omega))); (try (have qB := any_true (p := badA rs) (l := a0) (m := m) (by assumption) (by unfold badA; grind))); (try (have qC := any_true (p := badA rs) (l := a1) (m := n) (by assumption) (by unfold badA; grind))); (try (have qS := srcA_at (rs := rs) (r := (by assumption).1) (ts := (by assumption).2) (by assumption); have qD := any_true (p := srcA rs) (l := a1) (m := n) (by assumption) (by grind))); clear hs g0 g1 v0 v1; unfold depOk atomsOk; grind)
set_option maxHeartbeats 1000000 in
set_option maxRecDepth 10000 in
theorem c_spec_AreValidDependencies (rs : Rels) (l : List Dep) (hrs : rs.length ≤ 4611686018427387904) (hs : szS (fun (x : (List (Int × (List (Int)))) × (List (Int × (List (Int)))) × Bool × Int × Int) => (szS (fun (x : Int × (List (Int))) => (x.2).length) (x.1)) + (szS (fun (x : Int × (List (Int))) => (x.2).length) (x.2.1))) l ≤ 1048576) : Pu Tryz.prog 32 [.c (.t none (.sl 3 (enS3 encS encI encB) (rs))), .c (.t none (.sl 5 (enS5 (enSl 2 (enS2 encI (enSl 1 encI))) (enSl 2 (enS2 encI (enSl 1 encI))) encB encI encI) (l)))] [] 0 (.c (.t none (.v (.bool (depsOk rs l))))) := by
  refine pu_enter Tryz.func32 rfl (Nat.le_of_ble_eq_true rfl) fun w S => ?_
  have gl := sz_len (f := (fun (x : (List (Int × (List (Int)))) × (List (Int × (List (Int)))) × Bool × Int × Int) => (szS (fun (x : Int × (List (Int))) => (x.2).length) (x.1)) + (szS (fun (x : Int × (List (Int))) => (x.2).length) (x.2.1)))) (l := l)
  refine t_seq ?_
  refine t_region ?_
  refine r_op (o_assign rfl rfl) ?_
  refine r_end ?_
  refine t_seq ?_
  refine t_seq ?_
  refine t_region ?_
  refine r_op (o_assign rfl rfl) ?_
  refine r_end ?_
  refine t_block ?_
  refine t_loopL (fun m => ⟨[(0, some (.c (.t none (.sl 3 (enS3 encS encI encB) (rs))))), (1, some (.c (.t none (.sl 5 (enS5 (enSl 2 (enS2 encI (enSl 1 encI))) (enSl 2 (enS2 encI (enSl 1 encI))) encB encI encI) (l))))), (5, some (.c (.t none (.v (.int .i64 ((m : Int)))))))], [], 0⟩ : Nat → St) (fun m => m ≤ l.length ∧ ∀ j z, j < m → l[j]? = some z → badD rs z = false) (fun m => l.length - m) 0 ⟨⟨rfl, ⟨rfl, ⟨rfl, trivial⟩⟩⟩, trivial, rfl⟩ (by exact ⟨Nat.zero_le _, fun j z h => by omega⟩) ?_
  rintro m hI ih0
  try dsimp only at hI ih0
  obtain ⟨i1, i2⟩ := hI; have iA : l.length ≤ m → l.any (badD rs) = false := fun e => any_false i2 e
  refine t_seq ?_
  refine t_seq ?_
  refine t_region ?_
  refine r_op (o_move rfl rfl) ?_
  refine r_op (o_move rfl rfl) ?_
  refine r_op (o_len rfl rfl rfl) ?_
  refine r_op (o_bin rfl rfl rfl rfl) ?_
  refine r_end ?_
  refine t_cond rfl (fun h1 => ?_) (fun h1 => ?_)
  ·
    have h1' := of_decide_eq_true h1
    refine t_skip ?_
    refine t_seq ?_
    refine t_block ?_
    refine t_seq ?_
    refine t_region ?_
    refine r_op (o_move rfl rfl) ?_
    refine r_op (o_move rfl rfl) ?_
    refine r_op (o_move rfl rfl) ?_
    obtain ⟨z2, hz3, b4⟩ := at_get (xs := l) (n := (m : Int)) (by first | omega | assumption | (have e1 := sz_at (f := (fun (x : (List (Int × (List (Int)))) × (List (Int × (List (Int)))) × Bool × Int × Int) => (szS (fun (x : Int × (List (Int))) => (x.2).length) (x.1)) + (szS (fun (x : Int × (List (Int))) => (x.2).length) (x.2.1)))) (l := l) (m := m) (by assumption); (try dsimp only at e1); omega)) (by first | omega | assumption | (have e1 := sz_at (f := (fun (x : (List (Int × (List (Int)))) × (List (Int × (List (Int)))) × Bool × Int × Int) => (szS (fun (x : Int × (List (Int))) => (x.2).length) (x.1)) + (szS (fun (x : Int × (List (Int))) => (x.2).length) (x.2.1)))) (l := l) (m := m) (by assumption); (try dsimp only at e1); omega))
    refine r_op (o_index rfl (by kernel_rfl) rfl rfl b4 hz3) ?_
    refine r_op (o_loadA rfl (n := 5) (by kernel_rfl) (by kernel_rfl) rfl rfl) ?_
    refine r_op (o_call 0 0 false (Go.Proofs.enters_of Tryz.func66 (by kernel_rfl) rfl) (c_spec_IsValidDependency (rs) (z2.1) (z2.2.1) (z2.2.2.1) (z2.2.2.2.1) (z2.2.2.2.2) (by first | omega | assumption | (have e1 := sz_at (f := (fun (x : (List (Int × (List (Int)))) × (List (Int × (List (Int)))) × Bool × Int × Int) => (szS (fun (x : Int × (List (Int))) => (x.2).length) (x.1)) + (szS (fun (x : Int × (List (Int))) => (x.2).length) (x.2.1)))) (l := l) (m := m) (by assumption); (try dsimp only at e1); omega)) (by first | omega | assumption | (have e1 := sz_at (f := (fun (x : (List (Int × (List (Int)))) × (List (Int × (List (Int)))) × Bool × Int × Int) => (szS (fun (x : Int × (List (Int))) => (x.2).length) (x.1)) + (szS (fun (x : Int × (List (Int))) => (x.2).length) (x.2.1)))) (l := l) (m := m) (by assumption); (try dsimp only at e1); omega))) rfl (.cons rfl (.c .t0) (.cons rfl (.agg (.cons .t0 (.cons .t0 (.cons .t0 (.cons .t0 (.cons .t0 .nil)))))) .nil)) rfl rfl rfl) ?_
    refine r_op (o_not rfl rfl) ?_
    refine r_end ?_
    refine t_cond rfl (fun h5 => ?_) (fun h5 => ?_)
    ·
      have h5' := (bnt h5)
      refine t_seq ?_
      refine t_region ?_
      refine r_op (o_assign rfl rfl) ?_
      refine r_end ?_
      refine t_ret Tryz.func32 (.tmp rfl .nil) rfl fun E S w u hI hd => ?_
      refine post_mk hI hd ?_ trivial rfl rfl rfl <;> clear hI hd <;> (try clear ih0)
      all_goals first | rfl | (refine scB ?_; (try (have qA := iA (by omega))); (try (have qB := any_true (p := badD rs) (l := l) (m := m) hz3 (by unfold badD; grind))); clear hs gl; unfold depsOk; grind)
    ·
      have h5' := (bnf h5)
      refine t_skip ?_
      refine t_endblock ?_
      refine t_region ?_
      refine r_op (o_move rfl rfl) ?_
      refine r_op (o_bin rfl rfl rfl rfl) ?_
      refine r_op (o_assign rfl rfl) ?_
      refine r_end ?_
      refine t_le ?_ (ih0 (m + 1) (by (try dsimp only); omega) (by (try dsimp only); exact ⟨by omega, no_step i2 (by assumption) rfl (by unfold badD; grind)⟩))
      exact ⟨⟨rfl, ⟨rfl, ⟨(eqI (wr64 (by omega) (by omega))), trivial⟩⟩⟩, trivial, rfl⟩
  ·
    have h1' := of_decide_eq_false h1
    refine t_exit rfl ?_
    refine t_seq ?_
    refine t_region ?_
    refine r_op (o_move rfl rfl) ?_
    refine r_op (o_call 0 0 false (Go.Proofs.enters_of Tryz.func67 (by kernel_rfl) rfl) (c_spec_AreValidRelations (rs) (by first | omega | assumption | (have e1 := sz_at (f := (fun (x : (List (Int × (List (Int)))) × (List (Int × (List (Int)))) × Bool × Int × Int) => (szS (fun (x : Int × (List (Int))) => (x.2).length) (x.1)) + (szS (fun (x : Int × (List (Int))) => (x.2).length) (x.2.1)))) (l := l) (m := m) (by assumption); (try dsimp only at e1); omega))) rfl (.cons rfl (.c .t0) .nil) rfl rfl rfl) ?_
    refine r_op (o_move rfl rfl) ?_
    refine r_guard rfl rfl rfl (fun g6 => ?_) (fun g6 => ?_)
    ·
      have g6' := g6
      refine r_op (o_move rfl rfl) ?_
      refine r_guard rfl rfl rfl (fun _ => ?_) (nc g6)
      refine r_op (o_len rfl rfl rfl) ?_
      refine r_guard rfl rfl rfl (fun _ => ?_) (nc g6)
      refine r_op (o_bin rfl rfl rfl rfl) ?_
      refine r_op (o_pickT rfl rfl g6 rfl) ?_
      refine r_op (o_assign rfl rfl) ?_
      refine r_end ?_
      refine t_ret Tryz.func32 (.tmp rfl .nil) rfl fun E S w u hI hd => ?_
      refine post_mk hI hd ?_ trivial rfl rfl rfl <;> clear hI hd <;> (try clear ih0)
      all_goals first | rfl | (refine scB ?_; (try (have qA := iA (by omega))); (try (have qB := any_true (p := badD rs) (l := l) (m := m) (by assumption) (by unfold badD; grind))); clear hs gl; unfold depsOk; grind)
    ·
      have g6' := g6
      refine r_guard rfl rfl rfl (ncf g6) (fun _ => ?_)
      refine r_guard rfl rfl rfl (ncf g6) (fun _ => ?_)
      refine r_op (o_pickF rfl rfl g6 rfl) ?_
      refine r_op (o_assign rfl rfl) ?_
      refine r_end ?_
      refine t_ret Tryz.func32 (.tmp rfl .nil) rfl fun E S w u hI hd => ?_
      refine post_mk hI hd ?_ trivial rfl rfl rfl <;> clear hI hd <;> (try clear ih0)
      all_goals first | rfl | (refine scB ?_; (try (have qA := iA (by omega))); (try (have qB := any_true (p := badD rs) (l := l) (m := m) (by assumption) (by unfold badD; grind))); clear hs gl; unfold depsOk; grind)
set_option maxHeartbeats 1000000 in
set_option maxRecDepth 10000 in
theorem c_spec_FrontierVariables (a0 : List (Int × (List (Int)))) (a1 : List (Int × (List (Int)))) (a2 : Bool) (a3 : Int) (a4 : Int) (hs : szS (fun (x : Int × (List (Int))) => (x.2).length) a0 + szS (fun (x : Int × (List (Int))) => (x.2).length) a1 ≤ 1048576) : Pu Tryz.prog 121 [.agg [.t none (.sl 2 (enS2 encI (enSl 1 encI)) (a0)), .t none (.sl 2 (enS2 encI (enSl 1 encI)) (a1)), .t none (.v (.bool (a2))), .t none (.v (.int .i64 (a3))), .t none (.v (.int .i64 (a4)))]] [(1, some (.row none 3 true 1 encI (selV true (setI (varsL a0)) (setI (varsL a1)))))] 4 (.c (.own 1)) := by
  refine pu_enter Tryz.func121 rfl (Nat.le_of_ble_eq_true rfl) fun w S => ?_
  have g0 := sz_len (f := (fun (x : Int × (List (Int))) => (x.2).length)) (l := a0); have g1 := sz_len (f := (fun (x : Int × (List (Int))) => (x.2).length)) (l := a1); have v0 := setI_len (varsL a0); have v1 := varsL_size a0; have v2 := setI_len (varsL a1); have v3 := varsL_size a1
  refine t_seq ?_
  refine t_region ?_
  refine r_op (o_box 0 rfl rfl rfl rfl) ?_
  refine r_op (o_assign rfl rfl) ?_
  refine r_end ?_
  refine t_seq ?_
  refine t_region ?_
  refine r_op (o_lit0 1 (e := 3) (sz := 1) (zs := [.int .i64 (0)]) encI rfl rfl (by kernel_rfl) rfl) ?_
  refine r_op (o_assign rfl rfl) ?_
  refine r_end ?_
  refine t_seq ?_
  refine t_region ?_
  refine r_op (o_fieldb rfl (off := 0) (by kernel_rfl) rfl) ?_
  refine r_op (o_load1b rfl (by kernel_rfl) rfl rfl rfl) ?_
  refine r_op (o_call 2 3 false (Go.Proofs.enters_of Tryz.func111 (by kernel_rfl) rfl) (c_spec_Variables (a0) (by first | omega | (simp; omega))) rfl (.cons rfl (.c .t0) .nil) rfl rfl rfl) ?_
  refine r_op (o_assign rfl rfl) ?_
  refine r_end ?_
  refine t_seq ?_
  refine t_region ?_
  refine r_op (o_fieldb rfl (off := 1) (by kernel_rfl) rfl) ?_
  refine r_op (o_load1b rfl (by kernel_rfl) rfl rfl rfl) ?_
  refine r_op (o_call 3 4 false (Go.Proofs.enters_of Tryz.func111 (by kernel_rfl) rfl) (c_spec_Variables (a1) (by first | omega | (simp; omega))) rfl (.cons rfl (.c .t0) .nil) rfl rfl rfl) ?_
  refine r_op (o_assign rfl rfl) ?_
  refine r_end ?_
  refine t_seq ?_
  refine t_seq ?_
  refine t_region ?_
  refine r_op (o_assign rfl rfl) ?_
  refine r_end ?_
  refine t_block ?_
  refine t_loopL (fun m => ⟨[(2, some (.c (.t none (.v (.slice none 0 0))))), (3, some (.c (.own 1))), (4, some (.c (.own 2))), (5, some (.c (.own 3))), (6, some (.c (.t none (.v (.int .i64 ((m : Int)))))))], [(0, some (.box [.t none (.sl 2 (enS2 encI (enSl 1 encI)) (a0)), .t none (.sl 2 (enS2 encI (enSl 1 encI)) (a1)), .t none (.v (.bool (a2))), .t none (.v (.int .i64 (a3))), .t none (.v (.int .i64 (a4)))])), (1, some (.row none 3 true 1 encI (((setI (varsL a1)).take m).filter (fun x => hasI (setI (varsL a0)) x == true)))), (2, some (.row none 3 true 1 encI (setI (varsL (a0))))), (3, some (.row none 3 true 1 encI (setI (varsL (a1)))))], 4⟩ : Nat → St) (fun m => m ≤ (setI (varsL a1)).length) (fun m => (setI (varsL a1)).length - m) 0 ⟨⟨rfl, ⟨rfl, ⟨rfl, ⟨rfl, ⟨rfl, trivial⟩⟩⟩⟩⟩, ⟨rfl, ⟨rfl, ⟨rfl, ⟨rfl, trivial⟩⟩⟩⟩, rfl⟩ (by exact Nat.zero_le _) ?_
  rintro m hI ih0
  try dsimp only at hI ih0
  have i1 := hI; have fl := filt_len (p := (fun x => hasI (setI (varsL a0)) x == true)) (l := setI (varsL a1)) (m := m)
  refine t_seq ?_
  refine t_seq ?_
  refine t_region ?_
  refine r_op (o_move rfl rfl) ?_
  refine r_op (o_move rfl rfl) ?_
  refine r_op (o_leno rfl rfl rfl rfl) ?_
  refine r_op (o_bin rfl rfl rfl rfl) ?_
  refine r_end ?_
  refine t_cond rfl (fun h1 => ?_) (fun h1 => ?_)
  ·
    have h1' := of_decide_eq_true h1
    refine t_skip ?_
    refine t_seq ?_
    refine t_block ?_
    refine t_seq ?_
    refine t_region ?_
    refine r_op (o_move rfl rfl) ?_
    refine r_op (o_move rfl rfl) ?_
    refine r_op (o_move rfl rfl) ?_
    obtain ⟨z2, hz3, b4⟩ := at_get (xs := setI (varsL (a1))) (n := (m : Int)) (by first | omega | (simp; omega)) (by first | omega | (simp; omega))
    refine r_op (o_indexo rfl (by kernel_rfl) rfl rfl rfl b4 (at_lt b4 hz3)) ?_
    refine r_op (o_load1o rfl (by kernel_rfl) rfl rfl rfl hz3) ?_
    refine r_op (o_call 4 4 false (Go.Proofs.enters_of Tryz.func112 (by kernel_rfl) rfl) (c_spec_l4Has (setI (varsL (a0))) (z2) (by first | omega | (simp; omega))) rfl (.cons rfl (.c (.own rfl)) (.cons rfl (.c .t0) .nil)) rfl rfl rfl) ?_
    refine r_end ?_
    refine t_cond rfl (fun h5 => ?_) (fun h5 => ?_)
    ·
      have h5' := h5
      refine t_region ?_
      refine r_op (o_move rfl rfl) ?_
      refine r_op (o_move rfl rfl) ?_
      refine r_op (o_move rfl rfl) ?_
      refine r_op (o_indexo rfl (by kernel_rfl) rfl rfl rfl b4 (at_lt b4 hz3)) ?_
      refine r_op (o_load1o rfl (by kernel_rfl) rfl rfl rfl hz3) ?_
      refine r_op (o_litS 4 (e := 3) (sz := 1) (zs := [.int .i64 (0)]) rfl rfl (by kernel_rfl) rfl rfl rfl rfl rfl) ?_
      refine r_op (o_append 1 (e := 3) (sz := 1) (by' := 8) (z2) rfl (by kernel_rfl) rfl rfl rfl rfl rfl rfl (.cons .sc .nil) rfl (by first | omega | (simp; omega)) (by first | omega | (simp; omega))) ?_
      refine r_op (o_assign rfl rfl) ?_
      refine r_end ?_
      refine t_endblock ?_
      refine t_region ?_
      refine r_op (o_move rfl rfl) ?_
      refine r_op (o_bin rfl rfl rfl rfl) ?_
      refine r_op (o_assign rfl rfl) ?_
      refine r_end ?_
      refine t_le ?_ (ih0 (m + 1) (by (try dsimp only); omega) (by (try dsimp only); omega))
      exact ⟨⟨rfl, ⟨rfl, ⟨rfl, ⟨rfl, ⟨(eqI (wr64 (by omega) (by omega))), trivial⟩⟩⟩⟩⟩, ⟨rfl, ⟨(eqR (by first | (rw [filt_more (by assumption) (by simp_all)]; done) | (rw [filt_same (by assumption) (by simp_all)]; done))), ⟨rfl, ⟨rfl, trivial⟩⟩⟩⟩, rfl⟩
    ·
      have h5' := h5
      refine t_skip ?_
      refine t_endblock ?_
      refine t_region ?_
      refine r_op (o_move rfl rfl) ?_
      refine r_op (o_bin rfl rfl rfl rfl) ?_
      refine r_op (o_assign rfl rfl) ?_
      refine r_end ?_
      refine t_le ?_ (ih0 (m + 1) (by (try dsimp only); omega) (by (try dsimp only); omega))
      exact ⟨⟨rfl, ⟨rfl, ⟨rfl, ⟨rfl, ⟨(eqI (wr64 (by omega) (by omega))), trivial⟩⟩⟩⟩⟩, ⟨rfl, ⟨(eqR (by first | (rw [filt_more (by assumption) (by simp_all)]; done) | (rw [filt_same (by assumption) (by simp_all)]; done))), ⟨rfl, ⟨rfl, trivial⟩⟩⟩⟩, rfl⟩
  ·
    have h1' := of_decide_eq_false h1
    refine t_exit rfl ?_
    refine t_seq ?_
    refine t_region ?_
    refine r_op (o_move rfl rfl) ?_
    refine r_op (o_assign rfl rfl) ?_
    refine r_end ?_
    refine t_ret Tryz.func121 (.tmp rfl .nil) rfl fun E S w u hI hd => ?_
    refine post_mk hI hd ?_ ⟨eqR ?_, trivial⟩ rfl rfl rfl <;> clear hI hd <;> (try clear ih0)
    all_goals first | rfl | (first | rfl | (rw [filt_end (by omega)]; rfl))
set_option maxHeartbeats 1000000 in
set_option maxRecDepth 10000 in
theorem c_spec_ExistentialVariables (a0 : List (Int × (List (Int)))) (a1 : List (Int × (List (Int)))) (a2 : Bool) (a3 : Int) (a4 : Int) (hs : szS (fun (x : Int × (List (Int))) => (x.2).length) a0 + szS (fun (x : Int × (List (Int))) => (x.2).length) a1 ≤ 1048576) : Pu Tryz.prog 122 [.agg [.t none (.sl 2 (enS2 encI (enSl 1 encI)) (a0)), .t none (.sl 2 (enS2 encI (enSl 1 encI)) (a1)), .t none (.v (.bool (a2))), .t none (.v (.int .i64 (a3))), .t none (.v (.int .i64 (a4)))]] [(1, some (.row none 3 true 1 encI (selV false (setI (varsL a0)) (setI (varsL a1)))))] 4 (.c (.own 1)) := by
  refine pu_enter Tryz.func122 rfl (Nat.le_of_ble_eq_true rfl) fun w S => ?_
  have g0 := sz_len (f := (fun (x : Int × (List (Int))) => (x.2).length)) (l := a0); have g1 := sz_len (f := (fun (x : Int × (List (Int))) => (x.2).length)) (l := a1); have v0 := setI_len (varsL a0); have v1 := varsL_size a0; have v2 := setI_len (varsL a1); have v3 := varsL_size a1
  refine t_seq ?_
  refine t_region ?_
  refine r_op (o_box 0 rfl rfl rfl rfl) ?_
  refine r_op (o_assign rfl rfl) ?_
  refine r_end ?_
  refine t_seq ?_
  refine t_region ?_
  refine r_op (o_lit0 1 (e := 3) (sz := 1) (zs := [.int .i64 (0)]) encI rfl rfl (by kernel_rfl) rfl) ?_
  refine r_op (o_assign rfl rfl) ?_
  refine r_end ?_
  refine t_seq ?_
  refine t_region ?_
  refine r_op (o_fieldb rfl (off := 0) (by kernel_rfl) rfl) ?_
  refine r_op (o_load1b rfl (by kernel_rfl) rfl rfl rfl) ?_
  refine r_op (o_call 2 3 false (Go.Proofs.enters_of Tryz.func111 (by kernel_rfl) rfl) (c_spec_Variables (a0) (by first | omega | (simp; omega))) rfl (.cons rfl (.c .t0) .nil) rfl rfl rfl) ?_
  refine r_op (o_assign rfl rfl) ?_
  refine r_end ?_
  refine t_seq ?_
  refine t_region ?_
  refine r_op (o_fieldb rfl (off := 1) (by kernel_rfl) rfl) ?_
  refine r_op (o_load1b rfl (by kernel_rfl) rfl rfl rfl) ?_
  refine r_op (o_call 3 4 false (Go.Proofs.enters_of Tryz.func111 (by kernel_rfl) rfl) (c_spec_Variables (a1) (by first | omega | (simp; omega))) rfl (.cons rfl (.c .t0) .nil) rfl rfl rfl) ?_
  refine r_op (o_assign rfl rfl) ?_
  refine r_end ?_
  refine t_seq ?_
  refine t_seq ?_
  refine t_region ?_
  refine r_op (o_assign rfl rfl) ?_
  refine r_end ?_
  refine t_block ?_
  refine t_loopL (fun m => ⟨[(2, some (.c (.t none (.v (.slice none 0 0))))), (3, some (.c (.own 1))), (4, some (.c (.own 2))), (5, some (.c (.own 3))), (6, some (.c (.t none (.v (.int .i64 ((m : Int)))))))], [(0, some (.box [.t none (.sl 2 (enS2 encI (enSl 1 encI)) (a0)), .t none (.sl 2 (enS2 encI (enSl 1 encI)) (a1)), .t none (.v (.bool (a2))), .t none (.v (.int .i64 (a3))), .t none (.v (.int .i64 (a4)))])), (1, some (.row none 3 true 1 encI (((setI (varsL a1)).take m).filter (fun x => hasI (setI (varsL a0)) x == false)))), (2, some (.row none 3 true 1 encI (setI (varsL (a0))))), (3, some (.row none 3 true 1 encI (setI (varsL (a1)))))], 4⟩ : Nat → St) (fun m => m ≤ (setI (varsL a1)).length) (fun m => (setI (varsL a1)).length - m) 0 ⟨⟨rfl, ⟨rfl, ⟨rfl, ⟨rfl, ⟨rfl, trivial⟩⟩⟩⟩⟩, ⟨rfl, ⟨rfl, ⟨rfl, ⟨rfl, trivial⟩⟩⟩⟩, rfl⟩ (by exact Nat.zero_le _) ?_
  rintro m hI ih0
  try dsimp only at hI ih0
  have i1 := hI; have fl := filt_len (p := (fun x => hasI (setI (varsL a0)) x == false)) (l := setI (varsL a1)) (m := m)
  refine t_seq ?_
  refine t_seq ?_
  refine t_region ?_
  refine r_op (o_move rfl rfl) ?_
  refine r_op (o_move rfl rfl) ?_
  refine r_op (o_leno rfl rfl rfl rfl) ?_
  refine r_op (o_bin rfl rfl rfl rfl) ?_
  refine r_end ?_
  refine t_cond rfl (fun h1 => ?_) (fun h1 => ?_)
  ·
    have h1' := of_decide_eq_true h1
    refine t_skip ?_
    refine t_seq ?_
    refine t_block ?_
    refine t_seq ?_
    refine t_region ?_
    refine r_op (o_move rfl rfl) ?_
    refine r_op (o_move rfl rfl) ?_
    refine r_op (o_move rfl rfl) ?_
    obtain ⟨z2, hz3, b4⟩ := at_get (xs := setI (varsL (a1))) (n := (m : Int)) (by first | omega | (simp; omega)) (by first | omega | (simp; omega))
    refine r_op (o_indexo rfl (by kernel_rfl) rfl rfl rfl b4 (at_lt b4 hz3)) ?_
    refine r_op (o_load1o rfl (by kernel_rfl) rfl rfl rfl hz3) ?_
    refine r_op (o_call 4 4 false (Go.Proofs.enters_of Tryz.func112 (by kernel_rfl) rfl) (c_spec_l4Has (setI (varsL (a0))) (z2) (by first | omega | (simp; omega))) rfl (.cons rfl (.c (.own rfl)) (.cons rfl (.c .t0) .nil)) rfl rfl rfl) ?_
    refine r_op (o_not rfl rfl) ?_
    refine r_end ?_
    refine t_cond rfl (fun h5 => ?_) (fun h5 => ?_)
    ·
      have h5' := (bnt h5)
      refine t_region ?_
      refine r_op (o_move rfl rfl) ?_
      refine r_op (o_move rfl rfl) ?_
      refine r_op (o_move rfl rfl) ?_
      refine r_op (o_indexo rfl (by kernel_rfl) rfl rfl rfl b4 (at_lt b4 hz3)) ?_
      refine r_op (o_load1o rfl (by kernel_rfl) rfl rfl rfl hz3) ?_
      refine r_op (o_litS 4 (e := 3) (sz := 1) (zs := [.int .i64 (0)]) rfl rfl (by kernel_rfl) rfl rfl rfl rfl rfl) ?_
      refine r_op (o_append 1 (e := 3) (sz := 1) (by' := 8) (z2) rfl (by kernel_rfl) rfl rfl rfl rfl rfl rfl (.cons .sc .nil) rfl (by first | omega | (simp; omega)) (by first | omega | (simp; omega))) ?_
      refine r_op (o_assign rfl rfl) ?_
      refine r_end ?_
      refine t_endblock ?_
      refine t_region ?_
      refine r_op (o_move rfl rfl) ?_
      refine r_op (o_bin rfl rfl rfl rfl) ?_
      refine r_op (o_assign rfl rfl) ?_
      refine r_end ?_
      refine t_le ?_ (ih0 (m + 1) (by (try dsimp only); omega) (by (try dsimp only); omega))
      exact ⟨⟨rfl, ⟨rfl, ⟨rfl, ⟨rfl, ⟨(eqI (wr64 (by omega) (by omega))), trivial⟩⟩⟩⟩⟩, ⟨rfl, ⟨(eqR (by first | (rw [filt_more (by assumption) (by simp_all)]; done) | (rw [filt_same (by assumption) (by simp_all)]; done))), ⟨rfl, ⟨rfl, trivial⟩⟩⟩⟩, rfl⟩
    ·
      have h5' := (bnf h5)
      refine t_skip ?_
      refine t_endblock ?_
      refine t_region ?_
      refine r_op (o_move rfl rfl) ?_
      refine r_op (o_bin rfl rfl rfl rfl) ?_
      refine r_op (o_assign rfl rfl) ?_
      refine r_end ?_
      refine t_le ?_ (ih0 (m + 1) (by (try dsimp only); omega) (by (try dsimp only); omega))
      exact ⟨⟨rfl, ⟨rfl, ⟨rfl, ⟨rfl, ⟨(eqI (wr64 (by omega) (by omega))), trivial⟩⟩⟩⟩⟩, ⟨rfl, ⟨(eqR (by first | (rw [filt_more (by assumption) (by simp_all)]; done) | (rw [filt_same (by assumption) (by simp_all)]; done))), ⟨rfl, ⟨rfl, trivial⟩⟩⟩⟩, rfl⟩
  ·
    have h1' := of_decide_eq_false h1
    refine t_exit rfl ?_
    refine t_seq ?_
    refine t_region ?_
    refine r_op (o_move rfl rfl) ?_
    refine r_op (o_assign rfl rfl) ?_
    refine r_end ?_
    refine t_ret Tryz.func122 (.tmp rfl .nil) rfl fun E S w u hI hd => ?_
    refine post_mk hI hd ?_ ⟨eqR ?_, trivial⟩ rfl rfl rfl <;> clear hI hd <;> (try clear ih0)
    all_goals first | rfl | (first | rfl | (rw [filt_end (by omega)]; rfl))
set_option maxHeartbeats 1000000 in
set_option maxRecDepth 10000 in
theorem c_spec_PositionIndex (rs : Rels) (r i : Int) (hrs : rs.length ≤ 4611686018427387904) : Pu Tryz.prog 81 [.c (.t none (.sl 3 (enS3 encS encI encB) (rs))), .c (.t none (.v (.int .i64 (r)))), .c (.t none (.v (.int .i64 (i))))] [] 0 (.c (.t none (.v (.int .i64 (posIx rs r i))))) := by
  refine pu_enter Tryz.func81 rfl (Nat.le_of_ble_eq_true rfl) fun w S => ?_
  refine t_seq ?_
  refine t_region ?_
  refine r_op (o_assign rfl rfl) ?_
  refine r_end ?_
  refine t_seq ?_
  refine t_seq ?_
  refine t_region ?_
  refine r_op (o_move rfl rfl) ?_
  refine r_op (o_call 0 0 false (Go.Proofs.enters_of Tryz.func67 (by kernel_rfl) rfl) (c_spec_AreValidRelations (rs) (by first | omega | assumption | (simp only [IntKind.wrap_i64]; omega) | (simp only [IntKind.wrap_i64] at *; omega))) rfl (.cons rfl (.c .t0) .nil) rfl rfl rfl) ?_
  refine r_op (o_not rfl rfl) ?_
  refine r_op (o_move rfl rfl) ?_
  refine r_guard rfl rfl rfl (fun g1 => ?_) (fun g1 => ?_)
  ·
    have g1' := (bnf g1)
    refine r_op (o_move rfl rfl) ?_
    refine r_guard rfl rfl rfl (fun _ => ?_) (ncf g1)
    refine r_op (o_move rfl rfl) ?_
    refine r_guard rfl rfl rfl (fun _ => ?_) (ncf g1)
    refine r_op (o_len rfl rfl rfl) ?_
    refine r_guard rfl rfl rfl (fun _ => ?_) (ncf g1)
    refine r_op (o_bin rfl rfl rfl rfl) ?_
    refine r_guard rfl rfl rfl (fun _ => ?_) (ncf g1)
    refine r_op (o_call 0 0 false (Go.Proofs.enters_of Tryz.func109 (by kernel_rfl) rfl) (c_spec_l1In (r) (0) (IntKind.i64.wrap (((rs).length : Int) - 1))) rfl (.cons rfl (.c .t0) (.cons rfl (.c .t0) (.cons rfl (.c .t0) .nil))) rfl rfl rfl) ?_
    refine r_guard rfl rfl rfl (fun _ => ?_) (ncf g1)
    refine r_op (o_not rfl rfl) ?_
    refine r_op (o_pickF rfl rfl g1 rfl) ?_
    refine r_op (o_move rfl rfl) ?_
    refine r_guard rfl rfl rfl (fun g2 => ?_) (fun g2 => ?_)
    ·
      have g2' := of_decide_eq_true (bnf g2)
      refine r_op (o_move rfl rfl) ?_
      refine r_guard rfl rfl rfl (fun _ => ?_) (ncf g2)
      refine r_op (o_move rfl rfl) ?_
      refine r_guard rfl rfl rfl (fun _ => ?_) (ncf g2)
      refine r_op (o_move rfl rfl) ?_
      refine r_guard rfl rfl rfl (fun _ => ?_) (ncf g2)
      obtain ⟨z3, hz4, b5⟩ := at_get (xs := rs) (n := r) (by first | omega | assumption | (simp only [IntKind.wrap_i64]; omega) | (simp only [IntKind.wrap_i64] at *; omega)) (by first | omega | assumption | (simp only [IntKind.wrap_i64]; omega) | (simp only [IntKind.wrap_i64] at *; omega))
      refine r_op (o_index rfl (by kernel_rfl) rfl rfl b5 hz4) ?_
      refine r_guard rfl rfl rfl (fun _ => ?_) (ncf g2)
      refine r_op (o_field rfl (off := 1) (by kernel_rfl) rfl) ?_
      refine r_guard rfl rfl rfl (fun _ => ?_) (ncf g2)
      refine r_op (o_load1 rfl (by kernel_rfl) rfl rfl) ?_
      refine r_guard rfl rfl rfl (fun _ => ?_) (ncf g2)
      refine r_op (o_bin rfl rfl rfl rfl) ?_
      refine r_guard rfl rfl rfl (fun _ => ?_) (ncf g2)
      refine r_op (o_call 0 0 false (Go.Proofs.enters_of Tryz.func109 (by kernel_rfl) rfl) (c_spec_l1In (i) (0) (IntKind.i64.wrap ((z3.2.1) - 1))) rfl (.cons rfl (.c .t0) (.cons rfl (.c .t0) (.cons rfl (.c .t0) .nil))) rfl rfl rfl) ?_
      refine r_guard rfl rfl rfl (fun _ => ?_) (ncf g2)
      refine r_op (o_not rfl rfl) ?_
      refine r_op (o_pickF rfl rfl g2 rfl) ?_
      refine r_end ?_
      refine t_cond rfl (fun h6 => ?_) (fun h6 => ?_)
      ·
        have h6' := of_decide_eq_false (bnt h6)
        refine t_seq ?_
        refine t_region ?_
        refine r_op (o_assign rfl rfl) ?_
        refine r_end ?_
        refine t_ret Tryz.func81 (.tmp rfl .nil) rfl fun E S w u hI hd => ?_
        refine post_mk hI hd ?_ trivial rfl rfl rfl <;> clear hI hd <;> (try clear ih0)
        all_goals first | rfl | (refine scI ?_; (try (have ra := (rels_ok (l := rs) (by assumption)).2 _ (List.mem_of_getElem? hz4))); first | exact posIx_no1 (by assumption) | exact posIx_no2 (by (simp only [IntKind.wrap_i64] at *; omega)) | exact posIx_no3 hz4 (by first | omega | (simp only [IntKind.wrap_i64] at *; omega)) | (rw [posIx_yes (by assumption) (by (simp only [IntKind.wrap_i64] at *; omega)) hz4 (by first | omega | (simp only [IntKind.wrap_i64] at *; omega))]; (have em : m = r.toNat := by omega); rw [em, wr64 (by have := sumA_bnd (l := rs) (by assumption) r.toNat; omega) (by have := sumA_bnd (l := rs) (by assumption) r.toNat; omega)]))
      ·
        have h6' := of_decide_eq_true (bnf h6)
        refine t_skip ?_
        refine t_seq ?_
        refine t_region ?_
        refine r_op (o_assign rfl rfl) ?_
        refine r_end ?_
        refine t_seq ?_
        refine t_seq ?_
        refine t_region ?_
        refine r_op (o_assign rfl rfl) ?_
        refine r_end ?_
        refine t_block ?_
        refine t_loopL (fun m => ⟨[(0, some (.c (.t none (.sl 3 (enS3 encS encI encB) (rs))))), (1, some (.c (.t none (.v (.int .i64 (r)))))), (2, some (.c (.t none (.v (.int .i64 (i)))))), (6, some (.c (.t none (.v (.int .i64 (0)))))), (7, some (.c (.t none (.v (.int .i64 (sumA (rs.take m))))))), (8, some (.c (.t none (.v (.int .i64 ((m : Int)))))))], [], 0⟩ : Nat → St) (fun m => m ≤ r.toNat ∧ r.toNat ≤ rs.length) (fun m => r.toNat - m) 0 ⟨⟨rfl, ⟨rfl, ⟨rfl, ⟨rfl, ⟨(eqI rfl), ⟨rfl, trivial⟩⟩⟩⟩⟩⟩, trivial, rfl⟩ (by exact ⟨Nat.zero_le _, by (simp only [IntKind.wrap_i64] at *; omega)⟩) ?_
        rintro m hI ih0
        try dsimp only at hI ih0
        obtain ⟨i1, i2⟩ := hI; have sb := sumA_bnd (l := rs) (by assumption) m; have ra := (rels_ok (l := rs) (by assumption)).2 _ (List.mem_of_getElem? hz4); have iz : 0 ≤ i ∧ i ≤ 3 := (by (simp only [IntKind.wrap_i64] at *; omega)); have rz : 0 ≤ r ∧ r < rs.length := (by (simp only [IntKind.wrap_i64] at *; omega))
        refine t_seq ?_
        refine t_seq ?_
        refine t_region ?_
        refine r_op (o_move rfl rfl) ?_
        refine r_op (o_move rfl rfl) ?_
        refine r_op (o_bin rfl rfl rfl rfl) ?_
        refine r_end ?_
        refine t_cond rfl (fun h7 => ?_) (fun h7 => ?_)
        ·
          have h7' := of_decide_eq_true h7
          refine t_skip ?_
          refine t_seq ?_
          refine t_block ?_
          refine t_region ?_
          refine r_op (o_move rfl rfl) ?_
          refine r_op (o_move rfl rfl) ?_
          refine r_op (o_move rfl rfl) ?_
          obtain ⟨z8, hz9, b10⟩ := at_get (xs := rs) (n := (m : Int)) (by first | omega | assumption | (simp only [IntKind.wrap_i64]; omega) | (simp only [IntKind.wrap_i64] at *; omega)) (by first | omega | assumption | (simp only [IntKind.wrap_i64]; omega) | (simp only [IntKind.wrap_i64] at *; omega))
          refine r_op (o_index rfl (by kernel_rfl) rfl rfl b10 hz9) ?_
          refine r_op (o_field rfl (off := 1) (by kernel_rfl) rfl) ?_
          refine r_op (o_load1 rfl (by kernel_rfl) rfl rfl) ?_
          refine r_op (o_bin rfl rfl rfl rfl) ?_
          refine r_op (o_assign rfl rfl) ?_
          refine r_end ?_
          refine t_endblock ?_
          refine t_region ?_
          refine r_op (o_move rfl rfl) ?_
          refine r_op (o_bin rfl rfl rfl rfl) ?_
          refine r_op (o_assign rfl rfl) ?_
          refine r_end ?_
          have ra2 := (rels_ok (l := rs) (by assumption)).2 _ (List.mem_of_getElem? hz9)
          refine t_le ?_ (ih0 (m + 1) (by (try dsimp only); omega) (by (try dsimp only); exact ⟨by omega, i2⟩))
          exact ⟨⟨rfl, ⟨rfl, ⟨rfl, ⟨rfl, ⟨(eqI (by rw [sumA_step (m := m) hz9, wr64 (by omega) (by omega)])), ⟨(eqI (wr64 (by omega) (by omega))), trivial⟩⟩⟩⟩⟩⟩, trivial, rfl⟩
        ·
          have h7' := of_decide_eq_false h7
          refine t_exit rfl ?_
          refine t_seq ?_
          refine t_region ?_
          refine r_op (o_move rfl rfl) ?_
          refine r_op (o_move rfl rfl) ?_
          refine r_op (o_bin rfl rfl rfl rfl) ?_
          refine r_op (o_assign rfl rfl) ?_
          refine r_end ?_
          refine t_ret Tryz.func81 (.tmp rfl .nil) rfl fun E S w u hI hd => ?_
          refine post_mk hI hd ?_ trivial rfl rfl rfl <;> clear hI hd <;> (try clear ih0)
          all_goals first | rfl | (refine scI ?_; (try (have ra := (rels_ok (l := rs) (by assumption)).2 _ (List.mem_of_getElem? hz4))); first | exact posIx_no1 (by assumption) | exact posIx_no2 (by (simp only [IntKind.wrap_i64] at *; omega)) | exact posIx_no3 hz4 (by first | omega | (simp only [IntKind.wrap_i64] at *; omega)) | (rw [posIx_yes (by assumption) (by (simp only [IntKind.wrap_i64] at *; omega)) hz4 (by first | omega | (simp only [IntKind.wrap_i64] at *; omega))]; (have em : m = r.toNat := by omega); rw [em, wr64 (by have := sumA_bnd (l := rs) (by assumption) r.toNat; omega) (by have := sumA_bnd (l := rs) (by assumption) r.toNat; omega)]))
    ·
      have g2' := of_decide_eq_false (bnt g2)
      refine r_guard rfl rfl rfl (nc g2) (fun _ => ?_)
      refine r_guard rfl rfl rfl (nc g2) (fun _ => ?_)
      refine r_guard rfl rfl rfl (nc g2) (fun _ => ?_)
      refine r_guard rfl rfl rfl (nc g2) (fun _ => ?_)
      refine r_guard rfl rfl rfl (nc g2) (fun _ => ?_)
      refine r_guard rfl rfl rfl (nc g2) (fun _ => ?_)
      refine r_guard rfl rfl rfl (nc g2) (fun _ => ?_)
      refine r_guard rfl rfl rfl (nc g2) (fun _ => ?_)
      refine r_op (o_pickT rfl rfl g2 rfl) ?_
      refine r_end ?_
      refine t_cond rfl (fun _ => ?_) (nc rfl)
      refine t_seq ?_
      refine t_region ?_
      refine r_op (o_assign rfl rfl) ?_
      refine r_end ?_
      refine t_ret Tryz.func81 (.tmp rfl .nil) rfl fun E S w u hI hd => ?_
      refine post_mk hI hd ?_ trivial rfl rfl rfl <;> clear hI hd <;> (try clear ih0)
      all_goals first | rfl | (refine scI ?_; (try (have ra := (rels_ok (l := rs) (by assumption)).2 _ (List.mem_of_getElem? (by assumption)))); first | exact posIx_no1 (by assumption) | exact posIx_no2 (by (simp only [IntKind.wrap_i64] at *; omega)) | exact posIx_no3 (by assumption) (by first | omega | (simp only [IntKind.wrap_i64] at *; omega)) | (rw [posIx_yes (by assumption) (by (simp only [IntKind.wrap_i64] at *; omega)) (by assumption) (by first | omega | (simp only [IntKind.wrap_i64] at *; omega))]; (have em : m = r.toNat := by omega); rw [em, wr64 (by have := sumA_bnd (l := rs) (by assumption) r.toNat; omega) (by have := sumA_bnd (l := rs) (by assumption) r.toNat; omega)]))
  ·
    have g1' := (bnt g1)
    refine r_guard rfl rfl rfl (nc g1) (fun _ => ?_)
    refine r_guard rfl rfl rfl (nc g1) (fun _ => ?_)
    refine r_guard rfl rfl rfl (nc g1) (fun _ => ?_)
    refine r_guard rfl rfl rfl (nc g1) (fun _ => ?_)
    refine r_guard rfl rfl rfl (nc g1) (fun _ => ?_)
    refine r_op (o_pickT rfl rfl g1 rfl) ?_
    refine r_op (o_move rfl rfl) ?_
    refine r_guard rfl rfl rfl (nc rfl) (fun _ => ?_)
    refine r_guard rfl rfl rfl (nc rfl) (fun _ => ?_)
    refine r_guard rfl rfl rfl (nc rfl) (fun _ => ?_)
    refine r_guard rfl rfl rfl (nc rfl) (fun _ => ?_)
    refine r_guard rfl rfl rfl (nc rfl) (fun _ => ?_)
    refine r_guard rfl rfl rfl (nc rfl) (fun _ => ?_)
    refine r_guard rfl rfl rfl (nc rfl) (fun _ => ?_)
    refine r_guard rfl rfl rfl (nc rfl) (fun _ => ?_)
    refine r_guard rfl rfl rfl (nc rfl) (fun _ => ?_)
    refine r_op (o_pickT rfl rfl rfl rfl) ?_
    refine r_end ?_
    refine t_cond rfl (fun _ => ?_) (nc rfl)
    refine t_seq ?_
    refine t_region ?_
    refine r_op (o_assign rfl rfl) ?_
    refine r_end ?_
    refine t_ret Tryz.func81 (.tmp rfl .nil) rfl fun E S w u hI hd => ?_
    refine post_mk hI hd ?_ trivial rfl rfl rfl <;> clear hI hd <;> (try clear ih0)
    all_goals first | rfl | (refine scI ?_; (try (have ra := (rels_ok (l := rs) (by assumption)).2 _ (List.mem_of_getElem? (by assumption)))); first | exact posIx_no1 (by assumption) | exact posIx_no2 (by (simp only [IntKind.wrap_i64] at *; omega)) | exact posIx_no3 (by assumption) (by first | omega | (simp only [IntKind.wrap_i64] at *; omega)) | (rw [posIx_yes (by assumption) (by (simp only [IntKind.wrap_i64] at *; omega)) (by assumption) (by first | omega | (simp only [IntKind.wrap_i64] at *; omega))]; (have em : m = r.toNat := by omega); rw [em, wr64 (by have := sumA_bnd (l := rs) (by assumption) r.toNat; omega) (by have := sumA_bnd (l := rs) (by assumption) r.toNat; omega)]))
set_option maxHeartbeats 1000000 in
set_option maxRecDepth 10000 in
theorem c_spec_l13Places (rs : Rels) (l : Atoms) (v : Int) (hrs : rs.length ≤ 4611686018427387904) (hl : szS (fun (x : Int × (List (Int))) => (x.2).length) l ≤ 1048576) : Pu Tryz.prog 123 [.c (.t none (.sl 3 (enS3 encS encI encB) (rs))), .c (.t none (.sl 2 (enS2 encI (enSl 1 encI)) (l))), .c (.t none (.v (.int .i64 (v))))] [(0, some (.row none 3 true 1 encI (placesL rs l v)))] 1 (.c (.own 0)) := by
  refine pu_enter Tryz.func123 rfl (Nat.le_of_ble_eq_true rfl) fun w S => ?_
  have gl := sz_len (f := (fun (x : Int × (List (Int))) => (x.2).length)) (l := l)
  refine t_seq ?_
  refine t_region ?_
  refine r_op (o_assign rfl rfl) ?_
  refine r_end ?_
  refine t_seq ?_
  refine t_region ?_
  refine r_op (o_lit0 0 (e := 3) (sz := 1) (zs := [.int .i64 (0)]) encI rfl rfl (by kernel_rfl) rfl) ?_
  refine r_op (o_assign rfl rfl) ?_
  refine r_end ?_
  refine t_seq ?_
  refine t_seq ?_
  refine t_region ?_
  refine r_op (o_assign rfl rfl) ?_
  refine r_end ?_
  refine t_block ?_
  refine t_loopL (fun m => ⟨[(0, some (.c (.t none (.sl 3 (enS3 encS encI encB) (rs))))), (1, some (.c (.t none (.sl 2 (enS2 encI (enSl 1 encI)) (l))))), (2, some (.c (.t none (.v (.int .i64 (v)))))), (6, some (.c (.t none (.v (.slice none 0 0))))), (7, some (.c (.own 0))), (8, some (.c (.t none (.v (.int .i64 ((m : Int)))))))], [(0, some (.row none 3 true 1 encI ((l.take m).flatMap (plc1 rs v))))], 1⟩ : Nat → St) (fun m => m ≤ l.length) (fun m => l.length - m) 0 ⟨⟨rfl, ⟨rfl, ⟨rfl, ⟨rfl, ⟨rfl, ⟨rfl, trivial⟩⟩⟩⟩⟩⟩, ⟨rfl, trivial⟩, rfl⟩ (by exact Nat.zero_le _) ?_
  rintro m hI ih0
  try dsimp only at hI ih0
  have i1 := hI
  refine t_seq ?_
  refine t_seq ?_
  refine t_region ?_
  refine r_op (o_move rfl rfl) ?_
  refine r_op (o_move rfl rfl) ?_
  refine r_op (o_len rfl rfl rfl) ?_
  refine r_op (o_bin rfl rfl rfl rfl) ?_
  refine r_end ?_
  refine t_cond rfl (fun h1 => ?_) (fun h1 => ?_)
  ·
    have h1' := of_decide_eq_true h1
    refine t_skip ?_
    refine t_seq ?_
    refine t_block ?_
    refine t_seq ?_
    refine t_region ?_
    refine r_op (o_assign rfl rfl) ?_
    refine r_end ?_
    refine t_block ?_
    refine t_loopL (fun n => ⟨[(0, some (.c (.t none (.sl 3 (enS3 encS encI encB) (rs))))), (1, some (.c (.t none (.sl 2 (enS2 encI (enSl 1 encI)) (l))))), (2, some (.c (.t none (.v (.int .i64 (v)))))), (6, some (.c (.t none (.v (.slice none 0 0))))), (7, some (.c (.own 0))), (8, some (.c (.t none (.v (.int .i64 ((m : Int))))))), (9, some (.c (.t none (.v (.int .i64 ((n : Int)))))))], [(0, some (.row none 3 true 1 encI ((l.take m).flatMap (plc1 rs v) ++ plcA rs (l.getD m (0, [])).1 v 0 ((l.getD m (0, [])).2.take n))))], 1⟩ : Nat → St) (fun n => n ≤ (l.getD m (0, [])).2.length) (fun n => (l.getD m (0, [])).2.length - n) 0 ⟨⟨rfl, ⟨rfl, ⟨rfl, ⟨rfl, ⟨rfl, ⟨rfl, ⟨rfl, trivial⟩⟩⟩⟩⟩⟩⟩, ⟨(eqR (by rw [List.take_zero]; simp [plcA])), trivial⟩, rfl⟩ (by exact Nat.zero_le _) ?_
    rintro n hI ih1
    try dsimp only at hI ih1
    have j1 := hI; have hzv := getA_get (l := l) (m := m) (by omega); have pr := plc_room (rs := rs) (v := v) (m := m) (n := n) hzv; (have e1 := sz_at (f := (fun (x : Int × (List (Int))) => (x.2).length)) (l := l) (m := m) hzv; (try dsimp only at e1))
    refine t_seq ?_
    refine t_seq ?_
    refine t_region ?_
    refine r_op (o_move rfl rfl) ?_
    refine r_op (o_move rfl rfl) ?_
    refine r_op (o_move rfl rfl) ?_
    obtain ⟨z2, hz3, b4⟩ := at_get (xs := l) (n := (m : Int)) (by first | omega | assumption | (simp only [List.length_append]; omega) | (have e1 := sz_at (f := (fun (x : Int × (List (Int))) => (x.2).length)) (l := l) (m := m) (by assumption); (try dsimp only at e1); omega)) (by first | omega | assumption | (simp only [List.length_append]; omega) | (have e1 := sz_at (f := (fun (x : Int × (List (Int))) => (x.2).length)) (l := l) (m := m) (by assumption); (try dsimp only at e1); omega))
    refine r_op (o_index rfl (by kernel_rfl) rfl rfl b4 hz3) ?_
    refine r_op (o_field rfl (off := 1) (by kernel_rfl) rfl) ?_
    refine r_op (o_load1 rfl (by kernel_rfl) rfl rfl) ?_
    refine r_op (o_len rfl rfl rfl) ?_
    refine r_op (o_bin rfl rfl rfl rfl) ?_
    refine r_end ?_
    refine t_cond rfl (fun h5 => ?_) (fun h5 => ?_)
    ·
      have h5' := of_decide_eq_true h5
      refine t_skip ?_
      refine t_seq ?_
      refine t_block ?_
      refine t_seq ?_
      refine t_region ?_
      refine r_op (o_move rfl rfl) ?_
      refine r_op (o_move rfl rfl) ?_
      refine r_op (o_index rfl (by kernel_rfl) rfl rfl b4 hz3) ?_
      refine r_op (o_field rfl (off := 1) (by kernel_rfl) rfl) ?_
      refine r_op (o_load1 rfl (by kernel_rfl) rfl rfl) ?_
      refine r_op (o_move rfl rfl) ?_
      obtain ⟨z6, hz7, b8⟩ := at_get (xs := z2.2) (n := (n : Int)) (by first | omega | assumption | (simp only [List.length_append]; omega) | (have e1 := sz_at (f := (fun (x : Int × (List (Int))) => (x.2).length)) (l := l) (m := m) (by assumption); (try dsimp only at e1); omega)) (by first | omega | assumption | (simp only [List.length_append]; omega) | (have e1 := sz_at (f := (fun (x : Int × (List (Int))) => (x.2).length)) (l := l) (m := m) (by assumption); (try dsimp only at e1); omega))
      refine r_op (o_index rfl (by kernel_rfl) rfl rfl b8 hz7) ?_
      refine r_op (o_load1 rfl (by kernel_rfl) rfl rfl) ?_
      refine r_op (o_move rfl rfl) ?_
      refine r_op (o_bin rfl rfl rfl rfl) ?_
      refine r_end ?_
      refine t_cond rfl (fun h9 => ?_) (fun h9 => ?_)
      ·
        have h9' := of_decide_eq_true h9
        refine t_region ?_
        refine r_op (o_move rfl rfl) ?_
        refine r_op (o_move rfl rfl) ?_
        refine r_op (o_move rfl rfl) ?_
        refine r_op (o_move rfl rfl) ?_
        refine r_op (o_index rfl (by kernel_rfl) rfl rfl b4 hz3) ?_
        refine r_op (o_field rfl (off := 0) (by kernel_rfl) rfl) ?_
        refine r_op (o_load1 rfl (by kernel_rfl) rfl rfl) ?_
        refine r_op (o_move rfl rfl) ?_
        refine r_op (o_call 1 1 false (Go.Proofs.enters_of Tryz.func81 (by kernel_rfl) rfl) (c_spec_PositionIndex (rs) (z2.1) ((n : Int)) (by first | omega | assumption | (simp only [List.length_append]; omega) | (have e1 := sz_at (f := (fun (x : Int × (List (Int))) => (x.2).length)) (l := l) (m := m) (by assumption); (try dsimp only at e1); omega))) rfl (.cons rfl (.c .t0) (.cons rfl (.c .t0) (.cons rfl (.c .t0) .nil))) rfl rfl rfl) ?_
        refine r_op (o_litS 1 (e := 3) (sz := 1) (zs := [.int .i64 (0)]) rfl rfl (by kernel_rfl) rfl rfl rfl rfl rfl) ?_
        refine r_op (o_append 0 (e := 3) (sz := 1) (by' := 8) (posIx (rs) (z2.1) ((n : Int))) rfl (by kernel_rfl) rfl rfl rfl rfl rfl rfl (.cons .sc .nil) rfl (by first | omega | assumption | (simp only [List.length_append]; omega) | (have e1 := sz_at (f := (fun (x : Int × (List (Int))) => (x.2).length)) (l := l) (m := m) (by assumption); (try dsimp only at e1); omega)) (by first | omega | assumption | (simp only [List.length_append]; omega) | (have e1 := sz_at (f := (fun (x : Int × (List (Int))) => (x.2).length)) (l := l) (m := m) (by assumption); (try dsimp only at e1); omega))) ?_
        refine r_op (o_assign rfl rfl) ?_
        refine r_end ?_
        refine t_endblock ?_
        refine t_region ?_
        refine r_op (o_move rfl rfl) ?_
        refine r_op (o_bin rfl rfl rfl rfl) ?_
        refine r_op (o_assign rfl rfl) ?_
        refine r_end ?_
        have gd3 := Option.some.inj (hzv.symm.trans hz3); have gd4 := congrArg (fun q => q.2.length) gd3; (try dsimp only at gd4)
        refine t_le ?_ (ih1 (n + 1) (by (try dsimp only); omega) (by (try dsimp only); omega))
        exact ⟨⟨rfl, ⟨rfl, ⟨rfl, ⟨rfl, ⟨rfl, ⟨rfl, ⟨(eqI (wr64 (by omega) (by omega))), trivial⟩⟩⟩⟩⟩⟩⟩, ⟨(eqR (by rw [gd3]; first | (rw [List.append_assoc]; exact congrArg _ (plc_hit hz7 (by assumption))) | exact congrArg _ (plc_miss hz7 (by assumption)))), trivial⟩, rfl⟩
      ·
        have h9' := of_decide_eq_false h9
        refine t_skip ?_
        refine t_endblock ?_
        refine t_region ?_
        refine r_op (o_move rfl rfl) ?_
        refine r_op (o_bin rfl rfl rfl rfl) ?_
        refine r_op (o_assign rfl rfl) ?_
        refine r_end ?_
        have gd3 := Option.some.inj (hzv.symm.trans hz3); have gd4 := congrArg (fun q => q.2.length) gd3; (try dsimp only at gd4)
        refine t_le ?_ (ih1 (n + 1) (by (try dsimp only); omega) (by (try dsimp only); omega))
        exact ⟨⟨rfl, ⟨rfl, ⟨rfl, ⟨rfl, ⟨rfl, ⟨rfl, ⟨(eqI (wr64 (by omega) (by omega))), trivial⟩⟩⟩⟩⟩⟩⟩, ⟨(eqR (by rw [gd3]; first | (rw [List.append_assoc]; exact congrArg _ (plc_hit hz7 (by assumption))) | exact congrArg _ (plc_miss hz7 (by assumption)))), trivial⟩, rfl⟩
    ·
      have h5' := of_decide_eq_false h5
      refine t_exit rfl ?_
      refine t_endblock ?_
      refine t_region ?_
      refine r_op (o_move rfl rfl) ?_
      refine r_op (o_bin rfl rfl rfl rfl) ?_
      refine r_op (o_assign rfl rfl) ?_
      refine r_end ?_
      have gd3 := Option.some.inj (hzv.symm.trans hz3)
      refine t_le ?_ (ih0 (m + 1) (by (try dsimp only); omega) (by (try dsimp only); omega))
      exact ⟨⟨rfl, ⟨rfl, ⟨rfl, ⟨rfl, ⟨rfl, ⟨(eqI (wr64 (by omega) (by omega))), trivial⟩⟩⟩⟩⟩⟩, ⟨(eqR (plc_next hzv (by rw [gd3]; omega))), trivial⟩, rfl⟩
  ·
    have h1' := of_decide_eq_false h1
    refine t_exit rfl ?_
    refine t_seq ?_
    refine t_region ?_
    refine r_op (o_move rfl rfl) ?_
    refine r_op (o_assign rfl rfl) ?_
    refine r_end ?_
    refine t_ret Tryz.func123 (.tmp rfl .nil) rfl fun E S w u hI hd => ?_
    refine post_mk hI hd ?_ ⟨eqR ?_, trivial⟩ rfl rfl rfl <;> clear hI hd <;> (try clear ih0) <;> (try clear ih1)
    all_goals first | rfl | ((obtain rfl : m = l.length := by omega); rw [List.take_length]; rfl)
theorem eq_c_spec_l13Put_eql_68 (p0 : Int) (p1 : Int) (p2 : Bool) (q0 : Int) (q1 : Int) (q2 : Bool) : EqS Tryz.prog .eql 68 [.int .i64 p0, .int .i64 p1, .bool p2] [.int .i64 q0, .int .i64 q1, .bool q2] (.bool (decide ((p0, p1, p2) = (q0, q1, q2)))) := by
  refine ⟨rfl, fun x y w => ?_⟩
  have hS : Tryz.prog.underlying 68 = some (.struct (Tryz.prog.fieldsOf 68)) := by kernel_rfl
  have hp : Tryz.prog.stoodInHeld 68 = false := by kernel_rfl
  have u3 := Tryz.underlying3; have a3 := Tryz.isAgg3; have z3 := Tryz.sizeOf3; have u4 := Tryz.underlying4; have a4 := Tryz.isAgg4; have z4 := Tryz.sizeOf4
  rw [Sem.run_bind, run_eqGuard_agg w _ _ _ _ _ _ (by kernel_rfl), Result.andThen_ok, run_eql_struct, show (10000 : Nat) = 9999 + 1 from rfl, run_equalIn_agg w 9999 68 _ _ hS hp]
  simp only [Program.fieldsOf, Tryz.underlying68]
  go_simp
  by_cases h0 : p0 = q0 <;> by_cases h1 : p1 = q1 <;> by_cases h2 : p2 = q2 <;> simp [h0, h1, h2, mkS_toList]
set_option maxHeartbeats 1000000 in
set_option maxRecDepth 10000 in
theorem c_spec_l13Put (U : Nat → Value) (l : List Edg) (a b : Int) (s : Bool) (hl : l.length ≤ 1048576) : Mu Tryz.prog 124 [.c (.own 0), .agg [.t none (.v (.int .i64 (a))), .t none (.v (.int .i64 (b))), .t none (.v (.bool (s)))]] [(0, some (.row (some (U 0)) 68 true 3 (enS3 encI encI encB) (l)))] 1 [(0, some (.row none 68 true 3 (enS3 encI encI encB) (putE l (a, b, s))))] 1 (.c (.own 0)) := by
  refine mu_enter Tryz.func124 rfl (Nat.le_of_ble_eq_true rfl) fun w S M => ?_
  refine t_seq ?_
  refine t_region ?_
  refine r_op (o_box 1 rfl rfl rfl rfl) ?_
  refine r_op (o_assign rfl rfl) ?_
  refine r_end ?_
  refine t_seq ?_
  refine t_seq ?_
  refine t_region ?_
  refine r_op (o_assign rfl rfl) ?_
  refine r_end ?_
  refine t_block ?_
  refine t_loopL (fun m => ⟨[(0, some (.c (.own 0))), (3, some (.c (.ptr 1 0))), (5, some (.c (.t none (.v (.int .i64 ((m : Int)))))))], [(0, some (.row (some (U 0)) 68 true 3 (enS3 encI encI encB) (l))), (1, some (.box [.t none (.v (.int .i64 (a))), .t none (.v (.int .i64 (b))), .t none (.v (.bool (s)))]))], 2⟩ : Nat → St) (fun m => m ≤ l.length ∧ ∀ j z, j < m → l[j]? = some z → (fun y => decide (y = (a, b, s))) z = false) (fun m => l.length - m) 0 ⟨⟨rfl, ⟨rfl, ⟨rfl, trivial⟩⟩⟩, ⟨rfl, ⟨rfl, trivial⟩⟩, rfl⟩ (by exact ⟨Nat.zero_le _, fun j z h => by omega⟩) ?_
  rintro m hI ih0
  try dsimp only at hI ih0
  obtain ⟨i1, i2⟩ := hI
  refine t_seq ?_
  refine t_seq ?_
  refine t_region ?_
  refine r_op (o_move rfl rfl) ?_
  refine r_op (o_move rfl rfl) ?_
  refine r_op (o_leno rfl rfl rfl rfl) ?_
  refine r_op (o_bin rfl rfl rfl rfl) ?_
  refine r_end ?_
  refine t_cond rfl (fun h1 => ?_) (fun h1 => ?_)
  ·
    have h1' := of_decide_eq_true h1
    refine t_skip ?_
    refine t_seq ?_
    refine t_block ?_
    refine t_seq ?_
    refine t_draw (fun _ => true) (by kernel_rfl) ?_
    refine d_take 0 rfl rfl (by kernel_rfl) (by kernel_rfl) (by kernel_rfl) (p_move rfl) ?_
    refine d_take 1 rfl rfl (by kernel_rfl) (by kernel_rfl) (by kernel_rfl) (p_move rfl) ?_
    obtain ⟨z2, hz3, b4⟩ := at_get (xs := l) (n := (m : Int)) (by first | omega | (simp; omega)) (by first | omega | (simp; omega))
    refine d_take 2 rfl rfl (by kernel_rfl) (by kernel_rfl) (by kernel_rfl) (p_indexo (by kernel_rfl) rfl rfl rfl b4 (at_lt b4 hz3)) ?_
    refine d_take 3 rfl rfl (by kernel_rfl) (by kernel_rfl) (by kernel_rfl) (p_loadAo (by kernel_rfl) (by kernel_rfl) rfl rfl hz3) ?_
    refine d_take 4 rfl rfl (by kernel_rfl) (by kernel_rfl) (by kernel_rfl) (p_loadAb (n := 3) (by kernel_rfl) (by kernel_rfl) rfl rfl rfl) ?_
    refine d_take 5 rfl rfl (by kernel_rfl) (by kernel_rfl) (by kernel_rfl) (p_eqA rfl rfl (eq_c_spec_l13Put_eql_68 _ _ _ _ _ _)) ?_
    refine d_end (by kernel_rfl) ?_
    refine t_cond rfl (fun h5 => ?_) (fun h5 => ?_)
    ·
      have h5' := of_decide_eq_true h5
      refine t_seq ?_
      refine t_region ?_
      refine r_op (o_move rfl rfl) ?_
      refine r_op (o_assign rfl rfl) ?_
      refine r_end ?_
      refine gt_unpin 0 rfl ?_
      refine t_ret Tryz.func124 (.tmp rfl .nil) rfl fun E S w u hI hd => ?_
      refine postM_mk hI hd ?_ ⟨eqR ?_, trivial⟩ rfl rfl <;> clear hI hd <;> (try clear ih0)
      all_goals first | rfl | (first | exact putE_there hz3 (by assumption) | exact putE_new i2 (by omega))
    ·
      have h5' := of_decide_eq_false h5
      refine t_skip ?_
      refine t_endblock ?_
      refine t_region ?_
      refine r_op (o_move rfl rfl) ?_
      refine r_op (o_bin rfl rfl rfl rfl) ?_
      refine r_op (o_assign rfl rfl) ?_
      refine r_end ?_
      refine t_le ?_ (ih0 (m + 1) (by (try dsimp only); omega) (by (try dsimp only); exact ⟨by omega, no_step i2 hz3 rfl (decide_eq_false (by assumption))⟩))
      exact ⟨⟨rfl, ⟨rfl, ⟨(eqI (wr64 (by omega) (by omega))), trivial⟩⟩⟩, ⟨rfl, ⟨rfl, trivial⟩⟩, rfl⟩
  ·
    have h1' := of_decide_eq_false h1
    refine t_exit rfl ?_
    refine t_seq ?_
    refine t_region ?_
    refine r_op (o_move rfl rfl) ?_
    refine r_op (o_loadAb rfl (n := 3) (by kernel_rfl) (by kernel_rfl) rfl rfl rfl) ?_
    refine r_op (o_litS 2 (e := 68) (sz := 3) (zs := [.int .i64 (0), .int .i64 (0), .bool (false)]) rfl rfl (by kernel_rfl) rfl rfl rfl rfl rfl) ?_
    refine r_op (o_append 0 (e := 68) (sz := 3) (by' := 24) ((a, b, s)) rfl (by kernel_rfl) rfl rfl rfl rfl rfl rfl (.cons .sc (.cons .sc (.cons .sc .nil))) rfl (by first | omega | (simp; omega)) (by first | omega | (simp; omega))) ?_
    refine r_op (o_assign rfl rfl) ?_
    refine r_end ?_
    refine t_ret Tryz.func124 (.tmp rfl .nil) rfl fun E S w u hI hd => ?_
    refine postM_mk hI hd ?_ ⟨eqR ?_, trivial⟩ rfl rfl <;> clear hI hd <;> (try clear ih0)
    all_goals first | rfl | (first | exact putE_there (by assumption) (by assumption) | exact putE_new i2 (by omega))
end Go.Eng
