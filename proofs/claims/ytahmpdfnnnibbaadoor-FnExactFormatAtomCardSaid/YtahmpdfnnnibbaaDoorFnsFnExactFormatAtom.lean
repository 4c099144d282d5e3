/- What the functions that FnExactFormatAtom reaches answer. -/
import Derived.Test.YtahmpdfnnnibbaaDoorEngP
import Derived.Test.YtahmpdfnnnibbaaDoorChecked
set_option linter.unusedVariables false
set_option linter.unusedSimpArgs false
namespace Go.Eng
open Go Go.RowKit Go.Proofs
set_option maxHeartbeats 1000000 in
set_option maxRecDepth 10000 in
theorem c_laws_szRelation (a0 : List UInt8) (a1 : Int) (a2 : Bool) (k : Int) (hk : 0 ≤ k) (hk2 : k ≤ 1048576) (h0 : okS a0) : Pu Tryd.prog 34 [.agg [.t none (.v (.string (mkS (a0)))), .t none (.v (.int .i64 (a1))), .t none (.v (.bool (a2)))], .c (.t none (.v (.int .i64 (k))))] [] 0 (.c (.t none (.v (.int .i64 (if k - (((a0).length : Nat) : Int) < 0 then -1 else k - (((a0).length : Nat) : Int)))))) := by
  refine pu_enter Tryd.func34 rfl (Nat.le_of_ble_eq_true rfl) fun w S => ?_
  have g_a0 : (a0).length ≤ 9223372036854775807 := h0
  refine t_seq ?_
  refine t_region ?_
  refine r_op (o_box 0 rfl rfl rfl rfl) ?_
  refine r_op (o_assign rfl rfl) ?_
  refine r_end ?_
  refine t_seq ?_
  refine t_region ?_
  refine r_op (o_move rfl rfl) ?_
  refine r_op (o_fieldb rfl (off := 0) (by kernel_rfl) rfl) ?_
  refine r_op (o_load1b rfl (by kernel_rfl) rfl rfl rfl) ?_
  refine r_op (o_lenS rfl Tryd.underlying9 rfl) ?_
  refine r_op (o_bin rfl rfl rfl rfl) ?_
  refine r_op (o_assign rfl rfl) ?_
  refine r_end ?_
  refine t_seq ?_
  refine t_seq ?_
  refine t_region ?_
  refine r_op (o_move rfl rfl) ?_
  refine r_op (o_bin rfl rfl rfl rfl) ?_
  refine r_end ?_
  refine t_cond rfl (fun h1 => ?_) (fun h1 => ?_)
  ·
    have h1' := of_decide_eq_true h1
    refine t_seq ?_
    refine t_region ?_
    refine r_op (o_assign rfl rfl) ?_
    refine r_end ?_
    refine t_ret Tryd.func34 (.tmp rfl .nil) rfl fun E S w u hI hd => ?_
    refine post_mk hI hd ?_ trivial rfl rfl rfl <;> clear hI hd
    all_goals first | rfl | (refine scI ?_; (try simp only [IntKind.wrap_i64] at *); omega)
  ·
    have h1' := of_decide_eq_false h1
    refine t_skip ?_
    refine t_seq ?_
    refine t_region ?_
    refine r_op (o_move rfl rfl) ?_
    refine r_op (o_assign rfl rfl) ?_
    refine r_end ?_
    refine t_ret Tryd.func34 (.tmp rfl .nil) rfl fun E S w u hI hd => ?_
    refine post_mk hI hd ?_ trivial rfl rfl rfl <;> clear hI hd
    all_goals first | rfl | (refine scI ?_; (try simp only [IntKind.wrap_i64] at *); omega)
set_option maxHeartbeats 1000000 in
set_option maxRecDepth 10000 in
theorem c_laws_szRelationS (l : List (List UInt8 × Int × Bool)) (k : Int) (hk : 0 ≤ k) (hk2 : k ≤ 1048576) (hl : (okL (fun (x : List UInt8 × Int × Bool) => okS (x.1) ∧ okI (x.2.1) ∧ okB (x.2.2))) l) : Pu Tryd.prog 10 [.c (.t none (.sl 3 (enS3 encS encI encB) (l))), .c (.t none (.v (.int .i64 (k))))] [] 0 (.c (.t none (.v (.int .i64 (if k - ((szS (fun (x : List UInt8 × Int × Bool) => (x.1).length) l : Nat) : Int) < 0 then -1 else k - ((szS (fun (x : List UInt8 × Int × Bool) => (x.1).length) l : Nat) : Int)))))) := by
  refine pu_enter Tryd.func10 rfl (Nat.le_of_ble_eq_true rfl) fun w S => ?_
  have gl := hl.1
  refine t_seq ?_
  refine t_region ?_
  refine r_op (o_assign rfl rfl) ?_
  refine r_end ?_
  refine t_seq ?_
  refine t_region ?_
  refine r_op (o_move rfl rfl) ?_
  refine r_op (o_move rfl rfl) ?_
  refine r_op (o_len rfl rfl rfl) ?_
  refine r_op (o_bin rfl rfl rfl rfl) ?_
  refine r_op (o_assign rfl rfl) ?_
  refine r_end ?_
  refine t_seq ?_
  refine t_seq ?_
  refine t_region ?_
  refine r_op (o_move rfl rfl) ?_
  refine r_op (o_bin rfl rfl rfl rfl) ?_
  refine r_end ?_
  refine t_cond rfl (fun h1 => ?_) (fun h1 => ?_)
  ·
    have h1' := of_decide_eq_true h1
    refine t_seq ?_
    refine t_region ?_
    refine r_op (o_assign rfl rfl) ?_
    refine r_end ?_
    refine t_ret Tryd.func10 (.tmp rfl .nil) rfl fun E S w u hI hd => ?_
    refine post_mk hI hd ?_ trivial rfl rfl rfl <;> clear hI hd <;> (try clear ih0)
    all_goals first | rfl | (refine scI ?_; (simp only [IntKind.wrap_i64] at *); have e1 := sz_len (f := (fun (x : List UInt8 × Int × Bool) => (x.1).length)) (l := l); omega)
  ·
    have h1' := of_decide_eq_false h1
    refine t_skip ?_
    refine t_seq ?_
    refine t_seq ?_
    refine t_region ?_
    refine r_op (o_assign rfl rfl) ?_
    refine r_end ?_
    refine t_block ?_
    refine t_loopL (fun m => ⟨[(0, some (.c (.t none (.sl 3 (enS3 encS encI encB) (l))))), (1, some (.c (.t none (.v (.int .i64 (k - l.length - ((szT (fun (x : List UInt8 × Int × Bool) => (x.1).length) l m : Nat) : Int))))))), (5, some (.c (.t none (.v (.int .i64 ((m : Int)))))))], [], 0⟩ : Nat → St) (fun m => m ≤ l.length ∧ 0 ≤ k - l.length - ((szT (fun (x : List UInt8 × Int × Bool) => (x.1).length) l m : Nat) : Int)) (fun m => l.length - m) 0 ⟨⟨rfl, ⟨(eqI (by rw [wr64 (by omega) (by omega)]; simp [szT_zero])), ⟨rfl, trivial⟩⟩⟩, trivial, rfl⟩ (by exact ⟨Nat.zero_le _, by (simp only [IntKind.wrap_i64] at *); simp only [szT_zero]; omega⟩) ?_
    rintro m hI ih0
    try dsimp only at hI ih0
    obtain ⟨i1, i2⟩ := hI
    refine t_seq ?_
    refine t_seq ?_
    refine t_region ?_
    refine r_op (o_move rfl rfl) ?_
    refine r_op (o_move rfl rfl) ?_
    refine r_op (o_len rfl rfl rfl) ?_
    refine r_op (o_bin rfl rfl rfl rfl) ?_
    refine r_end ?_
    refine t_cond rfl (fun h2 => ?_) (fun h2 => ?_)
    ·
      have h2' := of_decide_eq_true h2
      refine t_skip ?_
      refine t_seq ?_
      refine t_block ?_
      refine t_seq ?_
      refine t_region ?_
      refine r_op (o_move rfl rfl) ?_
      refine r_op (o_move rfl rfl) ?_
      obtain ⟨z3, hz4, b5⟩ := at_get (xs := l) (n := (m : Int)) (by first | omega | (have ok := ok_at hl (by assumption); first | exact ok | exact ok.1 | exact ok.2 | exact ok.2.1 | exact ok.2.2 | exact ok.2.2.1 | exact ok.2.2.2.1 | exact ok.2.2.2.2)) (by first | omega | (have ok := ok_at hl (by assumption); first | exact ok | exact ok.1 | exact ok.2 | exact ok.2.1 | exact ok.2.2 | exact ok.2.2.1 | exact ok.2.2.2.1 | exact ok.2.2.2.2))
      refine r_op (o_index rfl (by kernel_rfl) rfl rfl b5 hz4) ?_
      refine r_op (o_loadA rfl (n := 3) (by kernel_rfl) (by kernel_rfl) rfl rfl) ?_
      refine r_op (o_move rfl rfl) ?_
      refine r_op (o_call 0 0 false (Go.Proofs.enters_of Tryd.func34 (by kernel_rfl) rfl) (c_laws_szRelation (z3.1) (z3.2.1) (z3.2.2) (k - l.length - ((szT (fun (x : List UInt8 × Int × Bool) => (x.1).length) l m : Nat) : Int)) (by first | omega | (have ok := ok_at hl (by assumption); first | exact ok | exact ok.1 | exact ok.2 | exact ok.2.1 | exact ok.2.2 | exact ok.2.2.1 | exact ok.2.2.2.1 | exact ok.2.2.2.2)) (by first | omega | (have ok := ok_at hl (by assumption); first | exact ok | exact ok.1 | exact ok.2 | exact ok.2.1 | exact ok.2.2 | exact ok.2.2.1 | exact ok.2.2.2.1 | exact ok.2.2.2.2)) (by first | omega | (have ok := ok_at hl (by assumption); first | exact ok | exact ok.1 | exact ok.2 | exact ok.2.1 | exact ok.2.2 | exact ok.2.2.1 | exact ok.2.2.2.1 | exact ok.2.2.2.2))) rfl (.cons rfl (.agg (.cons .t0 (.cons .t0 (.cons .t0 .nil)))) (.cons rfl (.c .t0) .nil)) rfl rfl rfl) ?_
      refine r_op (o_assign rfl rfl) ?_
      refine r_end ?_
      refine t_seq ?_
      refine t_region ?_
      refine r_op (o_move rfl rfl) ?_
      refine r_op (o_bin rfl rfl rfl rfl) ?_
      refine r_end ?_
      refine t_cond rfl (fun h6 => ?_) (fun h6 => ?_)
      ·
        have h6' := of_decide_eq_true h6
        refine t_seq ?_
        refine t_region ?_
        refine r_op (o_assign rfl rfl) ?_
        refine r_end ?_
        refine t_ret Tryd.func10 (.tmp rfl .nil) rfl fun E S w u hI hd => ?_
        refine post_mk hI hd ?_ trivial rfl rfl rfl <;> clear hI hd <;> (try clear ih0)
        all_goals first | rfl | (refine scI ?_; have e1 := szT_step (f := (fun (x : List UInt8 × Int × Bool) => (x.1).length)) (l := l) (m := m) (by assumption); (try dsimp only at e1); have e2 := szT_le (f := (fun (x : List UInt8 × Int × Bool) => (x.1).length)) (l := l) (m + 1); omega)
      ·
        have h6' := of_decide_eq_false h6
        refine t_skip ?_
        refine t_endblock ?_
        refine t_region ?_
        refine r_op (o_move rfl rfl) ?_
        refine r_op (o_bin rfl rfl rfl rfl) ?_
        refine r_op (o_assign rfl rfl) ?_
        refine r_end ?_
        have e1 := szT_step (f := (fun (x : List UInt8 × Int × Bool) => (x.1).length)) (l := l) (m := m) (by assumption); try dsimp only at e1
        refine t_le ?_ (ih0 (m + 1) (by (try dsimp only); omega) (by (try dsimp only); constructor <;> omega))
        exact ⟨⟨rfl, ⟨(eqI (by omega)), ⟨(eqI (wrS (by omega))), trivial⟩⟩⟩, trivial, rfl⟩
    ·
      have h2' := of_decide_eq_false h2
      refine t_exit rfl ?_
      refine t_seq ?_
      refine t_region ?_
      refine r_op (o_move rfl rfl) ?_
      refine r_op (o_assign rfl rfl) ?_
      refine r_end ?_
      refine t_ret Tryd.func10 (.tmp rfl .nil) rfl fun E S w u hI hd => ?_
      refine post_mk hI hd ?_ trivial rfl rfl rfl <;> clear hI hd <;> (try clear ih0)
      all_goals first | rfl | (refine scI ?_; have e1 := szT_all (f := (fun (x : List UInt8 × Int × Bool) => (x.1).length)) (l := l) (m := m) (by omega); omega)
set_option maxHeartbeats 1000000 in
set_option maxRecDepth 10000 in
theorem c_laws_szIntS (l : List Int) (k : Int) (hk : 0 ≤ k) (hk2 : k ≤ 1048576) (hl : l.length ≤ 9223372036854775807) : Pu Tryd.prog 39 [.c (.t none (.sl 1 encI (l))), .c (.t none (.v (.int .i64 (k))))] [] 0 (.c (.t none (.v (.int .i64 (if k - l.length < 0 then -1 else k - l.length))))) := by
  refine pu_enter Tryd.func39 rfl (Nat.le_of_ble_eq_true rfl) fun w S => ?_
  refine t_seq ?_
  refine t_region ?_
  refine r_op (o_assign rfl rfl) ?_
  refine r_end ?_
  refine t_seq ?_
  refine t_region ?_
  refine r_op (o_move rfl rfl) ?_
  refine r_op (o_move rfl rfl) ?_
  refine r_op (o_len rfl rfl rfl) ?_
  refine r_op (o_bin rfl rfl rfl rfl) ?_
  refine r_op (o_assign rfl rfl) ?_
  refine r_end ?_
  refine t_seq ?_
  refine t_seq ?_
  refine t_region ?_
  refine r_op (o_move rfl rfl) ?_
  refine r_op (o_bin rfl rfl rfl rfl) ?_
  refine r_end ?_
  refine t_cond rfl (fun h1 => ?_) (fun h1 => ?_)
  ·
    have h1' := of_decide_eq_true h1
    refine t_seq ?_
    refine t_region ?_
    refine r_op (o_assign rfl rfl) ?_
    refine r_end ?_
    refine t_ret Tryd.func39 (.tmp rfl .nil) rfl fun E S w u hI hd => ?_
    refine post_mk hI hd ?_ trivial rfl rfl rfl <;> clear hI hd
    all_goals first | rfl | (have e := wr64 (x := k - l.length) (by omega) (by omega); rw [e] at h1'; rw [if_pos (by omega)])
  ·
    have h1' := of_decide_eq_false h1
    refine t_skip ?_
    refine t_seq ?_
    refine t_region ?_
    refine r_op (o_move rfl rfl) ?_
    refine r_op (o_assign rfl rfl) ?_
    refine r_end ?_
    refine t_ret Tryd.func39 (.tmp rfl .nil) rfl fun E S w u hI hd => ?_
    refine post_mk hI hd ?_ trivial rfl rfl rfl <;> clear hI hd
    all_goals first | rfl | (have e := wr64 (x := k - l.length) (by omega) (by omega); rw [e] at h1'; rw [e, if_neg (by omega)])
set_option maxHeartbeats 1000000 in
set_option maxRecDepth 10000 in
theorem c_laws_szAtom (a0 : Int) (a1 : List (Int)) (k : Int) (hk : 0 ≤ k) (hk2 : k ≤ 1048576) (h1 : (okL okI) a1) : Pu Tryd.prog 20 [.agg [.t none (.v (.int .i64 (a0))), .t none (.sl 1 encI (a1))], .c (.t none (.v (.int .i64 (k))))] [] 0 (.c (.t none (.v (.int .i64 (if k - (((a1).length : Nat) : Int) < 0 then -1 else k - (((a1).length : Nat) : Int)))))) := by
  refine pu_enter Tryd.func20 rfl (Nat.le_of_ble_eq_true rfl) fun w S => ?_
  have g_a1 := h1.1
  refine t_seq ?_
  refine t_region ?_
  refine r_op (o_box 0 rfl rfl rfl rfl) ?_
  refine r_op (o_assign rfl rfl) ?_
  refine r_end ?_
  refine t_seq ?_
  refine t_region ?_
  refine r_op (o_fieldb rfl (off := 1) (by kernel_rfl) rfl) ?_
  refine r_op (o_load1b rfl (by kernel_rfl) rfl rfl rfl) ?_
  refine r_op (o_move rfl rfl) ?_
  refine r_op (o_call 1 1 false (Go.Proofs.enters_of Tryd.func39 (by kernel_rfl) rfl) (c_laws_szIntS (a1) (k) (by first | omega | (simp; omega)) (by first | omega | (simp; omega)) (by first | omega | (simp; omega))) rfl (.cons rfl (.c .t0) (.cons rfl (.c .t0) .nil)) rfl rfl rfl) ?_
  refine r_op (o_assign rfl rfl) ?_
  refine r_end ?_
  refine t_seq ?_
  refine t_seq ?_
  refine t_region ?_
  refine r_op (o_move rfl rfl) ?_
  refine r_op (o_bin rfl rfl rfl rfl) ?_
  refine r_end ?_
  refine t_cond rfl (fun h1 => ?_) (fun h1 => ?_)
  ·
    have h1' := of_decide_eq_true h1
    refine t_seq ?_
    refine t_region ?_
    refine r_op (o_assign rfl rfl) ?_
    refine r_end ?_
    refine t_ret Tryd.func20 (.tmp rfl .nil) rfl fun E S w u hI hd => ?_
    refine post_mk hI hd ?_ trivial rfl rfl rfl <;> clear hI hd
    all_goals first | rfl | (refine scI ?_; (try simp only [IntKind.wrap_i64] at *); omega)
  ·
    have h1' := of_decide_eq_false h1
    refine t_skip ?_
    refine t_seq ?_
    refine t_region ?_
    refine r_op (o_move rfl rfl) ?_
    refine r_op (o_assign rfl rfl) ?_
    refine r_end ?_
    refine t_ret Tryd.func20 (.tmp rfl .nil) rfl fun E S w u hI hd => ?_
    refine post_mk hI hd ?_ trivial rfl rfl rfl <;> clear hI hd
    all_goals first | rfl | (refine scI ?_; (try simp only [IntKind.wrap_i64] at *); omega)
set_option maxHeartbeats 1000000 in
set_option maxRecDepth 10000 in
theorem c_laws_toRelation (a0 : List UInt8) (a1 : Int) (a2 : Bool) (hs : (a0).length ≤ 1048576) : Pu Tryd.prog 36 [.agg [.t none (.v (.string (mkS (a0)))), .t none (.v (.int .i64 (a1))), .t none (.v (.bool (a2)))]] [] 3 (.agg [.t none (.v (.string (mkS (a0)))), .t none (.v (.int .i64 (a1))), .t none (.v (.bool (a2)))]) := by
  refine pu_enter Tryd.func36 rfl (Nat.le_of_ble_eq_true rfl) fun w S => ?_
  refine t_seq ?_
  refine t_region ?_
  refine r_op (o_box 0 rfl rfl rfl rfl) ?_
  refine r_op (o_alloc 1 (zs := [.string (mkS ([])), .int .i64 (0), .bool (false)]) rfl rfl (by kernel_rfl) rfl) ?_
  refine r_end ?_
  refine t_seq ?_
  refine t_region ?_
  refine r_op (o_alloc 2 (zs := [.string (mkS ([])), .int .i64 (0), .bool (false)]) rfl rfl (by kernel_rfl) rfl) ?_
  refine r_end ?_
  refine t_seq ?_
  refine t_region ?_
  refine r_op (o_fieldb rfl (off := 0) (by kernel_rfl) rfl) ?_
  refine r_op (o_load1b rfl (by kernel_rfl) rfl rfl rfl) ?_
  refine r_op (o_fieldb rfl (off := 0) (by kernel_rfl) rfl) ?_
  refine r_op (o_storeb (n := 1) (by kernel_rfl) rfl rfl rfl rfl rfl rfl) ?_
  refine r_end ?_
  refine t_seq ?_
  refine t_region ?_
  refine r_op (o_fieldb rfl (off := 1) (by kernel_rfl) rfl) ?_
  refine r_op (o_load1b rfl (by kernel_rfl) rfl rfl rfl) ?_
  refine r_op (o_fieldb rfl (off := 1) (by kernel_rfl) rfl) ?_
  refine r_op (o_storeb (n := 1) (by kernel_rfl) rfl rfl rfl rfl rfl rfl) ?_
  refine r_end ?_
  refine t_seq ?_
  refine t_region ?_
  refine r_op (o_fieldb rfl (off := 2) (by kernel_rfl) rfl) ?_
  refine r_op (o_load1b rfl (by kernel_rfl) rfl rfl rfl) ?_
  refine r_op (o_fieldb rfl (off := 2) (by kernel_rfl) rfl) ?_
  refine r_op (o_storeb (n := 1) (by kernel_rfl) rfl rfl rfl rfl rfl rfl) ?_
  refine r_end ?_
  refine t_seq ?_
  refine t_region ?_
  refine r_op (o_loadAb rfl (n := 3) (by kernel_rfl) (by kernel_rfl) rfl rfl rfl) ?_
  refine r_op (o_storeb (n := 3) (by kernel_rfl) rfl rfl rfl rfl rfl rfl) ?_
  refine r_end ?_
  refine t_ret Tryd.func36 (.cells (n := 3) (by kernel_rfl) (by kernel_rfl) rfl rfl rfl .nil) rfl fun E S w u hI hd => ?_
  refine post_mk hI hd ?_ trivial rfl rfl rfl <;> clear hI hd
  all_goals first | rfl | (simp_all <;> omega)
set_option maxHeartbeats 1000000 in
set_option maxRecDepth 10000 in
theorem c_laws_toRelationS (l : List (List UInt8 × Int × Bool)) (hs : szS (fun (x : List UInt8 × Int × Bool) => (x.1).length) l ≤ 1048576) : Pu Tryd.prog 12 [.c (.t none (.sl 3 (enS3 encS encI encB) (l)))] [(0, some (.row none 64 true 3 (enS3 encS encI encB) (l)))] 1 (.c (.own 0)) := by
  refine pu_enter Tryd.func12 rfl (Nat.le_of_ble_eq_true rfl) fun w S => ?_
  have gl := sz_len (f := (fun (x : List UInt8 × Int × Bool) => (x.1).length)) (l := l)
  refine t_seq ?_
  refine t_region ?_
  refine r_op (o_assign rfl rfl) ?_
  refine r_end ?_
  refine t_seq ?_
  refine t_region ?_
  refine r_op (o_move rfl rfl) ?_
  refine r_op (o_len rfl rfl rfl) ?_
  refine r_op (o_make 0 true (et := 64) (sz := 3) (by' := 32) (enS3 encS encI encB) (([], 0, false)) (zs := [.string (mkS ([])), .int .i64 (0), .bool (false)]) rfl rfl (by kernel_rfl) (by kernel_rfl) rfl rfl (.cons (.v rfl) (.cons (.v rfl) (.cons (.v rfl) .nil))) rfl rfl (by first | omega | (simp; omega) | (have e1 := sz_at (f := (fun (x : List UInt8 × Int × Bool) => (x.1).length)) (l := l) (m := m) (by assumption); (try dsimp only at e1); omega)) (by first | omega | (simp; omega) | (have e1 := sz_at (f := (fun (x : List UInt8 × Int × Bool) => (x.1).length)) (l := l) (m := m) (by assumption); (try dsimp only at e1); omega)) (by first | omega | (simp; omega) | (have e1 := sz_at (f := (fun (x : List UInt8 × Int × Bool) => (x.1).length)) (l := l) (m := m) (by assumption); (try dsimp only at e1); omega))) ?_
  refine r_op (o_assign rfl rfl) ?_
  refine r_end ?_
  refine t_seq ?_
  refine t_seq ?_
  refine t_region ?_
  refine r_op (o_assign rfl rfl) ?_
  refine r_end ?_
  refine t_block ?_
  refine t_loopL (fun m => ⟨[(0, some (.c (.t none (.sl 3 (enS3 encS encI encB) (l))))), (2, some (.c (.t none (.v (.slice none 0 0))))), (3, some (.c (.own 0))), (4, some (.c (.t none (.v (.int .i64 ((m : Int)))))))], [(0, some (.row none 64 true 3 (enS3 encS encI encB) (l.take m ++ List.replicate (l.length - m) (([], 0, false)))))], 1⟩ : Nat → St) (fun m => m ≤ l.length) (fun m => l.length - m) 0 ⟨⟨rfl, ⟨rfl, ⟨rfl, ⟨rfl, trivial⟩⟩⟩⟩, ⟨(eqR (by simp)), trivial⟩, rfl⟩ (by simp) ?_
  rintro m hI ih0
  try dsimp only at hI ih0
  refine t_seq ?_
  refine t_seq ?_
  refine t_region ?_
  refine r_op (o_move rfl rfl) ?_
  refine r_op (o_move rfl rfl) ?_
  refine r_op (o_len rfl rfl rfl) ?_
  refine r_op (o_bin rfl rfl rfl rfl) ?_
  refine r_end ?_
  refine t_cond rfl (fun h1 => ?_) (fun h1 => ?_)
  ·
    have h1' := of_decide_eq_true h1
    refine t_skip ?_
    refine t_seq ?_
    refine t_block ?_
    refine t_region ?_
    refine r_op (o_move rfl rfl) ?_
    refine r_op (o_move rfl rfl) ?_
    refine r_op (o_move rfl rfl) ?_
    refine r_op (o_move rfl rfl) ?_
    obtain ⟨z2, hz3, b4⟩ := at_get (xs := l) (n := (m : Int)) (by first | omega | (simp; omega) | (have e1 := sz_at (f := (fun (x : List UInt8 × Int × Bool) => (x.1).length)) (l := l) (m := m) (by assumption); (try dsimp only at e1); omega)) (by first | omega | (simp; omega) | (have e1 := sz_at (f := (fun (x : List UInt8 × Int × Bool) => (x.1).length)) (l := l) (m := m) (by assumption); (try dsimp only at e1); omega))
    refine r_op (o_index rfl (by kernel_rfl) rfl rfl b4 hz3) ?_
    refine r_op (o_loadA rfl (n := 3) (by kernel_rfl) (by kernel_rfl) rfl rfl) ?_
    refine r_op (o_call 1 4 false (Go.Proofs.enters_of Tryd.func36 (by kernel_rfl) rfl) (c_laws_toRelation (z2.1) (z2.2.1) (z2.2.2) (by first | omega | (simp; omega) | (have e1 := sz_at (f := (fun (x : List UInt8 × Int × Bool) => (x.1).length)) (l := l) (m := m) (by assumption); (try dsimp only at e1); omega))) rfl (.cons rfl (.agg (.cons .t0 (.cons .t0 (.cons .t0 .nil)))) .nil) rfl rfl rfl) ?_
    obtain ⟨z5, hz6, b7⟩ := at_get (xs := l.take m ++ List.replicate (l.length - m) (([], 0, false))) (n := (m : Int)) (by first | omega | (simp; omega) | (have e1 := sz_at (f := (fun (x : List UInt8 × Int × Bool) => (x.1).length)) (l := l) (m := m) (by assumption); (try dsimp only at e1); omega)) (by first | omega | (simp; omega) | (have e1 := sz_at (f := (fun (x : List UInt8 × Int × Bool) => (x.1).length)) (l := l) (m := m) (by assumption); (try dsimp only at e1); omega))
    refine r_op (o_indexo rfl (by kernel_rfl) rfl rfl rfl b7 (at_lt b7 hz6)) ?_
    refine r_op (o_storeo (((z2.1), (z2.2.1), (z2.2.2))) (n := 3) (by kernel_rfl) rfl rfl hz6 rfl rfl rfl rfl (.cons .sc (.cons .sc (.cons .sc .nil))) rfl (fun j h1 h2 => by simp at h1 h2; omega)) ?_
    refine r_end ?_
    refine t_endblock ?_
    refine t_region ?_
    refine r_op (o_move rfl rfl) ?_
    refine r_op (o_bin rfl rfl rfl rfl) ?_
    refine r_op (o_assign rfl rfl) ?_
    refine r_end ?_
    refine t_le ?_ (ih0 (m + 1) (by (try dsimp only); omega) (by (try dsimp only); omega))
    exact ⟨⟨rfl, ⟨rfl, ⟨rfl, ⟨(eqI (wrS (by omega))), trivial⟩⟩⟩⟩, ⟨(eqR (fill_set (by assumption))), trivial⟩, rfl⟩
  ·
    have h1' := of_decide_eq_false h1
    refine t_exit rfl ?_
    refine t_seq ?_
    refine t_region ?_
    refine r_op (o_move rfl rfl) ?_
    refine r_op (o_assign rfl rfl) ?_
    refine r_end ?_
    refine t_ret Tryd.func12 (.tmp rfl .nil) rfl fun E S w u hI hd => ?_
    refine post_mk hI hd ?_ ⟨eqR ?_, trivial⟩ rfl rfl rfl <;> clear hI hd <;> (try clear ih0)
    all_goals first | rfl | ((obtain rfl : m = l.length := by omega); simp)
set_option maxHeartbeats 1000000 in
set_option maxRecDepth 10000 in
theorem c_laws_toIntS (l : List Int) (hl : l.length ≤ 1048576) : Pu Tryd.prog 41 [.c (.t none (.sl 1 encI (l)))] [(0, some (.row none 3 true 1 encI (l)))] 1 (.c (.own 0)) := by
  refine pu_enter Tryd.func41 rfl (Nat.le_of_ble_eq_true rfl) fun w S => ?_
  refine t_seq ?_
  refine t_region ?_
  refine r_op (o_assign rfl rfl) ?_
  refine r_end ?_
  refine t_seq ?_
  refine t_region ?_
  refine r_op (o_move rfl rfl) ?_
  refine r_op (o_len rfl rfl rfl) ?_
  refine r_op (o_make 0 true (et := 3) (sz := 1) (by' := 8) encI (0) (zs := [.int .i64 (0)]) rfl rfl (by kernel_rfl) (by kernel_rfl) rfl rfl (.cons (.v rfl) .nil) rfl rfl (by first | omega | (simp; omega)) (by first | omega | (simp; omega)) (by first | omega | (simp; omega))) ?_
  refine r_op (o_assign rfl rfl) ?_
  refine r_end ?_
  refine t_seq ?_
  refine t_seq ?_
  refine t_region ?_
  refine r_op (o_assign rfl rfl) ?_
  refine r_end ?_
  refine t_block ?_
  refine t_loopL (fun m => ⟨[(0, some (.c (.t none (.sl 1 encI (l))))), (2, some (.c (.t none (.v (.slice none 0 0))))), (3, some (.c (.own 0))), (4, some (.c (.t none (.v (.int .i64 ((m : Int)))))))], [(0, some (.row none 3 true 1 encI (l.take m ++ List.replicate (l.length - m) 0)))], 1⟩ : Nat → St) (fun m => m ≤ l.length) (fun m => l.length - m) 0 ⟨⟨rfl, ⟨rfl, ⟨rfl, ⟨rfl, trivial⟩⟩⟩⟩, ⟨(eqR (by simp)), trivial⟩, rfl⟩ (by simp) ?_
  rintro m hI ih0
  try dsimp only at hI ih0
  refine t_seq ?_
  refine t_seq ?_
  refine t_region ?_
  refine r_op (o_move rfl rfl) ?_
  refine r_op (o_move rfl rfl) ?_
  refine r_op (o_len rfl rfl rfl) ?_
  refine r_op (o_bin rfl rfl rfl rfl) ?_
  refine r_end ?_
  refine t_cond rfl (fun h1 => ?_) (fun h1 => ?_)
  ·
    have h1' := of_decide_eq_true h1
    refine t_skip ?_
    refine t_seq ?_
    refine t_block ?_
    refine t_region ?_
    refine r_op (o_move rfl rfl) ?_
    refine r_op (o_move rfl rfl) ?_
    refine r_op (o_move rfl rfl) ?_
    refine r_op (o_move rfl rfl) ?_
    obtain ⟨z2, hz3, b4⟩ := at_get (xs := l) (n := (m : Int)) (by first | omega | (simp; omega)) (by first | omega | (simp; omega))
    refine r_op (o_index rfl (by kernel_rfl) rfl rfl b4 hz3) ?_
    refine r_op (o_load1 rfl (by kernel_rfl) rfl rfl) ?_
    obtain ⟨z5, hz6, b7⟩ := at_get (xs := l.take m ++ List.replicate (l.length - m) 0) (n := (m : Int)) (by first | omega | (simp; omega)) (by first | omega | (simp; omega))
    refine r_op (o_indexo rfl (by kernel_rfl) rfl rfl rfl b7 (at_lt b7 hz6)) ?_
    refine r_op (o_storeo (z2) (n := 1) (by kernel_rfl) rfl rfl hz6 rfl rfl rfl rfl (.cons .sc .nil) rfl (fun j h1 h2 => by simp at h1 h2; omega)) ?_
    refine r_end ?_
    refine t_endblock ?_
    refine t_region ?_
    refine r_op (o_move rfl rfl) ?_
    refine r_op (o_bin rfl rfl rfl rfl) ?_
    refine r_op (o_assign rfl rfl) ?_
    refine r_end ?_
    refine t_le ?_ (ih0 (m + 1) (by (try dsimp only); omega) (by (try dsimp only); omega))
    exact ⟨⟨rfl, ⟨rfl, ⟨rfl, ⟨(eqI (wrS (by omega))), trivial⟩⟩⟩⟩, ⟨(eqR (fill_set (by assumption))), trivial⟩, rfl⟩
  ·
    have h1' := of_decide_eq_false h1
    refine t_exit rfl ?_
    refine t_seq ?_
    refine t_region ?_
    refine r_op (o_move rfl rfl) ?_
    refine r_op (o_assign rfl rfl) ?_
    refine r_end ?_
    refine t_ret Tryd.func41 (.tmp rfl .nil) rfl fun E S w u hI hd => ?_
    refine post_mk hI hd ?_ ⟨eqR ?_, trivial⟩ rfl rfl rfl <;> clear hI hd <;> (try clear ih0)
    all_goals first | rfl | ((obtain rfl : m = l.length := by omega); simp)
set_option maxHeartbeats 1000000 in
set_option maxRecDepth 10000 in
theorem c_laws_toAtom (a0 : Int) (a1 : List (Int)) (hs : (a1).length ≤ 1048576) : Pu Tryd.prog 22 [.agg [.t none (.v (.int .i64 (a0))), .t none (.sl 1 encI (a1))]] [(3, some (.row none 3 true 1 encI (a1)))] 4 (.agg [.t none (.v (.int .i64 (a0))), .own 3]) := by
  refine pu_enter Tryd.func22 rfl (Nat.le_of_ble_eq_true rfl) fun w S => ?_
  refine t_seq ?_
  refine t_region ?_
  refine r_op (o_box 0 rfl rfl rfl rfl) ?_
  refine r_op (o_alloc 1 (zs := [.int .i64 (0), .slice none 0 0]) rfl rfl (by kernel_rfl) rfl) ?_
  refine r_end ?_
  refine t_seq ?_
  refine t_region ?_
  refine r_op (o_alloc 2 (zs := [.int .i64 (0), .slice none 0 0]) rfl rfl (by kernel_rfl) rfl) ?_
  refine r_end ?_
  refine t_seq ?_
  refine t_region ?_
  refine r_op (o_fieldb rfl (off := 0) (by kernel_rfl) rfl) ?_
  refine r_op (o_load1b rfl (by kernel_rfl) rfl rfl rfl) ?_
  refine r_op (o_fieldb rfl (off := 0) (by kernel_rfl) rfl) ?_
  refine r_op (o_storeb (n := 1) (by kernel_rfl) rfl rfl rfl rfl rfl rfl) ?_
  refine r_end ?_
  refine t_seq ?_
  refine t_region ?_
  refine r_op (o_fieldb rfl (off := 1) (by kernel_rfl) rfl) ?_
  refine r_op (o_load1b rfl (by kernel_rfl) rfl rfl rfl) ?_
  refine r_op (o_call 3 4 false (Go.Proofs.enters_of Tryd.func41 (by kernel_rfl) rfl) (c_laws_toIntS (a1) (by first | omega | (simp; omega))) rfl (.cons rfl (.c .t0) .nil) rfl rfl rfl) ?_
  refine r_op (o_fieldb rfl (off := 1) (by kernel_rfl) rfl) ?_
  refine r_op (o_storeb (n := 1) (by kernel_rfl) rfl rfl rfl rfl rfl rfl) ?_
  refine r_end ?_
  refine t_seq ?_
  refine t_region ?_
  refine r_op (o_loadAb rfl (n := 2) (by kernel_rfl) (by kernel_rfl) rfl rfl rfl) ?_
  refine r_op (o_storeb (n := 2) (by kernel_rfl) rfl rfl rfl rfl rfl rfl) ?_
  refine r_end ?_
  refine t_ret Tryd.func22 (.cells (n := 2) (by kernel_rfl) (by kernel_rfl) rfl rfl rfl .nil) rfl fun E S w u hI hd => ?_
  refine post_mk hI hd ?_ ⟨eqR ?_, trivial⟩ rfl rfl rfl <;> clear hI hd
  all_goals first | rfl | (simp_all <;> omega)
set_option maxHeartbeats 1000000 in
set_option maxRecDepth 10000 in
theorem c_spec_l1In (a0 a1 a2 : Int) : Pu Tryd.prog 30 [.c (.t none (.v (.int .i64 (a0)))), .c (.t none (.v (.int .i64 (a1)))), .c (.t none (.v (.int .i64 (a2))))] [] 0 (.c (.t none (.v (.bool (decide (a1 ≤ a0 ∧ a0 ≤ a2)))))) := by
  refine pu_enter Tryd.func30 rfl (Nat.le_of_ble_eq_true rfl) fun w S => ?_
  refine t_seq ?_
  refine t_region ?_
  refine r_op (o_assign rfl rfl) ?_
  refine r_end ?_
  refine t_seq ?_
  refine t_region ?_
  refine r_op (o_move rfl rfl) ?_
  refine r_op (o_move rfl rfl) ?_
  refine r_op (o_bin rfl rfl rfl rfl) ?_
  refine r_op (o_move rfl rfl) ?_
  refine r_guard rfl rfl rfl (fun g1 => ?_) (fun g1 => ?_)
  ·
    have g1' := of_decide_eq_true g1
    refine r_op (o_move rfl rfl) ?_
    refine r_guard rfl rfl rfl (fun _ => ?_) (nc g1)
    refine r_op (o_move rfl rfl) ?_
    refine r_guard rfl rfl rfl (fun _ => ?_) (nc g1)
    refine r_op (o_bin rfl rfl rfl rfl) ?_
    refine r_op (o_pickT rfl rfl g1 rfl) ?_
    refine r_op (o_assign rfl rfl) ?_
    refine r_end ?_
    refine t_ret Tryd.func30 (.tmp rfl .nil) rfl fun E S w u hI hd => ?_
    refine post_mk hI hd ?_ trivial rfl rfl rfl <;> clear hI hd
    all_goals first | rfl | (simp_all <;> omega)
  ·
    have g1' := of_decide_eq_false g1
    refine r_guard rfl rfl rfl (ncf g1) (fun _ => ?_)
    refine r_guard rfl rfl rfl (ncf g1) (fun _ => ?_)
    refine r_op (o_pickF rfl rfl g1 rfl) ?_
    refine r_op (o_assign rfl rfl) ?_
    refine r_end ?_
    refine t_ret Tryd.func30 (.tmp rfl .nil) rfl fun E S w u hI hd => ?_
    refine post_mk hI hd ?_ trivial rfl rfl rfl <;> clear hI hd
    all_goals first | rfl | (simp_all <;> omega)
set_option maxHeartbeats 1000000 in
set_option maxRecDepth 10000 in
theorem c_spec_IsValidRelation (n : List UInt8) (a : Int) (s : Bool) : Pu Tryd.prog 73 [.agg [.t none (.v (.string (mkS (n)))), .t none (.v (.int .i64 (a))), .t none (.v (.bool (s)))]] [] 0 (.c (.t none (.v (.bool (relOk (n, a, s)))))) := by
  refine pu_enter Tryd.func73 rfl (Nat.le_of_ble_eq_true rfl) fun w S => ?_
  refine t_seq ?_
  refine t_region ?_
  refine r_op (o_box 0 rfl rfl rfl rfl) ?_
  refine r_op (o_assign rfl rfl) ?_
  refine r_end ?_
  refine t_seq ?_
  refine t_region ?_
  refine r_op (o_fieldb rfl (off := 0) (by kernel_rfl) rfl) ?_
  refine r_op (o_load1b rfl (by kernel_rfl) rfl rfl rfl) ?_
  refine r_op (o_lenS rfl Tryd.underlying9 rfl) ?_
  refine r_op (o_bin rfl rfl rfl rfl) ?_
  refine r_op (o_move rfl rfl) ?_
  refine r_guard rfl rfl rfl (fun g1 => ?_) (fun g1 => ?_)
  ·
    have g1' := of_decide_eq_true g1
    refine r_op (o_fieldb rfl (off := 0) (by kernel_rfl) rfl) ?_
    refine r_guard rfl rfl rfl (fun _ => ?_) (nc g1)
    refine r_op (o_load1b rfl (by kernel_rfl) rfl rfl rfl) ?_
    refine r_guard rfl rfl rfl (fun _ => ?_) (nc g1)
    obtain ⟨z2, hz3, b4⟩ := at_get (xs := n) (n := 0) (by first | omega | (simp; omega)) (by first | omega | (simp; omega))
    refine r_op (o_indexS rfl Tryd.underlying9 rfl rfl b4 hz3) ?_
    refine r_guard rfl rfl rfl (fun _ => ?_) (nc g1)
    refine r_op (o_bin rfl rfl rfl rfl) ?_
    refine r_op (o_pickT rfl rfl g1 rfl) ?_
    refine r_op (o_move rfl rfl) ?_
    refine r_guard rfl rfl rfl (fun g5 => ?_) (fun g5 => ?_)
    ·
      have g5' := of_decide_eq_true g5
      refine r_op (o_fieldb rfl (off := 0) (by kernel_rfl) rfl) ?_
      refine r_guard rfl rfl rfl (fun _ => ?_) (nc g5)
      refine r_op (o_load1b rfl (by kernel_rfl) rfl rfl rfl) ?_
      refine r_guard rfl rfl rfl (fun _ => ?_) (nc g5)
      refine r_op (o_indexS rfl Tryd.underlying9 rfl rfl b4 hz3) ?_
      refine r_guard rfl rfl rfl (fun _ => ?_) (nc g5)
      refine r_op (o_bin rfl rfl rfl rfl) ?_
      refine r_op (o_pickT rfl rfl g5 rfl) ?_
      refine r_op (o_move rfl rfl) ?_
      refine r_guard rfl rfl rfl (fun g6 => ?_) (fun g6 => ?_)
      ·
        have g6' := of_decide_eq_true g6
        refine r_op (o_fieldb rfl (off := 1) (by kernel_rfl) rfl) ?_
        refine r_guard rfl rfl rfl (fun _ => ?_) (nc g6)
        refine r_op (o_load1b rfl (by kernel_rfl) rfl rfl rfl) ?_
        refine r_guard rfl rfl rfl (fun _ => ?_) (nc g6)
        refine r_op (o_call 1 1 false (Go.Proofs.enters_of Tryd.func30 (by kernel_rfl) rfl) (c_spec_l1In (a) (1) (3)) rfl (.cons rfl (.c .t0) (.cons rfl (.c .t0) (.cons rfl (.c .t0) .nil))) rfl rfl rfl) ?_
        refine r_op (o_pickT rfl rfl g6 rfl) ?_
        refine r_op (o_assign rfl rfl) ?_
        refine r_end ?_
        refine t_ret Tryd.func73 (.tmp rfl .nil) rfl fun E S w u hI hd => ?_
        refine post_mk hI hd ?_ trivial rfl rfl rfl <;> clear hI hd
        all_goals first | rfl | (refine scB ?_; first | (have e := nameOk_not (by assumption); simp [relOk, e]; done) | (obtain ⟨c, rfl⟩ := one_of (by assumption); simp at *; subst_vars; simp [relOk, nameOk]; omega))
      ·
        have g6' := of_decide_eq_false g6
        refine r_guard rfl rfl rfl (ncf g6) (fun _ => ?_)
        refine r_guard rfl rfl rfl (ncf g6) (fun _ => ?_)
        refine r_op (o_pickF rfl rfl g6 rfl) ?_
        refine r_op (o_assign rfl rfl) ?_
        refine r_end ?_
        refine t_ret Tryd.func73 (.tmp rfl .nil) rfl fun E S w u hI hd => ?_
        refine post_mk hI hd ?_ trivial rfl rfl rfl <;> clear hI hd
        all_goals first | rfl | (refine scB ?_; first | (have e := nameOk_not (by assumption); simp [relOk, e]; done) | (obtain ⟨c, rfl⟩ := one_of (by assumption); simp at *; subst_vars; simp [relOk, nameOk]; omega))
    ·
      have g5' := of_decide_eq_false g5
      refine r_guard rfl rfl rfl (ncf g5) (fun _ => ?_)
      refine r_guard rfl rfl rfl (ncf g5) (fun _ => ?_)
      refine r_guard rfl rfl rfl (ncf g5) (fun _ => ?_)
      refine r_op (o_pickF rfl rfl g5 rfl) ?_
      refine r_op (o_move rfl rfl) ?_
      refine r_guard rfl rfl rfl (ncf rfl) (fun _ => ?_)
      refine r_guard rfl rfl rfl (ncf rfl) (fun _ => ?_)
      refine r_guard rfl rfl rfl (ncf rfl) (fun _ => ?_)
      refine r_op (o_pickF rfl rfl rfl rfl) ?_
      refine r_op (o_assign rfl rfl) ?_
      refine r_end ?_
      refine t_ret Tryd.func73 (.tmp rfl .nil) rfl fun E S w u hI hd => ?_
      refine post_mk hI hd ?_ trivial rfl rfl rfl <;> clear hI hd
      all_goals first | rfl | (refine scB ?_; first | (have e := nameOk_not (by assumption); simp [relOk, e]; done) | (obtain ⟨c, rfl⟩ := one_of (by assumption); simp at *; subst_vars; simp [relOk, nameOk]; omega))
  ·
    have g1' := of_decide_eq_false g1
    refine r_guard rfl rfl rfl (ncf g1) (fun _ => ?_)
    refine r_guard rfl rfl rfl (ncf g1) (fun _ => ?_)
    refine r_guard rfl rfl rfl (ncf g1) (fun _ => ?_)
    refine r_op (o_pickF rfl rfl g1 rfl) ?_
    refine r_op (o_move rfl rfl) ?_
    refine r_guard rfl rfl rfl (ncf rfl) (fun _ => ?_)
    refine r_guard rfl rfl rfl (ncf rfl) (fun _ => ?_)
    refine r_guard rfl rfl rfl (ncf rfl) (fun _ => ?_)
    refine r_guard rfl rfl rfl (ncf rfl) (fun _ => ?_)
    refine r_op (o_pickF rfl rfl rfl rfl) ?_
    refine r_op (o_move rfl rfl) ?_
    refine r_guard rfl rfl rfl (ncf rfl) (fun _ => ?_)
    refine r_guard rfl rfl rfl (ncf rfl) (fun _ => ?_)
    refine r_guard rfl rfl rfl (ncf rfl) (fun _ => ?_)
    refine r_op (o_pickF rfl rfl rfl rfl) ?_
    refine r_op (o_assign rfl rfl) ?_
    refine r_end ?_
    refine t_ret Tryd.func73 (.tmp rfl .nil) rfl fun E S w u hI hd => ?_
    refine post_mk hI hd ?_ trivial rfl rfl rfl <;> clear hI hd
    all_goals first | rfl | (refine scB ?_; first | (have e := nameOk_not (by assumption); simp [relOk, e]; done) | (obtain ⟨c, rfl⟩ := one_of (by assumption); simp at *; subst_vars; simp [relOk, nameOk]; omega))
set_option maxHeartbeats 1000000 in
set_option maxRecDepth 10000 in
theorem c_spec_AreValidRelations (l : List (List UInt8 × Int × Bool)) (hl : l.length ≤ 4611686018427387904) : Pu Tryd.prog 55 [.c (.t none (.sl 3 (enS3 encS encI encB) (l)))] [] 0 (.c (.t none (.v (.bool (relsOk l))))) := by
  refine pu_enter Tryd.func55 rfl (Nat.le_of_ble_eq_true rfl) fun w S => ?_
  refine t_seq ?_
  refine t_region ?_
  refine r_op (o_assign rfl rfl) ?_
  refine r_end ?_
  refine t_seq ?_
  refine t_seq ?_
  refine t_region ?_
  refine r_op (o_assign rfl rfl) ?_
  refine r_end ?_
  refine t_block ?_
  refine t_loopL (fun m => ⟨[(0, some (.c (.t none (.sl 3 (enS3 encS encI encB) (l))))), (3, some (.c (.t none (.v (.int .i64 ((m : Int)))))))], [], 0⟩ : Nat → St) (fun m => m ≤ l.length ∧ ∀ j, j < m → relStep l j = true) (fun m => l.length - m) 0 ⟨⟨rfl, ⟨rfl, trivial⟩⟩, trivial, rfl⟩ (by exact ⟨Nat.zero_le _, fun j h => by omega⟩) ?_
  rintro m hI ih0
  try dsimp only at hI ih0
  obtain ⟨i1, i2⟩ := hI
  refine t_seq ?_
  refine t_seq ?_
  refine t_region ?_
  refine r_op (o_move rfl rfl) ?_
  refine r_op (o_move rfl rfl) ?_
  refine r_op (o_len rfl rfl rfl) ?_
  refine r_op (o_bin rfl rfl rfl rfl) ?_
  refine r_end ?_
  refine t_cond rfl (fun h1 => ?_) (fun h1 => ?_)
  ·
    have h1' := of_decide_eq_true h1
    refine t_skip ?_
    refine t_seq ?_
    refine t_block ?_
    refine t_seq ?_
    refine t_draw (fun _ => true) (by kernel_rfl) ?_
    refine d_take 0 rfl rfl (by kernel_rfl) (by kernel_rfl) (by kernel_rfl) (p_move rfl) ?_
    refine d_take 1 rfl rfl (by kernel_rfl) (by kernel_rfl) (by kernel_rfl) (p_move rfl) ?_
    obtain ⟨z2, hz3, b4⟩ := at_get (xs := l) (n := (m : Int)) (by first | omega | (simp; omega) | (simp only [IntKind.wrap_i64]; omega)) (by first | omega | (simp; omega) | (simp only [IntKind.wrap_i64]; omega))
    refine d_take 2 rfl rfl (by kernel_rfl) (by kernel_rfl) (by kernel_rfl) (p_index (by kernel_rfl) rfl rfl b4 hz3) ?_
    refine d_take 3 rfl rfl (by kernel_rfl) (by kernel_rfl) (by kernel_rfl) (p_loadA (n := 3) (by kernel_rfl) (by kernel_rfl) rfl rfl) ?_
    refine d_only 4 rfl (by kernel_rfl) rfl (o_call 0 0 false (Go.Proofs.enters_of Tryd.func73 (by kernel_rfl) rfl) (c_spec_IsValidRelation (z2.1) (z2.2.1) (z2.2.2)) rfl (.cons rfl (.agg (.cons .t0 (.cons .t0 (.cons .t0 .nil)))) .nil) rfl rfl rfl) ?_
    refine d_take 5 rfl rfl (by kernel_rfl) (by kernel_rfl) (by kernel_rfl) (p_not rfl) ?_
    refine d_take 6 rfl rfl (by kernel_rfl) (by kernel_rfl) (by kernel_rfl) (p_move rfl) ?_
    refine d_guard 7 rfl rfl (by kernel_rfl) (by kernel_rfl) (by kernel_rfl) rfl rfl (fun _ => p_move rfl) (fun g5 => ?_) (fun g5 => ?_)
    ·
      have g5' := (bnf g5)
      refine d_guard 8 rfl rfl (by kernel_rfl) (by kernel_rfl) (by kernel_rfl) rfl rfl (fun _ => p_bin rfl rfl rfl) (fun _ => ?_) (ncf g5)
      refine d_guard 9 rfl rfl (by kernel_rfl) (by kernel_rfl) (by kernel_rfl) rfl rfl (fun _ => p_move rfl) (fun _ => ?_) (ncf g5)
      refine d_guard 10 rfl rfl (by kernel_rfl) (by kernel_rfl) (by kernel_rfl) rfl rfl (fun _ => p_move rfl) (fun g6 => ?_) (fun g6 => ?_)
      ·
        have g6' := of_decide_eq_true g6
        refine d_guard 11 rfl rfl (by kernel_rfl) (by kernel_rfl) (by kernel_rfl) rfl rfl (fun _ => p_move rfl) (fun _ => ?_) (nc g6)
        refine d_guard 12 rfl rfl (by kernel_rfl) (by kernel_rfl) (by kernel_rfl) rfl rfl (fun _ => p_bin rfl rfl rfl) (fun _ => ?_) (nc g6)
        obtain ⟨z7, hz8, b9⟩ := at_get (xs := l) (n := IntKind.i64.wrap ((m : Int) - 1)) (by first | omega | (simp; omega) | (simp only [IntKind.wrap_i64]; omega)) (by first | omega | (simp; omega) | (simp only [IntKind.wrap_i64]; omega))
        refine d_guard 13 rfl rfl (by kernel_rfl) (by kernel_rfl) (by kernel_rfl) rfl rfl (fun _ => p_index (by kernel_rfl) rfl rfl b9 hz8) (fun _ => ?_) (nc g6)
        refine d_guard 14 rfl rfl (by kernel_rfl) (by kernel_rfl) (by kernel_rfl) rfl rfl (fun _ => p_field (off := 0) (by kernel_rfl) rfl) (fun _ => ?_) (nc g6)
        refine d_guard 15 rfl rfl (by kernel_rfl) (by kernel_rfl) (by kernel_rfl) rfl rfl (fun _ => p_load1 (by kernel_rfl) rfl rfl) (fun _ => ?_) (nc g6)
        refine d_guard 16 rfl rfl (by kernel_rfl) (by kernel_rfl) (by kernel_rfl) rfl rfl (fun _ => p_move rfl) (fun _ => ?_) (nc g6)
        refine d_guard 17 rfl rfl (by kernel_rfl) (by kernel_rfl) (by kernel_rfl) rfl rfl (fun _ => p_move rfl) (fun _ => ?_) (nc g6)
        refine d_guard 18 rfl rfl (by kernel_rfl) (by kernel_rfl) (by kernel_rfl) rfl rfl (fun _ => p_index (by kernel_rfl) rfl rfl b4 hz3) (fun _ => ?_) (nc g6)
        refine d_guard 19 rfl rfl (by kernel_rfl) (by kernel_rfl) (by kernel_rfl) rfl rfl (fun _ => p_field (off := 0) (by kernel_rfl) rfl) (fun _ => ?_) (nc g6)
        refine d_guard 20 rfl rfl (by kernel_rfl) (by kernel_rfl) (by kernel_rfl) rfl rfl (fun _ => p_load1 (by kernel_rfl) rfl rfl) (fun _ => ?_) (nc g6)
        refine d_guard 21 rfl rfl (by kernel_rfl) (by kernel_rfl) (by kernel_rfl) rfl rfl (fun _ => p_str rfl rfl rfl) (fun _ => ?_) (nc g6)
        refine d_guard 22 rfl rfl (by kernel_rfl) (by kernel_rfl) (by kernel_rfl) rfl rfl (fun _ => p_pickT rfl g6 rfl) (fun _ => ?_) (ncf g5)
        refine d_take 23 rfl rfl (by kernel_rfl) (by kernel_rfl) (by kernel_rfl) (p_pickF rfl g5 rfl) ?_
        refine d_end (by kernel_rfl) ?_
        refine t_cond rfl (fun h10 => ?_) (fun h10 => ?_)
        ·
          have h10' := (bnt h10)
          refine t_seq ?_
          refine t_region ?_
          refine r_op (o_assign rfl rfl) ?_
          refine r_end ?_
          refine t_ret Tryd.func55 (.tmp rfl .nil) rfl fun E S w u hI hd => ?_
          refine post_mk hI hd ?_ trivial rfl rfl rfl <;> clear hI hd <;> (try clear ih0)
          all_goals first | rfl | (rw [relsOk_not (m := m) (by omega) (relStep_pos (n := (IntKind.i64.wrap ((m : Int) - 1)).toNat) (by assumption) (by assumption) (by omega) (by simp only [IntKind.wrap_i64]; omega) (by assumption) (by assumption))])
        ·
          have h10' := (bnf h10)
          refine t_skip ?_
          refine t_endblock ?_
          refine t_region ?_
          refine r_op (o_move rfl rfl) ?_
          refine r_op (o_bin rfl rfl rfl rfl) ?_
          refine r_op (o_assign rfl rfl) ?_
          refine r_end ?_
          refine t_le ?_ (ih0 (m + 1) (by (try dsimp only); omega) (by (try dsimp only); exact ⟨by omega, step_all i2 (relStep_pos (n := (IntKind.i64.wrap ((m : Int) - 1)).toNat) (by assumption) (by assumption) (by omega) (by simp only [IntKind.wrap_i64]; omega) (by assumption) (by assumption))⟩))
          exact ⟨⟨rfl, ⟨(eqI (wr64 (by omega) (by omega))), trivial⟩⟩, trivial, rfl⟩
      ·
        have g6' := of_decide_eq_false g6
        refine d_guard 11 rfl rfl (by kernel_rfl) (by kernel_rfl) (by kernel_rfl) rfl rfl (v := .c .top) (ncf g6) (ncf g6) (fun _ => ?_)
        refine d_guard 12 rfl rfl (by kernel_rfl) (by kernel_rfl) (by kernel_rfl) rfl rfl (v := .c .top) (ncf g6) (ncf g6) (fun _ => ?_)
        refine d_guard 13 rfl rfl (by kernel_rfl) (by kernel_rfl) (by kernel_rfl) rfl rfl (v := .c .top) (ncf g6) (ncf g6) (fun _ => ?_)
        refine d_guard 14 rfl rfl (by kernel_rfl) (by kernel_rfl) (by kernel_rfl) rfl rfl (v := .c .top) (ncf g6) (ncf g6) (fun _ => ?_)
        refine d_guard 15 rfl rfl (by kernel_rfl) (by kernel_rfl) (by kernel_rfl) rfl rfl (v := .c .top) (ncf g6) (ncf g6) (fun _ => ?_)
        refine d_guard 16 rfl rfl (by kernel_rfl) (by kernel_rfl) (by kernel_rfl) rfl rfl (v := .c .top) (ncf g6) (ncf g6) (fun _ => ?_)
        refine d_guard 17 rfl rfl (by kernel_rfl) (by kernel_rfl) (by kernel_rfl) rfl rfl (v := .c .top) (ncf g6) (ncf g6) (fun _ => ?_)
        refine d_guard 18 rfl rfl (by kernel_rfl) (by kernel_rfl) (by kernel_rfl) rfl rfl (v := .c .top) (ncf g6) (ncf g6) (fun _ => ?_)
        refine d_guard 19 rfl rfl (by kernel_rfl) (by kernel_rfl) (by kernel_rfl) rfl rfl (v := .c .top) (ncf g6) (ncf g6) (fun _ => ?_)
        refine d_guard 20 rfl rfl (by kernel_rfl) (by kernel_rfl) (by kernel_rfl) rfl rfl (v := .c .top) (ncf g6) (ncf g6) (fun _ => ?_)
        refine d_guard 21 rfl rfl (by kernel_rfl) (by kernel_rfl) (by kernel_rfl) rfl rfl (v := .c .top) (ncf g6) (ncf g6) (fun _ => ?_)
        refine d_guard 22 rfl rfl (by kernel_rfl) (by kernel_rfl) (by kernel_rfl) rfl rfl (fun _ => p_pickF rfl g6 rfl) (fun _ => ?_) (ncf g5)
        refine d_take 23 rfl rfl (by kernel_rfl) (by kernel_rfl) (by kernel_rfl) (p_pickF rfl g5 rfl) ?_
        refine d_end (by kernel_rfl) ?_
        refine t_cond rfl (ncf rfl) (fun _ => ?_)
        refine t_skip ?_
        refine t_endblock ?_
        refine t_region ?_
        refine r_op (o_move rfl rfl) ?_
        refine r_op (o_bin rfl rfl rfl rfl) ?_
        refine r_op (o_assign rfl rfl) ?_
        refine r_end ?_
        refine t_le ?_ (ih0 (m + 1) (by (try dsimp only); omega) (by (try dsimp only); exact ⟨by omega, step_all i2 (relStep_zero (by assumption) (by assumption) (by omega))⟩))
        exact ⟨⟨rfl, ⟨(eqI (wr64 (by omega) (by omega))), trivial⟩⟩, trivial, rfl⟩
    ·
      have g5' := (bnt g5)
      refine d_guard 8 rfl rfl (by kernel_rfl) (by kernel_rfl) (by kernel_rfl) rfl rfl (v := .c .top) (nc g5) (nc g5) (fun _ => ?_)
      refine d_guard 9 rfl rfl (by kernel_rfl) (by kernel_rfl) (by kernel_rfl) rfl rfl (v := .c .top) (nc g5) (nc g5) (fun _ => ?_)
      refine d_skip 10 rfl rfl (by kernel_rfl) (by kernel_rfl) (by kernel_rfl) rfl rfl ?_
      refine d_skip 11 rfl rfl (by kernel_rfl) (by kernel_rfl) (by kernel_rfl) rfl rfl ?_
      refine d_skip 12 rfl rfl (by kernel_rfl) (by kernel_rfl) (by kernel_rfl) rfl rfl ?_
      refine d_skip 13 rfl rfl (by kernel_rfl) (by kernel_rfl) (by kernel_rfl) rfl rfl ?_
      refine d_skip 14 rfl rfl (by kernel_rfl) (by kernel_rfl) (by kernel_rfl) rfl rfl ?_
      refine d_skip 15 rfl rfl (by kernel_rfl) (by kernel_rfl) (by kernel_rfl) rfl rfl ?_
      refine d_skip 16 rfl rfl (by kernel_rfl) (by kernel_rfl) (by kernel_rfl) rfl rfl ?_
      refine d_skip 17 rfl rfl (by kernel_rfl) (by kernel_rfl) (by kernel_rfl) rfl rfl ?_
      refine d_skip 18 rfl rfl (by kernel_rfl) (by kernel_rfl) (by kernel_rfl) rfl rfl ?_
      refine d_skip 19 rfl rfl (by kernel_rfl) (by kernel_rfl) (by kernel_rfl) rfl rfl ?_
      refine d_skip 20 rfl rfl (by kernel_rfl) (by kernel_rfl) (by kernel_rfl) rfl rfl ?_
      refine d_skip 21 rfl rfl (by kernel_rfl) (by kernel_rfl) (by kernel_rfl) rfl rfl ?_
      refine d_guard 22 rfl rfl (by kernel_rfl) (by kernel_rfl) (by kernel_rfl) rfl rfl (v := .c .top) (nc g5) (nc g5) (fun _ => ?_)
      refine d_take 23 rfl rfl (by kernel_rfl) (by kernel_rfl) (by kernel_rfl) (p_pickT rfl g5 rfl) ?_
      refine d_end (by kernel_rfl) ?_
      refine t_cond rfl (fun _ => ?_) (nc rfl)
      refine t_seq ?_
      refine t_region ?_
      refine r_op (o_assign rfl rfl) ?_
      refine r_end ?_
      refine t_ret Tryd.func55 (.tmp rfl .nil) rfl fun E S w u hI hd => ?_
      refine post_mk hI hd ?_ trivial rfl rfl rfl <;> clear hI hd <;> (try clear ih0)
      all_goals first | rfl | (rw [relsOk_not (m := m) (by omega) (relStep_bad (by assumption) (by assumption))])
  ·
    have h1' := of_decide_eq_false h1
    refine t_exit rfl ?_
    refine t_seq ?_
    refine t_region ?_
    refine r_op (o_move rfl rfl) ?_
    refine r_op (o_len rfl rfl rfl) ?_
    refine r_op (o_bin rfl rfl rfl rfl) ?_
    refine r_op (o_assign rfl rfl) ?_
    refine r_end ?_
    refine t_ret Tryd.func55 (.tmp rfl .nil) rfl fun E S w u hI hd => ?_
    refine post_mk hI hd ?_ trivial rfl rfl rfl <;> clear hI hd <;> (try clear ih0)
    all_goals first | rfl | (rw [relsOk_end (m := m) i2 (by omega)]; exact scD (by omega))
set_option maxHeartbeats 1000000 in
set_option maxRecDepth 10000 in
theorem c_spec_IsValidAtom (rs : List (List UInt8 × Int × Bool)) (r : Int) (ts : List Int) (hrs : rs.length ≤ 4611686018427387904) (hts : ts.length ≤ 4611686018427387904) : Pu Tryd.prog 45 [.c (.t none (.sl 3 (enS3 encS encI encB) (rs))), .agg [.t none (.v (.int .i64 (r))), .t none (.sl 1 encI (ts))]] [] 0 (.c (.t none (.v (.bool (atomOk rs r ts))))) := by
  refine pu_enter Tryd.func45 rfl (Nat.le_of_ble_eq_true rfl) fun w S => ?_
  refine t_seq ?_
  refine t_region ?_
  refine r_op (o_box 0 rfl rfl rfl rfl) ?_
  refine r_op (o_assign rfl rfl) ?_
  refine r_end ?_
  refine t_seq ?_
  refine t_seq ?_
  refine t_draw (fun _ => true) (by kernel_rfl) ?_
  refine d_take 0 rfl rfl (by kernel_rfl) (by kernel_rfl) (by kernel_rfl) (p_move rfl) ?_
  refine d_only 1 rfl (by kernel_rfl) rfl (o_call 1 1 false (Go.Proofs.enters_of Tryd.func55 (by kernel_rfl) rfl) (c_spec_AreValidRelations (rs) (by first | omega | assumption | (simp; omega) | (simp only [IntKind.wrap_i64] at *; omega))) rfl (.cons rfl (.c .t0) .nil) rfl rfl rfl) ?_
  refine d_take 2 rfl rfl (by kernel_rfl) (by kernel_rfl) (by kernel_rfl) (p_not rfl) ?_
  refine d_take 3 rfl rfl (by kernel_rfl) (by kernel_rfl) (by kernel_rfl) (p_move rfl) ?_
  refine d_guard 4 rfl rfl (by kernel_rfl) (by kernel_rfl) (by kernel_rfl) rfl rfl (fun _ => p_fieldb (off := 0) (by kernel_rfl) rfl) (fun g1 => ?_) (fun g1 => ?_)
  ·
    have g1' := (bnf g1)
    refine d_guard 5 rfl rfl (by kernel_rfl) (by kernel_rfl) (by kernel_rfl) rfl rfl (fun _ => p_load1b (by kernel_rfl) rfl rfl rfl) (fun _ => ?_) (ncf g1)
    refine d_guard 6 rfl rfl (by kernel_rfl) (by kernel_rfl) (by kernel_rfl) rfl rfl (fun _ => p_move rfl) (fun _ => ?_) (ncf g1)
    refine d_guard 7 rfl rfl (by kernel_rfl) (by kernel_rfl) (by kernel_rfl) rfl rfl (fun _ => p_len rfl rfl) (fun _ => ?_) (ncf g1)
    refine d_guard 8 rfl rfl (by kernel_rfl) (by kernel_rfl) (by kernel_rfl) rfl rfl (fun _ => p_bin rfl rfl rfl) (fun _ => ?_) (ncf g1)
    refine d_onlyG 9 rfl rfl (by kernel_rfl) rfl rfl rfl (fun _ => (o_call 1 1 false (Go.Proofs.enters_of Tryd.func30 (by kernel_rfl) rfl) (c_spec_l1In (r) (0) (IntKind.i64.wrap (((rs).length : Int) - 1))) rfl (.cons rfl (.c .t0) (.cons rfl (.c .t0) (.cons rfl (.c .t0) .nil))) rfl rfl rfl)) (fun _ => ?_) (ncf g1)
    refine d_guard 10 rfl rfl (by kernel_rfl) (by kernel_rfl) (by kernel_rfl) rfl rfl (fun _ => p_not rfl) (fun _ => ?_) (ncf g1)
    refine d_take 11 rfl rfl (by kernel_rfl) (by kernel_rfl) (by kernel_rfl) (p_pickF rfl g1 rfl) ?_
    refine d_take 12 rfl rfl (by kernel_rfl) (by kernel_rfl) (by kernel_rfl) (p_move rfl) ?_
    refine d_guard 13 rfl rfl (by kernel_rfl) (by kernel_rfl) (by kernel_rfl) rfl rfl (fun _ => p_fieldb (off := 1) (by kernel_rfl) rfl) (fun g2 => ?_) (fun g2 => ?_)
    ·
      have g2' := of_decide_eq_true (bnf g2)
      refine d_guard 14 rfl rfl (by kernel_rfl) (by kernel_rfl) (by kernel_rfl) rfl rfl (fun _ => p_load1b (by kernel_rfl) rfl rfl rfl) (fun _ => ?_) (ncf g2)
      refine d_guard 15 rfl rfl (by kernel_rfl) (by kernel_rfl) (by kernel_rfl) rfl rfl (fun _ => p_len rfl rfl) (fun _ => ?_) (ncf g2)
      refine d_guard 16 rfl rfl (by kernel_rfl) (by kernel_rfl) (by kernel_rfl) rfl rfl (fun _ => p_move rfl) (fun _ => ?_) (ncf g2)
      refine d_guard 17 rfl rfl (by kernel_rfl) (by kernel_rfl) (by kernel_rfl) rfl rfl (fun _ => p_fieldb (off := 0) (by kernel_rfl) rfl) (fun _ => ?_) (ncf g2)
      refine d_guard 18 rfl rfl (by kernel_rfl) (by kernel_rfl) (by kernel_rfl) rfl rfl (fun _ => p_load1b (by kernel_rfl) rfl rfl rfl) (fun _ => ?_) (ncf g2)
      obtain ⟨z3, hz4, b5⟩ := at_get (xs := rs) (n := r) (by first | omega | assumption | (simp; omega) | (simp only [IntKind.wrap_i64] at *; omega)) (by first | omega | assumption | (simp; omega) | (simp only [IntKind.wrap_i64] at *; omega))
      refine d_guard 19 rfl rfl (by kernel_rfl) (by kernel_rfl) (by kernel_rfl) rfl rfl (fun _ => p_index (by kernel_rfl) rfl rfl b5 hz4) (fun _ => ?_) (ncf g2)
      refine d_guard 20 rfl rfl (by kernel_rfl) (by kernel_rfl) (by kernel_rfl) rfl rfl (fun _ => p_field (off := 1) (by kernel_rfl) rfl) (fun _ => ?_) (ncf g2)
      refine d_guard 21 rfl rfl (by kernel_rfl) (by kernel_rfl) (by kernel_rfl) rfl rfl (fun _ => p_load1 (by kernel_rfl) rfl rfl) (fun _ => ?_) (ncf g2)
      refine d_guard 22 rfl rfl (by kernel_rfl) (by kernel_rfl) (by kernel_rfl) rfl rfl (fun _ => p_bin rfl rfl rfl) (fun _ => ?_) (ncf g2)
      refine d_take 23 rfl rfl (by kernel_rfl) (by kernel_rfl) (by kernel_rfl) (p_pickF rfl g2 rfl) ?_
      refine d_end (by kernel_rfl) ?_
      refine t_cond rfl (fun h6 => ?_) (fun h6 => ?_)
      ·
        have h6' := of_decide_eq_true h6
        refine t_seq ?_
        refine t_region ?_
        refine r_op (o_assign rfl rfl) ?_
        refine r_end ?_
        refine t_ret Tryd.func45 (.tmp rfl .nil) rfl fun E S w u hI hd => ?_
        refine post_mk hI hd ?_ trivial rfl rfl rfl <;> clear hI hd <;> (try clear ih0)
        all_goals first | rfl | (refine scB ?_; first | (rw [atom_no1 (by assumption)]; done) | (rw [atom_no2 (by simp only [IntKind.wrap_i64] at *; omega)]; done) | (rw [atom_no3 (by assumption) (by assumption)]; done) | (rw [atom_yes (by assumption) (by simp only [IntKind.wrap_i64] at *; omega) (by assumption) (by omega)]; done) | (rw [atom_yes (by assumption) (by simp only [IntKind.wrap_i64] at *; omega) (by assumption) (by omega), any_true (p := fun t => !termOk t) (by assumption) (by simp only [termOk, Bool.not_eq_true']; exact decide_eq_false (by assumption))]; rfl) | (rw [atom_yes (by assumption) (by simp only [IntKind.wrap_i64] at *; omega) (by assumption) (by omega), any_false (p := fun t => !termOk t) i2 (by omega)]; rfl))
      ·
        have h6' := of_decide_eq_false h6
        refine t_skip ?_
        refine t_seq ?_
        refine t_seq ?_
        refine t_region ?_
        refine r_op (o_assign rfl rfl) ?_
        refine r_end ?_
        refine t_block ?_
        refine t_loopL (fun m => ⟨[(3, some (.c (.ptr 0 0))), (5, some (.c (.t none (.v (.int .i64 ((m : Int)))))))], [(0, some (.box [.t none (.v (.int .i64 (r))), .t none (.sl 1 encI (ts))]))], 1⟩ : Nat → St) (fun m => m ≤ ts.length ∧ ∀ j z, j < m → ts[j]? = some z → (fun t => !termOk t) z = false) (fun m => ts.length - m) 0 ⟨⟨rfl, ⟨rfl, trivial⟩⟩, ⟨rfl, trivial⟩, rfl⟩ (by exact ⟨Nat.zero_le _, fun j z h => by omega⟩) ?_
        rintro m hI ih0
        try dsimp only at hI ih0
        obtain ⟨i1, i2⟩ := hI
        refine t_seq ?_
        refine t_seq ?_
        refine t_region ?_
        refine r_op (o_move rfl rfl) ?_
        refine r_op (o_fieldb rfl (off := 1) (by kernel_rfl) rfl) ?_
        refine r_op (o_load1b rfl (by kernel_rfl) rfl rfl rfl) ?_
        refine r_op (o_len rfl rfl rfl) ?_
        refine r_op (o_bin rfl rfl rfl rfl) ?_
        refine r_end ?_
        refine t_cond rfl (fun h7 => ?_) (fun h7 => ?_)
        ·
          have h7' := of_decide_eq_true h7
          refine t_skip ?_
          refine t_seq ?_
          refine t_block ?_
          refine t_seq ?_
          refine t_region ?_
          refine r_op (o_fieldb rfl (off := 1) (by kernel_rfl) rfl) ?_
          refine r_op (o_load1b rfl (by kernel_rfl) rfl rfl rfl) ?_
          refine r_op (o_move rfl rfl) ?_
          obtain ⟨z8, hz9, b10⟩ := at_get (xs := ts) (n := (m : Int)) (by first | omega | assumption | (simp; omega) | (simp only [IntKind.wrap_i64] at *; omega)) (by first | omega | assumption | (simp; omega) | (simp only [IntKind.wrap_i64] at *; omega))
          refine r_op (o_index rfl (by kernel_rfl) rfl rfl b10 hz9) ?_
          refine r_op (o_load1 rfl (by kernel_rfl) rfl rfl) ?_
          refine r_op (o_call 1 1 false (Go.Proofs.enters_of Tryd.func30 (by kernel_rfl) rfl) (c_spec_l1In (z8) (-10) (4)) rfl (.cons rfl (.c .t0) (.cons rfl (.c .t0) (.cons rfl (.c .t0) .nil))) rfl rfl rfl) ?_
          refine r_op (o_not rfl rfl) ?_
          refine r_end ?_
          refine t_cond rfl (fun h11 => ?_) (fun h11 => ?_)
          ·
            have h11' := of_decide_eq_false (bnt h11)
            refine t_seq ?_
            refine t_region ?_
            refine r_op (o_assign rfl rfl) ?_
            refine r_end ?_
            refine t_ret Tryd.func45 (.tmp rfl .nil) rfl fun E S w u hI hd => ?_
            refine post_mk hI hd ?_ trivial rfl rfl rfl <;> clear hI hd <;> (try clear ih0)
            all_goals first | rfl | (refine scB ?_; first | (rw [atom_no1 (by assumption)]; done) | (rw [atom_no2 (by simp only [IntKind.wrap_i64] at *; omega)]; done) | (rw [atom_no3 (by assumption) (by assumption)]; done) | (rw [atom_yes (by assumption) (by simp only [IntKind.wrap_i64] at *; omega) (by assumption) (by omega)]; done) | (rw [atom_yes (by assumption) (by simp only [IntKind.wrap_i64] at *; omega) (by assumption) (by omega), any_true (p := fun t => !termOk t) (by assumption) (by simp only [termOk, Bool.not_eq_true']; exact decide_eq_false (by assumption))]; rfl) | (rw [atom_yes (by assumption) (by simp only [IntKind.wrap_i64] at *; omega) (by assumption) (by omega), any_false (p := fun t => !termOk t) i2 (by omega)]; rfl))
          ·
            have h11' := of_decide_eq_true (bnf h11)
            refine t_skip ?_
            refine t_endblock ?_
            refine t_region ?_
            refine r_op (o_move rfl rfl) ?_
            refine r_op (o_bin rfl rfl rfl rfl) ?_
            refine r_op (o_assign rfl rfl) ?_
            refine r_end ?_
            refine t_le ?_ (ih0 (m + 1) (by (try dsimp only); omega) (by (try dsimp only); exact ⟨by omega, no_step i2 (by assumption) rfl (by simp only [termOk, Bool.not_eq_false']; exact decide_eq_true (by assumption))⟩))
            exact ⟨⟨rfl, ⟨(eqI (wr64 (by omega) (by omega))), trivial⟩⟩, ⟨rfl, trivial⟩, rfl⟩
        ·
          have h7' := of_decide_eq_false h7
          refine t_exit rfl ?_
          refine t_seq ?_
          refine t_region ?_
          refine r_op (o_assign rfl rfl) ?_
          refine r_end ?_
          refine t_ret Tryd.func45 (.tmp rfl .nil) rfl fun E S w u hI hd => ?_
          refine post_mk hI hd ?_ trivial rfl rfl rfl <;> clear hI hd <;> (try clear ih0)
          all_goals first | rfl | (refine scB ?_; first | (rw [atom_no1 (by assumption)]; done) | (rw [atom_no2 (by simp only [IntKind.wrap_i64] at *; omega)]; done) | (rw [atom_no3 (by assumption) (by assumption)]; done) | (rw [atom_yes (by assumption) (by simp only [IntKind.wrap_i64] at *; omega) (by assumption) (by omega)]; done) | (rw [atom_yes (by assumption) (by simp only [IntKind.wrap_i64] at *; omega) (by assumption) (by omega), any_true (p := fun t => !termOk t) (by assumption) (by simp only [termOk, Bool.not_eq_true']; exact decide_eq_false (by assumption))]; rfl) | (rw [atom_yes (by assumption) (by simp only [IntKind.wrap_i64] at *; omega) (by assumption) (by omega), any_false (p := fun t => !termOk t) i2 (by omega)]; rfl))
    ·
      have g2' := of_decide_eq_false (bnt g2)
      refine d_guard 14 rfl rfl (by kernel_rfl) (by kernel_rfl) (by kernel_rfl) rfl rfl (v := .c .top) (nc g2) (nc g2) (fun _ => ?_)
      refine d_guard 15 rfl rfl (by kernel_rfl) (by kernel_rfl) (by kernel_rfl) rfl rfl (v := .c .top) (nc g2) (nc g2) (fun _ => ?_)
      refine d_guard 16 rfl rfl (by kernel_rfl) (by kernel_rfl) (by kernel_rfl) rfl rfl (v := .c .top) (nc g2) (nc g2) (fun _ => ?_)
      refine d_guard 17 rfl rfl (by kernel_rfl) (by kernel_rfl) (by kernel_rfl) rfl rfl (v := .c .top) (nc g2) (nc g2) (fun _ => ?_)
      refine d_guard 18 rfl rfl (by kernel_rfl) (by kernel_rfl) (by kernel_rfl) rfl rfl (v := .c .top) (nc g2) (nc g2) (fun _ => ?_)
      refine d_guard 19 rfl rfl (by kernel_rfl) (by kernel_rfl) (by kernel_rfl) rfl rfl (v := .c .top) (nc g2) (nc g2) (fun _ => ?_)
      refine d_guard 20 rfl rfl (by kernel_rfl) (by kernel_rfl) (by kernel_rfl) rfl rfl (v := .c .top) (nc g2) (nc g2) (fun _ => ?_)
      refine d_guard 21 rfl rfl (by kernel_rfl) (by kernel_rfl) (by kernel_rfl) rfl rfl (v := .c .top) (nc g2) (nc g2) (fun _ => ?_)
      refine d_guard 22 rfl rfl (by kernel_rfl) (by kernel_rfl) (by kernel_rfl) rfl rfl (v := .c .top) (nc g2) (nc g2) (fun _ => ?_)
      refine d_take 23 rfl rfl (by kernel_rfl) (by kernel_rfl) (by kernel_rfl) (p_pickT rfl g2 rfl) ?_
      refine d_end (by kernel_rfl) ?_
      refine t_cond rfl (fun _ => ?_) (nc rfl)
      refine t_seq ?_
      refine t_region ?_
      refine r_op (o_assign rfl rfl) ?_
      refine r_end ?_
      refine t_ret Tryd.func45 (.tmp rfl .nil) rfl fun E S w u hI hd => ?_
      refine post_mk hI hd ?_ trivial rfl rfl rfl <;> clear hI hd <;> (try clear ih0)
      all_goals first | rfl | (refine scB ?_; first | (rw [atom_no1 (by assumption)]; done) | (rw [atom_no2 (by simp only [IntKind.wrap_i64] at *; omega)]; done) | (rw [atom_no3 (by assumption) (by assumption)]; done) | (rw [atom_yes (by assumption) (by simp only [IntKind.wrap_i64] at *; omega) (by assumption) (by omega)]; done) | (rw [atom_yes (by assumption) (by simp only [IntKind.wrap_i64] at *; omega) (by assumption) (by omega), any_true (p := fun t => !termOk t) (by assumption) (by simp only [termOk, Bool.not_eq_true']; exact decide_eq_false (by assumption))]; rfl) | (rw [atom_yes (by assumption) (by simp only [IntKind.wrap_i64] at *; omega) (by assumption) (by omega), any_false (p := fun t => !termOk t) i2 (by omega)]; rfl))
  ·
    have g1' := (bnt g1)
    refine d_guard 5 rfl rfl (by kernel_rfl) (by kernel_rfl) (by kernel_rfl) rfl rfl (v := .c .top) (nc g1) (nc g1) (fun _ => ?_)
    refine d_guard 6 rfl rfl (by kernel_rfl) (by kernel_rfl) (by kernel_rfl) rfl rfl (v := .c .top) (nc g1) (nc g1) (fun _ => ?_)
    refine d_guard 7 rfl rfl (by kernel_rfl) (by kernel_rfl) (by kernel_rfl) rfl rfl (v := .c .top) (nc g1) (nc g1) (fun _ => ?_)
    refine d_guard 8 rfl rfl (by kernel_rfl) (by kernel_rfl) (by kernel_rfl) rfl rfl (v := .c .top) (nc g1) (nc g1) (fun _ => ?_)
    refine d_guard 9 rfl rfl (by kernel_rfl) (by kernel_rfl) (by kernel_rfl) rfl rfl (v := .c .top) (nc g1) (nc g1) (fun _ => ?_)
    refine d_guard 10 rfl rfl (by kernel_rfl) (by kernel_rfl) (by kernel_rfl) rfl rfl (v := .c .top) (nc g1) (nc g1) (fun _ => ?_)
    refine d_take 11 rfl rfl (by kernel_rfl) (by kernel_rfl) (by kernel_rfl) (p_pickT rfl g1 rfl) ?_
    refine d_take 12 rfl rfl (by kernel_rfl) (by kernel_rfl) (by kernel_rfl) (p_move rfl) ?_
    refine d_guard 13 rfl rfl (by kernel_rfl) (by kernel_rfl) (by kernel_rfl) rfl rfl (v := .c .top) (nc rfl) (nc rfl) (fun _ => ?_)
    refine d_guard 14 rfl rfl (by kernel_rfl) (by kernel_rfl) (by kernel_rfl) rfl rfl (v := .c .top) (nc rfl) (nc rfl) (fun _ => ?_)
    refine d_guard 15 rfl rfl (by kernel_rfl) (by kernel_rfl) (by kernel_rfl) rfl rfl (v := .c .top) (nc rfl) (nc rfl) (fun _ => ?_)
    refine d_guard 16 rfl rfl (by kernel_rfl) (by kernel_rfl) (by kernel_rfl) rfl rfl (v := .c .top) (nc rfl) (nc rfl) (fun _ => ?_)
    refine d_guard 17 rfl rfl (by kernel_rfl) (by kernel_rfl) (by kernel_rfl) rfl rfl (v := .c .top) (nc rfl) (nc rfl) (fun _ => ?_)
    refine d_guard 18 rfl rfl (by kernel_rfl) (by kernel_rfl) (by kernel_rfl) rfl rfl (v := .c .top) (nc rfl) (nc rfl) (fun _ => ?_)
    refine d_guard 19 rfl rfl (by kernel_rfl) (by kernel_rfl) (by kernel_rfl) rfl rfl (v := .c .top) (nc rfl) (nc rfl) (fun _ => ?_)
    refine d_guard 20 rfl rfl (by kernel_rfl) (by kernel_rfl) (by kernel_rfl) rfl rfl (v := .c .top) (nc rfl) (nc rfl) (fun _ => ?_)
    refine d_guard 21 rfl rfl (by kernel_rfl) (by kernel_rfl) (by kernel_rfl) rfl rfl (v := .c .top) (nc rfl) (nc rfl) (fun _ => ?_)
    refine d_guard 22 rfl rfl (by kernel_rfl) (by kernel_rfl) (by kernel_rfl) rfl rfl (v := .c .top) (nc rfl) (nc rfl) (fun _ => ?_)
    refine d_take 23 rfl rfl (by kernel_rfl) (by kernel_rfl) (by kernel_rfl) (p_pickT rfl rfl rfl) ?_
    refine d_end (by kernel_rfl) ?_
    refine t_cond rfl (fun _ => ?_) (nc rfl)
    refine t_seq ?_
    refine t_region ?_
    refine r_op (o_assign rfl rfl) ?_
    refine r_end ?_
    refine t_ret Tryd.func45 (.tmp rfl .nil) rfl fun E S w u hI hd => ?_
    refine post_mk hI hd ?_ trivial rfl rfl rfl <;> clear hI hd <;> (try clear ih0)
    all_goals first | rfl | (refine scB ?_; first | (rw [atom_no1 (by assumption)]; done) | (rw [atom_no2 (by simp only [IntKind.wrap_i64] at *; omega)]; done) | (rw [atom_no3 (by assumption) (by assumption)]; done) | (rw [atom_yes (by assumption) (by simp only [IntKind.wrap_i64] at *; omega) (by assumption) (by omega)]; done) | (rw [atom_yes (by assumption) (by simp only [IntKind.wrap_i64] at *; omega) (by assumption) (by omega), any_true (p := fun t => !termOk t) (by assumption) (by simp only [termOk, Bool.not_eq_true']; exact decide_eq_false (by assumption))]; rfl) | (rw [atom_yes (by assumption) (by simp only [IntKind.wrap_i64] at *; omega) (by assumption) (by omega), any_false (p := fun t => !termOk t) i2 (by omega)]; rfl))
set_option maxHeartbeats 1000000 in
set_option maxRecDepth 10000 in
theorem c_spec_FormatInt (k : Int) (hk : 0 ≤ k) (hk2 : k < 4611686018427387904) : Pu Tryd.prog 31 [.c (.t none (.v (.int .i64 (k))))] [] 0 (.c (.t none (.v (.string (mkS (fmtN k)))))) := by
  refine pu_enter Tryd.func31 rfl (Nat.le_of_ble_eq_true rfl) fun w S => ?_
  refine t_seq ?_
  refine t_region ?_
  refine r_op (o_assign rfl rfl) ?_
  refine r_end ?_
  refine t_seq ?_
  refine t_seq ?_
  refine t_region ?_
  refine r_op (o_move rfl rfl) ?_
  refine r_op (o_bin rfl rfl rfl rfl) ?_
  refine r_end ?_
  refine t_cond rfl (fun h1 => ?_) (fun h1 => ?_)
  ·
    have h1' := of_decide_eq_true h1
    refine t_seq ?_
    refine t_region ?_
    refine r_op (o_assign rfl rfl) ?_
    refine r_end ?_
    refine t_ret Tryd.func31 (.tmp rfl .nil) rfl fun E S w u hI hd => ?_
    refine post_mk hI hd ?_ trivial rfl rfl rfl <;> clear hI hd <;> (try clear ih0)
    all_goals first | rfl | (refine scS ?_; unfold fmtN; first | (rw [if_pos (by assumption)]; done) | ((obtain rfl : q = 0 := by omega); (have e := i1; simp only [digs, List.nil_append] at e; rw [if_neg (by omega), e])))
  ·
    have h1' := of_decide_eq_false h1
    refine t_skip ?_
    refine t_seq ?_
    refine t_region ?_
    refine r_op (o_assign rfl rfl) ?_
    refine r_end ?_
    refine t_seq ?_
    refine t_region ?_
    refine r_op (o_move rfl rfl) ?_
    refine r_op (o_bin rfl rfl rfl rfl) ?_
    refine r_op (o_assign rfl rfl) ?_
    refine r_end ?_
    refine t_seq ?_
    refine t_block ?_
    refine t_loopL (fun (q, out) => ⟨[(0, some (.c (.t none (.v (.int .i64 ((q : Int))))))), (2, some (.c (.t none (.v (.string (mkS (([] : List UInt8)))))))), (3, some (.c (.t none (.v (.string (mkS (out))))))), (4, some (.c (.t none (.v (.bool (decide (k < 0)))))))], [], 0⟩ : Nat × List UInt8 → St) (fun (q, out) => digs q ++ out = digs k.toNat ∧ (q : Int) ≤ k ∧ out.length + q ≤ k.toNat) (fun (q, out) => q) (k.toNat, []) ⟨⟨(eqI (by omega)), ⟨rfl, ⟨rfl, ⟨rfl, trivial⟩⟩⟩⟩, trivial, rfl⟩ (by exact ⟨List.append_nil _, by omega, by simp⟩) ?_
    rintro ⟨q, out⟩ hI ih0
    try dsimp only at hI ih0
    obtain ⟨i1, i2, i3⟩ := hI
    refine t_seq ?_
    refine t_seq ?_
    refine t_region ?_
    refine r_op (o_move rfl rfl) ?_
    refine r_op (o_bin rfl rfl rfl rfl) ?_
    refine r_end ?_
    refine t_cond rfl (fun h2 => ?_) (fun h2 => ?_)
    ·
      have h2' := of_decide_eq_true h2
      refine t_skip ?_
      refine t_block ?_
      refine t_seq ?_
      refine t_region ?_
      refine r_op (o_move rfl rfl) ?_
      refine r_op (o_binD rfl rfl rfl (rem_lit 10 rfl (by decide))) ?_
      refine r_op (o_assign rfl rfl) ?_
      refine r_end ?_
      refine t_seq ?_
      refine t_seq ?_
      refine t_region ?_
      refine r_op (o_move rfl rfl) ?_
      refine r_op (o_bin rfl rfl rfl rfl) ?_
      refine r_end ?_
      refine t_cond rfl (fun h3 => ?_) (fun h3 => ?_)
      ·
        have h3' := of_decide_eq_true h3
        exfalso; omega
      ·
        have h3' := of_decide_eq_false h3
        refine t_skip ?_
        refine t_seq ?_
        refine t_region ?_
        refine r_op (o_move rfl rfl) ?_
        refine r_op (o_bin rfl rfl rfl rfl) ?_
        refine r_op (o_conv rfl Tryd.underlying3 Tryd.underlying5 rfl) ?_
        refine r_op (o_lit1 0 (e := 5) (sz := 1) (zs := [.int .u8 0]) (enc := encU) (IntKind.u8.wrap (IntKind.i64.wrap (48 + ((q % 10 : Nat) : Int)))) rfl rfl (by kernel_rfl) rfl rfl rfl rfl rfl rfl (.cons .sc .nil)) ?_
        refine r_op (o_convBSo rfl Tryd.underlying79 Tryd.underlying5 Tryd.underlying9 rfl rfl) ?_
        refine r_op (o_move rfl rfl) ?_
        refine r_op (o_cat rfl rfl rfl (by first | omega | (simp [bytesOf]; omega))) ?_
        refine r_op (o_assign rfl rfl) ?_
        refine r_end ?_
        refine t_region ?_
        refine r_op (o_move rfl rfl) ?_
        refine r_op (o_binD rfl rfl rfl (quo_lit 10 rfl (by decide) (by omega))) ?_
        refine r_op (o_assign rfl rfl) ?_
        refine r_end ?_
        refine t_endblock ?_
        refine t_le ?_ (ih0 (q / 10, (bytesOf ([IntKind.u8.wrap (IntKind.i64.wrap (48 + ((q % 10 : Nat) : Int)))])) ++ out) (by (try dsimp only); omega) (by (try dsimp only); exact ⟨by rw [digit_byte, ← i1, digs_step (q := q) (by omega), List.append_assoc], by omega, by rw [digit_byte]; simp only [List.length_append, List.length_cons, List.length_nil]; omega⟩))
        exact ⟨⟨rfl, ⟨rfl, ⟨rfl, ⟨rfl, trivial⟩⟩⟩⟩, trivial, rfl⟩
    ·
      have h2' := of_decide_eq_false h2
      refine t_exit rfl ?_
      refine t_seq ?_
      refine t_seq ?_
      refine t_region ?_
      refine r_op (o_move rfl rfl) ?_
      refine r_end ?_
      refine t_cond rfl (fun h4 => ?_) (fun h4 => ?_)
      ·
        have h4' := of_decide_eq_true h4
        exfalso; omega
      ·
        have h4' := of_decide_eq_false h4
        refine t_skip ?_
        refine t_seq ?_
        refine t_region ?_
        refine r_op (o_move rfl rfl) ?_
        refine r_op (o_assign rfl rfl) ?_
        refine r_end ?_
        refine t_ret Tryd.func31 (.tmp rfl .nil) rfl fun E S w u hI hd => ?_
        refine post_mk hI hd ?_ trivial rfl rfl rfl <;> clear hI hd <;> (try clear ih0)
        all_goals first | rfl | (refine scS ?_; unfold fmtN; first | (rw [if_pos (by assumption)]; done) | ((obtain rfl : q = 0 := by omega); (have e := i1; simp only [digs, List.nil_append] at e; rw [if_neg (by omega), e])))
set_option maxHeartbeats 1000000 in
set_option maxRecDepth 10000 in
theorem c_spec_FormatTerm (t : Int) (ht : okI t) : Pu Tryd.prog 8 [.c (.t none (.v (.int .i64 (t))))] [] 0 (.c (.t none (.v (.string (mkS (fmtT t)))))) := by
  refine pu_enter Tryd.func8 rfl (Nat.le_of_ble_eq_true rfl) fun w S => ?_
  have h1 := ht.1; have h2 := ht.2
  refine t_seq ?_
  refine t_region ?_
  refine r_op (o_assign rfl rfl) ?_
  refine r_end ?_
  refine t_seq ?_
  refine t_seq ?_
  refine t_region ?_
  refine r_op (o_move rfl rfl) ?_
  refine r_op (o_call 0 0 false (Go.Proofs.enters_of Tryd.func30 (by kernel_rfl) rfl) (c_spec_l1In (t) (-10) (-1)) rfl (.cons rfl (.c .t0) (.cons rfl (.c .t0) (.cons rfl (.c .t0) .nil))) rfl rfl rfl) ?_
  refine r_end ?_
  refine t_cond rfl (fun h1 => ?_) (fun h1 => ?_)
  ·
    have h1' := of_decide_eq_true h1
    refine t_seq ?_
    refine t_region ?_
    refine r_op (o_move rfl rfl) ?_
    refine r_op (o_bin rfl rfl rfl rfl) ?_
    refine r_op (o_call 0 0 false (Go.Proofs.enters_of Tryd.func31 (by kernel_rfl) rfl) (c_spec_FormatInt (IntKind.i64.wrap ((-1) - t)) (by first | omega | (rw [wr64 (by omega) (by omega)]; omega) | (rw [wr64 (by omega) (by omega)]; simp; omega) | (constructor <;> (rw [wr64 (by omega) (by omega)]; omega))) (by first | omega | (rw [wr64 (by omega) (by omega)]; omega) | (rw [wr64 (by omega) (by omega)]; simp; omega) | (constructor <;> (rw [wr64 (by omega) (by omega)]; omega)))) rfl (.cons rfl (.c .t0) .nil) rfl rfl rfl) ?_
    refine r_op (o_assign rfl rfl) ?_
    refine r_end ?_
    refine t_ret Tryd.func8 (.tmp rfl .nil) rfl fun E S w u hI hd => ?_
    refine post_mk hI hd ?_ trivial rfl rfl rfl <;> clear hI hd
    all_goals first | rfl | (refine scS ?_; first | exact fmtT_var (by omega) | exact fmtT_con (by omega) | exact fmtT_no (by omega) (by omega))
  ·
    have h1' := of_decide_eq_false h1
    refine t_skip ?_
    refine t_seq ?_
    refine t_seq ?_
    refine t_region ?_
    refine r_op (o_move rfl rfl) ?_
    refine r_op (o_call 0 0 false (Go.Proofs.enters_of Tryd.func30 (by kernel_rfl) rfl) (c_spec_l1In (t) (0) (4)) rfl (.cons rfl (.c .t0) (.cons rfl (.c .t0) (.cons rfl (.c .t0) .nil))) rfl rfl rfl) ?_
    refine r_op (o_not rfl rfl) ?_
    refine r_end ?_
    refine t_cond rfl (fun h2 => ?_) (fun h2 => ?_)
    ·
      have h2' := of_decide_eq_false (bnt h2)
      refine t_seq ?_
      refine t_region ?_
      refine r_op (o_assign rfl rfl) ?_
      refine r_end ?_
      refine t_ret Tryd.func8 (.tmp rfl .nil) rfl fun E S w u hI hd => ?_
      refine post_mk hI hd ?_ trivial rfl rfl rfl <;> clear hI hd
      all_goals first | rfl | (refine scS ?_; first | exact fmtT_var (by omega) | exact fmtT_con (by omega) | exact fmtT_no (by omega) (by omega))
    ·
      have h2' := of_decide_eq_true (bnf h2)
      refine t_skip ?_
      refine t_seq ?_
      refine t_region ?_
      refine r_op (o_move rfl rfl) ?_
      refine r_op (o_move rfl rfl) ?_
      refine r_op (o_bin rfl rfl rfl rfl) ?_
      refine r_op (o_subS rfl Tryd.underlying9 rfl rfl rfl (by first | omega | (rw [wr64 (by omega) (by omega)]; omega) | (rw [wr64 (by omega) (by omega)]; simp; omega) | (constructor <;> (rw [wr64 (by omega) (by omega)]; omega))) (by first | omega | (rw [wr64 (by omega) (by omega)]; omega) | (rw [wr64 (by omega) (by omega)]; simp; omega) | (constructor <;> (rw [wr64 (by omega) (by omega)]; omega))) (by first | omega | (rw [wr64 (by omega) (by omega)]; omega) | (rw [wr64 (by omega) (by omega)]; simp; omega) | (constructor <;> (rw [wr64 (by omega) (by omega)]; omega)))) ?_
      refine r_op (o_assign rfl rfl) ?_
      refine r_end ?_
      refine t_ret Tryd.func8 (.tmp rfl .nil) rfl fun E S w u hI hd => ?_
      refine post_mk hI hd ?_ trivial rfl rfl rfl <;> clear hI hd
      all_goals first | rfl | (refine scS ?_; first | exact fmtT_var (by omega) | exact fmtT_con (by omega) | exact fmtT_no (by omega) (by omega))
set_option maxHeartbeats 1000000 in
set_option maxRecDepth 10000 in
theorem c_spec_FormatAtom (rs : List (List UInt8 × Int × Bool)) (r : Int) (ts : List Int) (hrs : rs.length ≤ 4611686018427387904) (hts : ts.length ≤ 4611686018427387904) (ho : ∀ x ∈ ts, okI x) : Pu Tryd.prog 21 [.c (.t none (.sl 3 (enS3 encS encI encB) (rs))), .agg [.t none (.v (.int .i64 (r))), .t none (.sl 1 encI (ts))]] [] 0 (.c (.t none (.v (.string (mkS (fmtA rs (r, ts))))))) := by
  refine pu_enter Tryd.func21 rfl (Nat.le_of_ble_eq_true rfl) fun w S => ?_
  have ar := @atomOk_rels rs r ts
  refine t_seq ?_
  refine t_region ?_
  refine r_op (o_box 0 rfl rfl rfl rfl) ?_
  refine r_op (o_assign rfl rfl) ?_
  refine r_end ?_
  refine t_seq ?_
  refine t_seq ?_
  refine t_region ?_
  refine r_op (o_move rfl rfl) ?_
  refine r_op (o_loadAb rfl (n := 2) (by kernel_rfl) (by kernel_rfl) rfl rfl rfl) ?_
  refine r_op (o_call 1 1 false (Go.Proofs.enters_of Tryd.func45 (by kernel_rfl) rfl) (c_spec_IsValidAtom (rs) (r) (ts) (by first | omega | assumption | exact Nat.le_trans (Nat.add_le_add cl (fmtT_len _)) (by decide) | exact ho _ (List.mem_of_getElem? (by assumption)) | (have q := ar (by assumption); omega)) (by first | omega | assumption | exact Nat.le_trans (Nat.add_le_add cl (fmtT_len _)) (by decide) | exact ho _ (List.mem_of_getElem? (by assumption)) | (have q := ar (by assumption); omega))) rfl (.cons rfl (.c .t0) (.cons rfl (.agg (.cons .t0 (.cons .t0 .nil))) .nil)) rfl rfl rfl) ?_
  refine r_op (o_not rfl rfl) ?_
  refine r_end ?_
  refine t_cond rfl (fun h1 => ?_) (fun h1 => ?_)
  ·
    have h1' := (bnt h1)
    refine t_seq ?_
    refine t_region ?_
    refine r_op (o_assign rfl rfl) ?_
    refine r_end ?_
    refine t_ret Tryd.func21 (.tmp rfl .nil) rfl fun E S w u hI hd => ?_
    refine post_mk hI hd ?_ trivial rfl rfl rfl <;> clear hI hd <;> (try clear ih0)
    all_goals first | rfl | (refine scS ?_; first | exact fmtA_no (by assumption) | exact fmtA_yes (by assumption) (by assumption) (by omega))
  ·
    have h1' := (bnf h1)
    refine t_skip ?_
    refine t_seq ?_
    refine t_region ?_
    refine r_op (o_move rfl rfl) ?_
    refine r_op (o_fieldb rfl (off := 0) (by kernel_rfl) rfl) ?_
    refine r_op (o_load1b rfl (by kernel_rfl) rfl rfl rfl) ?_
    obtain ⟨z2, hz3, b4⟩ := at_get (xs := rs) (n := r) (by first | omega | assumption | exact Nat.le_trans (Nat.add_le_add cl (fmtT_len _)) (by decide) | exact ho _ (List.mem_of_getElem? (by assumption)) | (have q := ar (by assumption); omega)) (by first | omega | assumption | exact Nat.le_trans (Nat.add_le_add cl (fmtT_len _)) (by decide) | exact ho _ (List.mem_of_getElem? (by assumption)) | (have q := ar (by assumption); omega))
    refine r_op (o_index rfl (by kernel_rfl) rfl rfl b4 hz3) ?_
    refine r_op (o_field rfl (off := 0) (by kernel_rfl) rfl) ?_
    refine r_op (o_load1 rfl (by kernel_rfl) rfl rfl) ?_
    refine r_op (o_assign rfl rfl) ?_
    refine r_end ?_
    refine t_seq ?_
    refine t_seq ?_
    refine t_region ?_
    refine r_op (o_assign rfl rfl) ?_
    refine r_end ?_
    refine t_block ?_
    refine t_loopL (fun m => ⟨[(3, some (.c (.ptr 0 0))), (4, some (.c (.t none (.v (.string (mkS (([] : List UInt8)))))))), (5, some (.c (.t none (.v (.string (mkS (z2.1 ++ (ts.take m).flatMap fmtT))))))), (6, some (.c (.t none (.v (.int .i64 ((m : Int)))))))], [(0, some (.box [.t none (.v (.int .i64 (r))), .t none (.sl 1 encI (ts))]))], 1⟩ : Nat → St) (fun m => m ≤ ts.length) (fun m => ts.length - m) 0 ⟨⟨rfl, ⟨rfl, ⟨(eqS (by simp)), ⟨rfl, trivial⟩⟩⟩⟩, ⟨rfl, trivial⟩, rfl⟩ (by exact Nat.zero_le _) ?_
    rintro m hI ih0
    try dsimp only at hI ih0
    have i1 := hI; have a1 := ar (by assumption); have nl := name_len a1.1 hz3; have fl := flatT_len (ts.take m); have tl : (ts.take m).length ≤ 3 := (by rw [List.length_take]; omega); have cl : (z2.1 ++ (ts.take m).flatMap fmtT).length ≤ 7 := (by rw [List.length_append]; omega)
    refine t_seq ?_
    refine t_seq ?_
    refine t_region ?_
    refine r_op (o_move rfl rfl) ?_
    refine r_op (o_fieldb rfl (off := 1) (by kernel_rfl) rfl) ?_
    refine r_op (o_load1b rfl (by kernel_rfl) rfl rfl rfl) ?_
    refine r_op (o_len rfl rfl rfl) ?_
    refine r_op (o_bin rfl rfl rfl rfl) ?_
    refine r_end ?_
    refine t_cond rfl (fun h5 => ?_) (fun h5 => ?_)
    ·
      have h5' := of_decide_eq_true h5
      refine t_skip ?_
      refine t_seq ?_
      refine t_block ?_
      refine t_region ?_
      refine r_op (o_move rfl rfl) ?_
      refine r_op (o_fieldb rfl (off := 1) (by kernel_rfl) rfl) ?_
      refine r_op (o_load1b rfl (by kernel_rfl) rfl rfl rfl) ?_
      refine r_op (o_move rfl rfl) ?_
      obtain ⟨z6, hz7, b8⟩ := at_get (xs := ts) (n := (m : Int)) (by first | omega | assumption | exact Nat.le_trans (Nat.add_le_add cl (fmtT_len _)) (by decide) | exact ho _ (List.mem_of_getElem? (by assumption)) | (have q := ar (by assumption); omega)) (by first | omega | assumption | exact Nat.le_trans (Nat.add_le_add cl (fmtT_len _)) (by decide) | exact ho _ (List.mem_of_getElem? (by assumption)) | (have q := ar (by assumption); omega))
      refine r_op (o_index rfl (by kernel_rfl) rfl rfl b8 hz7) ?_
      refine r_op (o_load1 rfl (by kernel_rfl) rfl rfl) ?_
      refine r_op (o_call 1 1 false (Go.Proofs.enters_of Tryd.func8 (by kernel_rfl) rfl) (c_spec_FormatTerm (z6) (by first | omega | assumption | exact Nat.le_trans (Nat.add_le_add cl (fmtT_len _)) (by decide) | exact ho _ (List.mem_of_getElem? (by assumption)) | (have q := ar (by assumption); omega))) rfl (.cons rfl (.c .t0) .nil) rfl rfl rfl) ?_
      refine r_op (o_cat rfl rfl rfl (by first | omega | assumption | exact Nat.le_trans (Nat.add_le_add cl (fmtT_len _)) (by decide) | exact ho _ (List.mem_of_getElem? (by assumption)) | (have q := ar (by assumption); omega))) ?_
      refine r_op (o_assign rfl rfl) ?_
      refine r_end ?_
      refine t_endblock ?_
      refine t_region ?_
      refine r_op (o_move rfl rfl) ?_
      refine r_op (o_bin rfl rfl rfl rfl) ?_
      refine r_op (o_assign rfl rfl) ?_
      refine r_end ?_
      refine t_le ?_ (ih0 (m + 1) (by (try dsimp only); omega) (by (try dsimp only); omega))
      exact ⟨⟨rfl, ⟨rfl, ⟨(eqS (by rw [List.append_assoc, fmtF_step (m := m) hz7])), ⟨(eqI (wr64 (by omega) (by omega))), trivial⟩⟩⟩⟩, ⟨rfl, trivial⟩, rfl⟩
    ·
      have h5' := of_decide_eq_false h5
      refine t_exit rfl ?_
      refine t_seq ?_
      refine t_region ?_
      refine r_op (o_move rfl rfl) ?_
      refine r_op (o_assign rfl rfl) ?_
      refine r_end ?_
      refine t_ret Tryd.func21 (.tmp rfl .nil) rfl fun E S w u hI hd => ?_
      refine post_mk hI hd ?_ trivial rfl rfl rfl <;> clear hI hd <;> (try clear ih0)
      all_goals first | rfl | (refine scS ?_; first | exact fmtA_no (by assumption) | exact fmtA_yes (by assumption) (by assumption) (by omega))
set_option maxHeartbeats 1000000 in
set_option maxRecDepth 10000 in
theorem c_impl_within (a0 a1 a2 : Int) : Pu Tryd.prog 32 [.c (.t none (.v (.int .i64 (a0)))), .c (.t none (.v (.int .i64 (a1)))), .c (.t none (.v (.int .i64 (a2))))] [] 0 (.c (.t none (.v (.bool (decide (a1 ≤ a0 ∧ a0 ≤ a2)))))) := by
  refine pu_enter Tryd.func32 rfl (Nat.le_of_ble_eq_true rfl) fun w S => ?_
  refine t_seq ?_
  refine t_region ?_
  refine r_op (o_assign rfl rfl) ?_
  refine r_end ?_
  refine t_seq ?_
  refine t_region ?_
  refine r_op (o_move rfl rfl) ?_
  refine r_op (o_move rfl rfl) ?_
  refine r_op (o_bin rfl rfl rfl rfl) ?_
  refine r_op (o_move rfl rfl) ?_
  refine r_guard rfl rfl rfl (fun g1 => ?_) (fun g1 => ?_)
  ·
    have g1' := of_decide_eq_true g1
    refine r_op (o_move rfl rfl) ?_
    refine r_guard rfl rfl rfl (fun _ => ?_) (nc g1)
    refine r_op (o_move rfl rfl) ?_
    refine r_guard rfl rfl rfl (fun _ => ?_) (nc g1)
    refine r_op (o_bin rfl rfl rfl rfl) ?_
    refine r_op (o_pickT rfl rfl g1 rfl) ?_
    refine r_op (o_assign rfl rfl) ?_
    refine r_end ?_
    refine t_ret Tryd.func32 (.tmp rfl .nil) rfl fun E S w u hI hd => ?_
    refine post_mk hI hd ?_ trivial rfl rfl rfl <;> clear hI hd
    all_goals first | rfl | (simp_all <;> omega)
  ·
    have g1' := of_decide_eq_false g1
    refine r_guard rfl rfl rfl (ncf g1) (fun _ => ?_)
    refine r_guard rfl rfl rfl (ncf g1) (fun _ => ?_)
    refine r_op (o_pickF rfl rfl g1 rfl) ?_
    refine r_op (o_assign rfl rfl) ?_
    refine r_end ?_
    refine t_ret Tryd.func32 (.tmp rfl .nil) rfl fun E S w u hI hd => ?_
    refine post_mk hI hd ?_ trivial rfl rfl rfl <;> clear hI hd
    all_goals first | rfl | (simp_all <;> omega)
set_option maxHeartbeats 1000000 in
set_option maxRecDepth 10000 in
theorem c_impl_IsValidRelation (n : List UInt8) (a : Int) (s : Bool) : Pu Tryd.prog 74 [.agg [.t none (.v (.string (mkS (n)))), .t none (.v (.int .i64 (a))), .t none (.v (.bool (s)))]] [] 0 (.c (.t none (.v (.bool (relOk (n, a, s)))))) := by
  refine pu_enter Tryd.func74 rfl (Nat.le_of_ble_eq_true rfl) fun w S => ?_
  refine t_seq ?_
  refine t_region ?_
  refine r_op (o_box 0 rfl rfl rfl rfl) ?_
  refine r_op (o_assign rfl rfl) ?_
  refine r_end ?_
  refine t_seq ?_
  refine t_region ?_
  refine r_op (o_fieldb rfl (off := 0) (by kernel_rfl) rfl) ?_
  refine r_op (o_load1b rfl (by kernel_rfl) rfl rfl rfl) ?_
  refine r_op (o_lenS rfl Tryd.underlying9 rfl) ?_
  refine r_op (o_bin rfl rfl rfl rfl) ?_
  refine r_op (o_move rfl rfl) ?_
  refine r_guard rfl rfl rfl (fun g1 => ?_) (fun g1 => ?_)
  ·
    have g1' := of_decide_eq_true g1
    refine r_op (o_fieldb rfl (off := 0) (by kernel_rfl) rfl) ?_
    refine r_guard rfl rfl rfl (fun _ => ?_) (nc g1)
    refine r_op (o_load1b rfl (by kernel_rfl) rfl rfl rfl) ?_
    refine r_guard rfl rfl rfl (fun _ => ?_) (nc g1)
    refine r_op (o_str rfl rfl rfl rfl) ?_
    refine r_op (o_pickT rfl rfl g1 rfl) ?_
    refine r_op (o_move rfl rfl) ?_
    refine r_guard rfl rfl rfl (fun g2 => ?_) (fun g2 => ?_)
    ·
      have g2' := (bnt g2)
      refine r_op (o_fieldb rfl (off := 0) (by kernel_rfl) rfl) ?_
      refine r_guard rfl rfl rfl (fun _ => ?_) (nc g2)
      refine r_op (o_load1b rfl (by kernel_rfl) rfl rfl rfl) ?_
      refine r_guard rfl rfl rfl (fun _ => ?_) (nc g2)
      refine r_op (o_str rfl rfl rfl rfl) ?_
      refine r_op (o_pickT rfl rfl g2 rfl) ?_
      refine r_op (o_move rfl rfl) ?_
      refine r_guard rfl rfl rfl (fun g3 => ?_) (fun g3 => ?_)
      ·
        have g3' := (bnt g3)
        refine r_op (o_fieldb rfl (off := 1) (by kernel_rfl) rfl) ?_
        refine r_guard rfl rfl rfl (fun _ => ?_) (nc g3)
        refine r_op (o_load1b rfl (by kernel_rfl) rfl rfl rfl) ?_
        refine r_guard rfl rfl rfl (fun _ => ?_) (nc g3)
        refine r_op (o_call 1 1 false (Go.Proofs.enters_of Tryd.func32 (by kernel_rfl) rfl) (c_impl_within (a) (1) (3)) rfl (.cons rfl (.c .t0) (.cons rfl (.c .t0) (.cons rfl (.c .t0) .nil))) rfl rfl rfl) ?_
        refine r_op (o_pickT rfl rfl g3 rfl) ?_
        refine r_op (o_assign rfl rfl) ?_
        refine r_end ?_
        refine t_ret Tryd.func74 (.tmp rfl .nil) rfl fun E S w u hI hd => ?_
        refine post_mk hI hd ?_ trivial rfl rfl rfl <;> clear hI hd
        all_goals first | rfl | (refine scB ?_; first | (have e := nameOk_not (by assumption); simp [relOk, e]; done) | (obtain ⟨c, rfl⟩ := one_of (by assumption); simp only [less_lo, less_hi, Bool.not_eq_true', Bool.not_eq_false', decide_eq_true_eq, decide_eq_false_iff_not] at *; simp [relOk, nameOk]; omega))
      ·
        have g3' := (bnf g3)
        refine r_guard rfl rfl rfl (ncf g3) (fun _ => ?_)
        refine r_guard rfl rfl rfl (ncf g3) (fun _ => ?_)
        refine r_op (o_pickF rfl rfl g3 rfl) ?_
        refine r_op (o_assign rfl rfl) ?_
        refine r_end ?_
        refine t_ret Tryd.func74 (.tmp rfl .nil) rfl fun E S w u hI hd => ?_
        refine post_mk hI hd ?_ trivial rfl rfl rfl <;> clear hI hd
        all_goals first | rfl | (refine scB ?_; first | (have e := nameOk_not (by assumption); simp [relOk, e]; done) | (obtain ⟨c, rfl⟩ := one_of (by assumption); simp only [less_lo, less_hi, Bool.not_eq_true', Bool.not_eq_false', decide_eq_true_eq, decide_eq_false_iff_not] at *; simp [relOk, nameOk]; omega))
    ·
      have g2' := (bnf g2)
      refine r_guard rfl rfl rfl (ncf g2) (fun _ => ?_)
      refine r_guard rfl rfl rfl (ncf g2) (fun _ => ?_)
      refine r_op (o_pickF rfl rfl g2 rfl) ?_
      refine r_op (o_move rfl rfl) ?_
      refine r_guard rfl rfl rfl (ncf rfl) (fun _ => ?_)
      refine r_guard rfl rfl rfl (ncf rfl) (fun _ => ?_)
      refine r_guard rfl rfl rfl (ncf rfl) (fun _ => ?_)
      refine r_op (o_pickF rfl rfl rfl rfl) ?_
      refine r_op (o_assign rfl rfl) ?_
      refine r_end ?_
      refine t_ret Tryd.func74 (.tmp rfl .nil) rfl fun E S w u hI hd => ?_
      refine post_mk hI hd ?_ trivial rfl rfl rfl <;> clear hI hd
      all_goals first | rfl | (refine scB ?_; first | (have e := nameOk_not (by assumption); simp [relOk, e]; done) | (obtain ⟨c, rfl⟩ := one_of (by assumption); simp only [less_lo, less_hi, Bool.not_eq_true', Bool.not_eq_false', decide_eq_true_eq, decide_eq_false_iff_not] at *; simp [relOk, nameOk]; omega))
  ·
    have g1' := of_decide_eq_false g1
    refine r_guard rfl rfl rfl (ncf g1) (fun _ => ?_)
    refine r_guard rfl rfl rfl (ncf g1) (fun _ => ?_)
    refine r_op (o_pickF rfl rfl g1 rfl) ?_
    refine r_op (o_move rfl rfl) ?_
    refine r_guard rfl rfl rfl (ncf rfl) (fun _ => ?_)
    refine r_guard rfl rfl rfl (ncf rfl) (fun _ => ?_)
    refine r_guard rfl rfl rfl (ncf rfl) (fun _ => ?_)
    refine r_op (o_pickF rfl rfl rfl rfl) ?_
    refine r_op (o_move rfl rfl) ?_
    refine r_guard rfl rfl rfl (ncf rfl) (fun _ => ?_)
    refine r_guard rfl rfl rfl (ncf rfl) (fun _ => ?_)
    refine r_guard rfl rfl rfl (ncf rfl) (fun _ => ?_)
    refine r_op (o_pickF rfl rfl rfl rfl) ?_
    refine r_op (o_assign rfl rfl) ?_
    refine r_end ?_
    refine t_ret Tryd.func74 (.tmp rfl .nil) rfl fun E S w u hI hd => ?_
    refine post_mk hI hd ?_ trivial rfl rfl rfl <;> clear hI hd
    all_goals first | rfl | (refine scB ?_; first | (have e := nameOk_not (by assumption); simp [relOk, e]; done) | (obtain ⟨c, rfl⟩ := one_of (by assumption); simp only [less_lo, less_hi, Bool.not_eq_true', Bool.not_eq_false', decide_eq_true_eq, decide_eq_false_iff_not] at *; simp [relOk, nameOk]; omega))
set_option maxHeartbeats 1000000 in
set_option maxRecDepth 10000 in
theorem c_impl_AreValidRelations (l : List (List UInt8 × Int × Bool)) (hl : l.length ≤ 4611686018427387904) : Pu Tryd.prog 56 [.c (.t none (.sl 3 (enS3 encS encI encB) (l)))] [] 0 (.c (.t none (.v (.bool (relsOk l))))) := by
  refine pu_enter Tryd.func56 rfl (Nat.le_of_ble_eq_true rfl) fun w S => ?_
  refine t_seq ?_
  refine t_region ?_
  refine r_op (o_assign rfl rfl) ?_
  refine r_end ?_
  refine t_seq ?_
  refine t_seq ?_
  refine t_region ?_
  refine r_op (o_move rfl rfl) ?_
  refine r_op (o_len rfl rfl rfl) ?_
  refine r_op (o_move rfl rfl) ?_
  refine r_end ?_
  refine t_block ?_
  refine t_loopL (fun m => ⟨[(0, some (.c (.t none (.sl 3 (enS3 encS encI encB) (l))))), (5, some (.c (.t none (.sl 3 (enS3 encS encI encB) (l))))), (6, some (.c (.t none (.v (.int .i64 (((l).length : Int))))))), (7, some (.c (.t none (.v (.int .i64 ((m : Int)))))))], [], 0⟩ : Nat → St) (fun m => m ≤ l.length ∧ ∀ j, j < m → relStep l j = true) (fun m => l.length - m) 0 ⟨⟨rfl, ⟨rfl, ⟨rfl, ⟨rfl, trivial⟩⟩⟩⟩, trivial, rfl⟩ (by exact ⟨Nat.zero_le _, fun j h => by omega⟩) ?_
  rintro m hI ih0
  try dsimp only at hI ih0
  obtain ⟨i1, i2⟩ := hI
  refine t_seq ?_
  refine t_region ?_
  refine r_op (o_bin rfl rfl rfl rfl) ?_
  refine r_end ?_
  refine t_seq ?_
  refine t_cond rfl (fun h1 => ?_) (fun h1 => ?_)
  ·
    have h1' := of_decide_eq_true h1
    refine t_skip ?_
    refine t_seq ?_
    refine t_block ?_
    refine t_seq ?_
    refine t_region ?_
    refine r_op (o_move rfl rfl) ?_
    obtain ⟨z2, hz3, b4⟩ := at_get (xs := l) (n := (m : Int)) (by first | omega | (simp; omega) | (simp only [IntKind.wrap_i64]; omega)) (by first | omega | (simp; omega) | (simp only [IntKind.wrap_i64]; omega))
    refine r_op (o_index rfl (by kernel_rfl) rfl rfl b4 hz3) ?_
    refine r_op (o_loadA rfl (n := 3) (by kernel_rfl) (by kernel_rfl) rfl rfl) ?_
    refine r_op (o_alloc 0 (zs := [.string (mkS ([])), .int .i64 (0), .bool (false)]) rfl rfl (by kernel_rfl) rfl) ?_
    refine r_op (o_assign rfl rfl) ?_
    refine r_op (o_storeb (n := 3) (by kernel_rfl) rfl rfl rfl rfl rfl rfl) ?_
    refine r_end ?_
    refine t_seq ?_
    refine t_draw (fun _ => true) (by kernel_rfl) ?_
    refine d_take 0 rfl rfl (by kernel_rfl) (by kernel_rfl) (by kernel_rfl) (p_loadAb (n := 3) (by kernel_rfl) (by kernel_rfl) rfl rfl rfl) ?_
    refine d_only 1 rfl (by kernel_rfl) rfl (o_call 1 1 false (Go.Proofs.enters_of Tryd.func74 (by kernel_rfl) rfl) (c_impl_IsValidRelation (z2.1) (z2.2.1) (z2.2.2)) rfl (.cons rfl (.agg (.cons .t0 (.cons .t0 (.cons .t0 .nil)))) .nil) rfl rfl rfl) ?_
    refine d_take 2 rfl rfl (by kernel_rfl) (by kernel_rfl) (by kernel_rfl) (p_not rfl) ?_
    refine d_take 3 rfl rfl (by kernel_rfl) (by kernel_rfl) (by kernel_rfl) (p_move rfl) ?_
    refine d_guard 4 rfl rfl (by kernel_rfl) (by kernel_rfl) (by kernel_rfl) rfl rfl (fun _ => p_move rfl) (fun g5 => ?_) (fun g5 => ?_)
    ·
      have g5' := (bnf g5)
      refine d_guard 5 rfl rfl (by kernel_rfl) (by kernel_rfl) (by kernel_rfl) rfl rfl (fun _ => p_bin rfl rfl rfl) (fun _ => ?_) (ncf g5)
      refine d_guard 6 rfl rfl (by kernel_rfl) (by kernel_rfl) (by kernel_rfl) rfl rfl (fun _ => p_move rfl) (fun _ => ?_) (ncf g5)
      refine d_guard 7 rfl rfl (by kernel_rfl) (by kernel_rfl) (by kernel_rfl) rfl rfl (fun _ => p_fieldb (off := 0) (by kernel_rfl) rfl) (fun g6 => ?_) (fun g6 => ?_)
      ·
        have g6' := of_decide_eq_true g6
        refine d_guard 8 rfl rfl (by kernel_rfl) (by kernel_rfl) (by kernel_rfl) rfl rfl (fun _ => p_load1b (by kernel_rfl) rfl rfl rfl) (fun _ => ?_) (nc g6)
        refine d_guard 9 rfl rfl (by kernel_rfl) (by kernel_rfl) (by kernel_rfl) rfl rfl (fun _ => p_move rfl) (fun _ => ?_) (nc g6)
        refine d_guard 10 rfl rfl (by kernel_rfl) (by kernel_rfl) (by kernel_rfl) rfl rfl (fun _ => p_move rfl) (fun _ => ?_) (nc g6)
        refine d_guard 11 rfl rfl (by kernel_rfl) (by kernel_rfl) (by kernel_rfl) rfl rfl (fun _ => p_bin rfl rfl rfl) (fun _ => ?_) (nc g6)
        obtain ⟨z7, hz8, b9⟩ := at_get (xs := l) (n := IntKind.i64.wrap ((m : Int) - 1)) (by first | omega | (simp; omega) | (simp only [IntKind.wrap_i64]; omega)) (by first | omega | (simp; omega) | (simp only [IntKind.wrap_i64]; omega))
        refine d_guard 12 rfl rfl (by kernel_rfl) (by kernel_rfl) (by kernel_rfl) rfl rfl (fun _ => p_index (by kernel_rfl) rfl rfl b9 hz8) (fun _ => ?_) (nc g6)
        refine d_guard 13 rfl rfl (by kernel_rfl) (by kernel_rfl) (by kernel_rfl) rfl rfl (fun _ => p_field (off := 0) (by kernel_rfl) rfl) (fun _ => ?_) (nc g6)
        refine d_guard 14 rfl rfl (by kernel_rfl) (by kernel_rfl) (by kernel_rfl) rfl rfl (fun _ => p_load1 (by kernel_rfl) rfl rfl) (fun _ => ?_) (nc g6)
        refine d_guard 15 rfl rfl (by kernel_rfl) (by kernel_rfl) (by kernel_rfl) rfl rfl (fun _ => p_str rfl rfl rfl) (fun _ => ?_) (nc g6)
        refine d_guard 16 rfl rfl (by kernel_rfl) (by kernel_rfl) (by kernel_rfl) rfl rfl (fun _ => p_pickT rfl g6 rfl) (fun _ => ?_) (ncf g5)
        refine d_take 17 rfl rfl (by kernel_rfl) (by kernel_rfl) (by kernel_rfl) (p_pickF rfl g5 rfl) ?_
        refine d_end (by kernel_rfl) ?_
        refine t_cond rfl (fun h10 => ?_) (fun h10 => ?_)
        ·
          have h10' := (bnt h10)
          refine t_seq ?_
          refine t_region ?_
          refine r_op (o_assign rfl rfl) ?_
          refine r_end ?_
          refine t_ret Tryd.func56 (.tmp rfl .nil) rfl fun E S w u hI hd => ?_
          refine post_mk hI hd ?_ trivial rfl rfl rfl <;> clear hI hd <;> (try clear ih0)
          all_goals first | rfl | (rw [relsOk_not (m := m) (by omega) (relStep_pos (n := (IntKind.i64.wrap ((m : Int) - 1)).toNat) (by assumption) (by assumption) (by omega) (by simp only [IntKind.wrap_i64]; omega) (by assumption) (by assumption))])
        ·
          have h10' := (bnf h10)
          refine t_skip ?_
          refine t_endblock ?_
          refine t_region ?_
          refine r_op (o_bin rfl rfl rfl rfl) ?_
          refine r_op (o_move rfl rfl) ?_
          refine r_end ?_
          refine t_le ?_ (ih0 (m + 1) (by (try dsimp only); omega) (by (try dsimp only); exact ⟨by omega, step_all i2 (relStep_pos (n := (IntKind.i64.wrap ((m : Int) - 1)).toNat) (by assumption) (by assumption) (by omega) (by simp only [IntKind.wrap_i64]; omega) (by assumption) (by assumption))⟩))
          exact ⟨⟨rfl, ⟨rfl, ⟨rfl, ⟨(eqI (wr64 (by omega) (by omega))), trivial⟩⟩⟩⟩, trivial, rfl⟩
      ·
        have g6' := of_decide_eq_false g6
        refine d_guard 8 rfl rfl (by kernel_rfl) (by kernel_rfl) (by kernel_rfl) rfl rfl (v := .c .top) (ncf g6) (ncf g6) (fun _ => ?_)
        refine d_guard 9 rfl rfl (by kernel_rfl) (by kernel_rfl) (by kernel_rfl) rfl rfl (v := .c .top) (ncf g6) (ncf g6) (fun _ => ?_)
        refine d_guard 10 rfl rfl (by kernel_rfl) (by kernel_rfl) (by kernel_rfl) rfl rfl (v := .c .top) (ncf g6) (ncf g6) (fun _ => ?_)
        refine d_guard 11 rfl rfl (by kernel_rfl) (by kernel_rfl) (by kernel_rfl) rfl rfl (v := .c .top) (ncf g6) (ncf g6) (fun _ => ?_)
        refine d_guard 12 rfl rfl (by kernel_rfl) (by kernel_rfl) (by kernel_rfl) rfl rfl (v := .c .top) (ncf g6) (ncf g6) (fun _ => ?_)
        refine d_guard 13 rfl rfl (by kernel_rfl) (by kernel_rfl) (by kernel_rfl) rfl rfl (v := .c .top) (ncf g6) (ncf g6) (fun _ => ?_)
        refine d_guard 14 rfl rfl (by kernel_rfl) (by kernel_rfl) (by kernel_rfl) rfl rfl (v := .c .top) (ncf g6) (ncf g6) (fun _ => ?_)
        refine d_guard 15 rfl rfl (by kernel_rfl) (by kernel_rfl) (by kernel_rfl) rfl rfl (v := .c .top) (ncf g6) (ncf g6) (fun _ => ?_)
        refine d_guard 16 rfl rfl (by kernel_rfl) (by kernel_rfl) (by kernel_rfl) rfl rfl (fun _ => p_pickF rfl g6 rfl) (fun _ => ?_) (ncf g5)
        refine d_take 17 rfl rfl (by kernel_rfl) (by kernel_rfl) (by kernel_rfl) (p_pickF rfl g5 rfl) ?_
        refine d_end (by kernel_rfl) ?_
        refine t_cond rfl (ncf rfl) (fun _ => ?_)
        refine t_skip ?_
        refine t_endblock ?_
        refine t_region ?_
        refine r_op (o_bin rfl rfl rfl rfl) ?_
        refine r_op (o_move rfl rfl) ?_
        refine r_end ?_
        refine t_le ?_ (ih0 (m + 1) (by (try dsimp only); omega) (by (try dsimp only); exact ⟨by omega, step_all i2 (relStep_zero (by assumption) (by assumption) (by omega))⟩))
        exact ⟨⟨rfl, ⟨rfl, ⟨rfl, ⟨(eqI (wr64 (by omega) (by omega))), trivial⟩⟩⟩⟩, trivial, rfl⟩
    ·
      have g5' := (bnt g5)
      refine d_guard 5 rfl rfl (by kernel_rfl) (by kernel_rfl) (by kernel_rfl) rfl rfl (v := .c .top) (nc g5) (nc g5) (fun _ => ?_)
      refine d_guard 6 rfl rfl (by kernel_rfl) (by kernel_rfl) (by kernel_rfl) rfl rfl (v := .c .top) (nc g5) (nc g5) (fun _ => ?_)
      refine d_skip 7 rfl rfl (by kernel_rfl) (by kernel_rfl) (by kernel_rfl) rfl rfl ?_
      refine d_skip 8 rfl rfl (by kernel_rfl) (by kernel_rfl) (by kernel_rfl) rfl rfl ?_
      refine d_skip 9 rfl rfl (by kernel_rfl) (by kernel_rfl) (by kernel_rfl) rfl rfl ?_
      refine d_skip 10 rfl rfl (by kernel_rfl) (by kernel_rfl) (by kernel_rfl) rfl rfl ?_
      refine d_skip 11 rfl rfl (by kernel_rfl) (by kernel_rfl) (by kernel_rfl) rfl rfl ?_
      refine d_skip 12 rfl rfl (by kernel_rfl) (by kernel_rfl) (by kernel_rfl) rfl rfl ?_
      refine d_skip 13 rfl rfl (by kernel_rfl) (by kernel_rfl) (by kernel_rfl) rfl rfl ?_
      refine d_skip 14 rfl rfl (by kernel_rfl) (by kernel_rfl) (by kernel_rfl) rfl rfl ?_
      refine d_skip 15 rfl rfl (by kernel_rfl) (by kernel_rfl) (by kernel_rfl) rfl rfl ?_
      refine d_guard 16 rfl rfl (by kernel_rfl) (by kernel_rfl) (by kernel_rfl) rfl rfl (v := .c .top) (nc g5) (nc g5) (fun _ => ?_)
      refine d_take 17 rfl rfl (by kernel_rfl) (by kernel_rfl) (by kernel_rfl) (p_pickT rfl g5 rfl) ?_
      refine d_end (by kernel_rfl) ?_
      refine t_cond rfl (fun _ => ?_) (nc rfl)
      refine t_seq ?_
      refine t_region ?_
      refine r_op (o_assign rfl rfl) ?_
      refine r_end ?_
      refine t_ret Tryd.func56 (.tmp rfl .nil) rfl fun E S w u hI hd => ?_
      refine post_mk hI hd ?_ trivial rfl rfl rfl <;> clear hI hd <;> (try clear ih0)
      all_goals first | rfl | (rw [relsOk_not (m := m) (by omega) (relStep_bad (by assumption) (by assumption))])
  ·
    have h1' := of_decide_eq_false h1
    refine t_exit rfl ?_
    refine t_seq ?_
    refine t_region ?_
    refine r_op (o_move rfl rfl) ?_
    refine r_op (o_len rfl rfl rfl) ?_
    refine r_op (o_bin rfl rfl rfl rfl) ?_
    refine r_op (o_assign rfl rfl) ?_
    refine r_end ?_
    refine t_ret Tryd.func56 (.tmp rfl .nil) rfl fun E S w u hI hd => ?_
    refine post_mk hI hd ?_ trivial rfl rfl rfl <;> clear hI hd <;> (try clear ih0)
    all_goals first | rfl | (rw [relsOk_end (m := m) i2 (by omega)]; exact scD (by omega))
set_option maxHeartbeats 1000000 in
set_option maxRecDepth 10000 in
theorem c_slices_IndexFunc___int_int_ (l : List (Int)) (f : Nat) (cs : List ((Nat → T) × Nat)) (p : Int → Bool) (hl : l.length ≤ 9223372036854775807) (hf : ∀ x ∈ l, Fu Tryd.prog f ([.c (.t none (.v (.int .i64 (x))))] ++ pels cs) (.c (.t none (.v (.bool (p x)))))) : Pu Tryd.prog 77 [.c (.t none (.sl 1 encI (l))), .c (.fv f cs)] [] 0 (.c (.t none (.v (.int .i64 (idxI p l))))) := by
  refine pu_enter Tryd.func77 rfl (Nat.le_of_ble_eq_true rfl) fun w S => ?_
  refine t_seq ?_
  refine t_region ?_
  refine r_op (o_assign rfl rfl) ?_
  refine r_end ?_
  refine t_seq ?_
  refine t_seq ?_
  refine t_region ?_
  refine r_op (o_move rfl rfl) ?_
  refine r_op (o_len rfl rfl rfl) ?_
  refine r_op (o_move rfl rfl) ?_
  refine r_end ?_
  refine t_block ?_
  refine t_loopL (fun m => ⟨[(0, some (.c (.t none (.sl 1 encI (l))))), (1, some (.c (.fv f cs))), (7, some (.c (.t none (.v (.int .i64 (((l).length : Int))))))), (8, some (.c (.t none (.v (.int .i64 ((m : Int)))))))], [], 0⟩ : Nat → St) (fun m => m ≤ l.length ∧ ∀ j z, j < m → l[j]? = some z → p z = false) (fun m => l.length - m) 0 ⟨⟨rfl, ⟨rfl, ⟨rfl, ⟨rfl, trivial⟩⟩⟩⟩, trivial, rfl⟩ (by exact ⟨Nat.zero_le _, fun j z h => by omega⟩) ?_
  rintro m hI ih0
  try dsimp only at hI ih0
  obtain ⟨i1, i2⟩ := hI
  refine t_seq ?_
  refine t_region ?_
  refine r_op (o_bin rfl rfl rfl rfl) ?_
  refine r_end ?_
  refine t_seq ?_
  refine t_cond rfl (fun h1 => ?_) (fun h1 => ?_)
  ·
    have h1' := of_decide_eq_true h1
    refine t_skip ?_
    refine t_seq ?_
    refine t_block ?_
    refine t_seq ?_
    refine t_region ?_
    refine r_op (o_move rfl rfl) ?_
    refine r_op (o_assign rfl rfl) ?_
    refine r_end ?_
    refine t_seq ?_
    refine t_region ?_
    refine r_op (o_move rfl rfl) ?_
    refine r_op (o_move rfl rfl) ?_
    refine r_op (o_move rfl rfl) ?_
    obtain ⟨z2, hz3, b4⟩ := at_get (xs := l) (n := (m : Int)) (by first | omega | (simp; omega)) (by first | omega | (simp; omega))
    refine r_op (o_index rfl (by kernel_rfl) rfl rfl b4 hz3) ?_
    refine r_op (o_load1 rfl (by kernel_rfl) rfl rfl) ?_
    refine r_op (o_callv 0 0 false (hf z2 (List.mem_of_getElem? (by assumption))).1 (hf z2 (List.mem_of_getElem? (by assumption))).2 rfl rfl (.c .fv) (.cons rfl (.c .t0) .nil) rfl rfl rfl) ?_
    refine r_end ?_
    refine t_cond rfl (fun h5 => ?_) (fun h5 => ?_)
    ·
      have h5' := h5
      refine t_seq ?_
      refine t_region ?_
      refine r_op (o_move rfl rfl) ?_
      refine r_op (o_assign rfl rfl) ?_
      refine r_end ?_
      refine t_ret Tryd.func77 (.tmp rfl .nil) rfl fun E S w u hI hd => ?_
      refine post_mk hI hd ?_ trivial rfl rfl rfl <;> clear hI hd <;> (try clear ih0)
      all_goals first | rfl | (rw [idx_hit i2 (by assumption) (by assumption)])
    ·
      have h5' := h5
      refine t_skip ?_
      refine t_endblock ?_
      refine t_region ?_
      refine r_op (o_bin rfl rfl rfl rfl) ?_
      refine r_op (o_move rfl rfl) ?_
      refine r_end ?_
      refine t_le ?_ (ih0 (m + 1) (by (try dsimp only); omega) (by (try dsimp only); exact ⟨by omega, no_step i2 (by assumption) rfl (by assumption)⟩))
      exact ⟨⟨rfl, ⟨rfl, ⟨rfl, ⟨(eqI (wr64 (by omega) (by omega))), trivial⟩⟩⟩⟩, trivial, rfl⟩
  ·
    have h1' := of_decide_eq_false h1
    refine t_exit rfl ?_
    refine t_seq ?_
    refine t_region ?_
    refine r_op (o_assign rfl rfl) ?_
    refine r_end ?_
    refine t_ret Tryd.func77 (.tmp rfl .nil) rfl fun E S w u hI hd => ?_
    refine post_mk hI hd ?_ trivial rfl rfl rfl <;> clear hI hd <;> (try clear ih0)
    all_goals first | rfl | (rw [idx_none i2 (by omega)])
set_option maxHeartbeats 1000000 in
set_option maxRecDepth 10000 in
theorem c_slices_ContainsFunc___int_int_ (l : List (Int)) (f : Nat) (cs : List ((Nat → T) × Nat)) (p : Int → Bool) (hl : l.length ≤ 9223372036854775807) (hf : ∀ x ∈ l, Fu Tryd.prog f ([.c (.t none (.v (.int .i64 (x))))] ++ pels cs) (.c (.t none (.v (.bool (p x)))))) : Pu Tryd.prog 63 [.c (.t none (.sl 1 encI (l))), .c (.fv f cs)] [] 0 (.c (.t none (.v (.bool (l.any p))))) := by
  refine pu_enter Tryd.func63 rfl (Nat.le_of_ble_eq_true rfl) fun w S => ?_
  refine t_seq ?_
  refine t_region ?_
  refine r_op (o_assign rfl rfl) ?_
  refine r_end ?_
  refine t_seq ?_
  refine t_region ?_
  refine r_op (o_move rfl rfl) ?_
  refine r_op (o_move rfl rfl) ?_
  refine r_op (o_call 0 0 false (Go.Proofs.enters_of Tryd.func77 (by kernel_rfl) rfl) (c_slices_IndexFunc___int_int_ (l) (f) (cs) (p) (by first | omega | (simp; omega)) (hf)) rfl (.cons rfl (.c .t0) (.cons rfl (.c .fv) .nil)) rfl rfl rfl) ?_
  refine r_op (o_bin rfl rfl rfl rfl) ?_
  refine r_op (o_assign rfl rfl) ?_
  refine r_end ?_
  refine t_ret Tryd.func63 (.tmp rfl .nil) rfl fun E S w u hI hd => ?_
  refine post_mk hI hd ?_ trivial rfl rfl rfl <;> clear hI hd
  all_goals first | rfl | (exact scB idx_any)
set_option maxHeartbeats 1000000 in
set_option maxRecDepth 10000 in
theorem c_impl_IsValidAtom_1 (t : Int) : Pu Tryd.prog 64 [.c (.t none (.v (.int .i64 (t))))] [] 0 (.c (.t none (.v (.bool (!(termOk t)))))) := by
  refine pu_enter Tryd.func64 rfl (Nat.le_of_ble_eq_true rfl) fun w S => ?_
  refine t_seq ?_
  refine t_region ?_
  refine r_op (o_assign rfl rfl) ?_
  refine r_end ?_
  refine t_seq ?_
  refine t_region ?_
  refine r_op (o_move rfl rfl) ?_
  refine r_op (o_call 0 0 false (Go.Proofs.enters_of Tryd.func32 (by kernel_rfl) rfl) (c_impl_within (t) (-10) (4)) rfl (.cons rfl (.c .t0) (.cons rfl (.c .t0) (.cons rfl (.c .t0) .nil))) rfl rfl rfl) ?_
  refine r_op (o_not rfl rfl) ?_
  refine r_op (o_assign rfl rfl) ?_
  refine r_end ?_
  refine t_ret Tryd.func64 (.tmp rfl .nil) rfl fun E S w u hI hd => ?_
  refine post_mk hI hd ?_ trivial rfl rfl rfl <;> clear hI hd
  all_goals first | rfl | (refine scB ?_; unfold termOk; rfl)
set_option maxHeartbeats 1000000 in
set_option maxRecDepth 10000 in
theorem c_impl_IsValidAtom (rs : List (List UInt8 × Int × Bool)) (r : Int) (ts : List Int) (hrs : rs.length ≤ 4611686018427387904) (hts : ts.length ≤ 4611686018427387904) : Pu Tryd.prog 46 [.c (.t none (.sl 3 (enS3 encS encI encB) (rs))), .agg [.t none (.v (.int .i64 (r))), .t none (.sl 1 encI (ts))]] [] 0 (.c (.t none (.v (.bool (atomOk rs r ts))))) := by
  refine pu_enter Tryd.func46 rfl (Nat.le_of_ble_eq_true rfl) fun w S => ?_
  refine t_seq ?_
  refine t_region ?_
  refine r_op (o_box 0 rfl rfl rfl rfl) ?_
  refine r_op (o_assign rfl rfl) ?_
  refine r_end ?_
  refine t_seq ?_
  refine t_seq ?_
  refine t_draw (fun _ => true) (by kernel_rfl) ?_
  refine d_take 0 rfl rfl (by kernel_rfl) (by kernel_rfl) (by kernel_rfl) (p_move rfl) ?_
  refine d_only 1 rfl (by kernel_rfl) rfl (o_call 1 1 false (Go.Proofs.enters_of Tryd.func56 (by kernel_rfl) rfl) (c_impl_AreValidRelations (rs) (by first | omega | assumption | (simp; omega) | (simp only [IntKind.wrap_i64] at *; omega))) rfl (.cons rfl (.c .t0) .nil) rfl rfl rfl) ?_
  refine d_take 2 rfl rfl (by kernel_rfl) (by kernel_rfl) (by kernel_rfl) (p_not rfl) ?_
  refine d_take 3 rfl rfl (by kernel_rfl) (by kernel_rfl) (by kernel_rfl) (p_move rfl) ?_
  refine d_guard 4 rfl rfl (by kernel_rfl) (by kernel_rfl) (by kernel_rfl) rfl rfl (fun _ => p_fieldb (off := 0) (by kernel_rfl) rfl) (fun g1 => ?_) (fun g1 => ?_)
  ·
    have g1' := (bnf g1)
    refine d_guard 5 rfl rfl (by kernel_rfl) (by kernel_rfl) (by kernel_rfl) rfl rfl (fun _ => p_load1b (by kernel_rfl) rfl rfl rfl) (fun _ => ?_) (ncf g1)
    refine d_guard 6 rfl rfl (by kernel_rfl) (by kernel_rfl) (by kernel_rfl) rfl rfl (fun _ => p_move rfl) (fun _ => ?_) (ncf g1)
    refine d_guard 7 rfl rfl (by kernel_rfl) (by kernel_rfl) (by kernel_rfl) rfl rfl (fun _ => p_len rfl rfl) (fun _ => ?_) (ncf g1)
    refine d_guard 8 rfl rfl (by kernel_rfl) (by kernel_rfl) (by kernel_rfl) rfl rfl (fun _ => p_bin rfl rfl rfl) (fun _ => ?_) (ncf g1)
    refine d_onlyG 9 rfl rfl (by kernel_rfl) rfl rfl rfl (fun _ => (o_call 1 1 false (Go.Proofs.enters_of Tryd.func32 (by kernel_rfl) rfl) (c_impl_within (r) (0) (IntKind.i64.wrap (((rs).length : Int) - 1))) rfl (.cons rfl (.c .t0) (.cons rfl (.c .t0) (.cons rfl (.c .t0) .nil))) rfl rfl rfl)) (fun _ => ?_) (ncf g1)
    refine d_guard 10 rfl rfl (by kernel_rfl) (by kernel_rfl) (by kernel_rfl) rfl rfl (fun _ => p_not rfl) (fun _ => ?_) (ncf g1)
    refine d_take 11 rfl rfl (by kernel_rfl) (by kernel_rfl) (by kernel_rfl) (p_pickF rfl g1 rfl) ?_
    refine d_take 12 rfl rfl (by kernel_rfl) (by kernel_rfl) (by kernel_rfl) (p_move rfl) ?_
    refine d_guard 13 rfl rfl (by kernel_rfl) (by kernel_rfl) (by kernel_rfl) rfl rfl (fun _ => p_fieldb (off := 1) (by kernel_rfl) rfl) (fun g2 => ?_) (fun g2 => ?_)
    ·
      have g2' := of_decide_eq_true (bnf g2)
      refine d_guard 14 rfl rfl (by kernel_rfl) (by kernel_rfl) (by kernel_rfl) rfl rfl (fun _ => p_load1b (by kernel_rfl) rfl rfl rfl) (fun _ => ?_) (ncf g2)
      refine d_guard 15 rfl rfl (by kernel_rfl) (by kernel_rfl) (by kernel_rfl) rfl rfl (fun _ => p_len rfl rfl) (fun _ => ?_) (ncf g2)
      refine d_guard 16 rfl rfl (by kernel_rfl) (by kernel_rfl) (by kernel_rfl) rfl rfl (fun _ => p_move rfl) (fun _ => ?_) (ncf g2)
      refine d_guard 17 rfl rfl (by kernel_rfl) (by kernel_rfl) (by kernel_rfl) rfl rfl (fun _ => p_fieldb (off := 0) (by kernel_rfl) rfl) (fun _ => ?_) (ncf g2)
      refine d_guard 18 rfl rfl (by kernel_rfl) (by kernel_rfl) (by kernel_rfl) rfl rfl (fun _ => p_load1b (by kernel_rfl) rfl rfl rfl) (fun _ => ?_) (ncf g2)
      obtain ⟨z3, hz4, b5⟩ := at_get (xs := rs) (n := r) (by first | omega | assumption | (simp; omega) | (simp only [IntKind.wrap_i64] at *; omega)) (by first | omega | assumption | (simp; omega) | (simp only [IntKind.wrap_i64] at *; omega))
      refine d_guard 19 rfl rfl (by kernel_rfl) (by kernel_rfl) (by kernel_rfl) rfl rfl (fun _ => p_index (by kernel_rfl) rfl rfl b5 hz4) (fun _ => ?_) (ncf g2)
      refine d_guard 20 rfl rfl (by kernel_rfl) (by kernel_rfl) (by kernel_rfl) rfl rfl (fun _ => p_field (off := 1) (by kernel_rfl) rfl) (fun _ => ?_) (ncf g2)
      refine d_guard 21 rfl rfl (by kernel_rfl) (by kernel_rfl) (by kernel_rfl) rfl rfl (fun _ => p_load1 (by kernel_rfl) rfl rfl) (fun _ => ?_) (ncf g2)
      refine d_guard 22 rfl rfl (by kernel_rfl) (by kernel_rfl) (by kernel_rfl) rfl rfl (fun _ => p_bin rfl rfl rfl) (fun _ => ?_) (ncf g2)
      refine d_take 23 rfl rfl (by kernel_rfl) (by kernel_rfl) (by kernel_rfl) (p_pickF rfl g2 rfl) ?_
      refine d_end (by kernel_rfl) ?_
      refine t_cond rfl (fun h6 => ?_) (fun h6 => ?_)
      ·
        have h6' := of_decide_eq_true h6
        refine t_seq ?_
        refine t_region ?_
        refine r_op (o_assign rfl rfl) ?_
        refine r_end ?_
        refine t_ret Tryd.func46 (.tmp rfl .nil) rfl fun E S w u hI hd => ?_
        refine post_mk hI hd ?_ trivial rfl rfl rfl <;> clear hI hd
        all_goals first | rfl | (refine scB ?_; first | (rw [atom_no1 (by assumption)]; done) | (rw [atom_no2 (by simp only [IntKind.wrap_i64] at *; omega)]; done) | (rw [atom_no3 (by assumption) (by assumption)]; done) | (rw [atom_yes (by assumption) (by simp only [IntKind.wrap_i64] at *; omega) (by assumption) (by omega)]; done) | (rw [atom_yes (by assumption) (by simp only [IntKind.wrap_i64] at *; omega) (by assumption) (by omega), any_true (p := fun t => !termOk t) (by assumption) (by simp only [termOk, Bool.not_eq_true']; exact decide_eq_false (by assumption))]; rfl) | (rw [atom_yes (by assumption) (by simp only [IntKind.wrap_i64] at *; omega) (by assumption) (by omega), any_false (p := fun t => !termOk t) i2 (by omega)]; rfl))
      ·
        have h6' := of_decide_eq_false h6
        refine t_skip ?_
        refine t_seq ?_
        refine t_region ?_
        refine r_op (o_fieldb rfl (off := 1) (by kernel_rfl) rfl) ?_
        refine r_op (o_load1b rfl (by kernel_rfl) rfl rfl rfl) ?_
        refine r_op (o_call 1 1 false (Go.Proofs.enters_of Tryd.func63 (by kernel_rfl) rfl) (c_slices_ContainsFunc___int_int_ (ts) (64) ([]) (fun (x0 : Int) => !(termOk (x0))) (by first | omega | assumption | (simp; omega) | (simp only [IntKind.wrap_i64] at *; omega)) (fun x0 mx0 => ⟨Go.Proofs.enters_of Tryd.func64 (by kernel_rfl) rfl, c_impl_IsValidAtom_1 (x0)⟩)) rfl (.cons rfl (.c .t0) (.cons rfl (.c (.clo .nil)) .nil)) rfl rfl rfl) ?_
        refine r_op (o_not rfl rfl) ?_
        refine r_op (o_assign rfl rfl) ?_
        refine r_end ?_
        refine t_ret Tryd.func46 (.tmp rfl .nil) rfl fun E S w u hI hd => ?_
        refine post_mk hI hd ?_ trivial rfl rfl rfl <;> clear hI hd
        all_goals first | rfl | (refine scB ?_; first | (rw [atom_no1 (by assumption)]; done) | (rw [atom_no2 (by simp only [IntKind.wrap_i64] at *; omega)]; done) | (rw [atom_no3 (by assumption) (by assumption)]; done) | (rw [atom_yes (by assumption) (by simp only [IntKind.wrap_i64] at *; omega) (by assumption) (by omega)]; done) | (rw [atom_yes (by assumption) (by simp only [IntKind.wrap_i64] at *; omega) (by assumption) (by omega), any_true (p := fun t => !termOk t) (by assumption) (by simp only [termOk, Bool.not_eq_true']; exact decide_eq_false (by assumption))]; rfl) | (rw [atom_yes (by assumption) (by simp only [IntKind.wrap_i64] at *; omega) (by assumption) (by omega), any_false (p := fun t => !termOk t) i2 (by omega)]; rfl))
    ·
      have g2' := of_decide_eq_false (bnt g2)
      refine d_guard 14 rfl rfl (by kernel_rfl) (by kernel_rfl) (by kernel_rfl) rfl rfl (v := .c .top) (nc g2) (nc g2) (fun _ => ?_)
      refine d_guard 15 rfl rfl (by kernel_rfl) (by kernel_rfl) (by kernel_rfl) rfl rfl (v := .c .top) (nc g2) (nc g2) (fun _ => ?_)
      refine d_guard 16 rfl rfl (by kernel_rfl) (by kernel_rfl) (by kernel_rfl) rfl rfl (v := .c .top) (nc g2) (nc g2) (fun _ => ?_)
      refine d_guard 17 rfl rfl (by kernel_rfl) (by kernel_rfl) (by kernel_rfl) rfl rfl (v := .c .top) (nc g2) (nc g2) (fun _ => ?_)
      refine d_guard 18 rfl rfl (by kernel_rfl) (by kernel_rfl) (by kernel_rfl) rfl rfl (v := .c .top) (nc g2) (nc g2) (fun _ => ?_)
      refine d_guard 19 rfl rfl (by kernel_rfl) (by kernel_rfl) (by kernel_rfl) rfl rfl (v := .c .top) (nc g2) (nc g2) (fun _ => ?_)
      refine d_guard 20 rfl rfl (by kernel_rfl) (by kernel_rfl) (by kernel_rfl) rfl rfl (v := .c .top) (nc g2) (nc g2) (fun _ => ?_)
      refine d_guard 21 rfl rfl (by kernel_rfl) (by kernel_rfl) (by kernel_rfl) rfl rfl (v := .c .top) (nc g2) (nc g2) (fun _ => ?_)
      refine d_guard 22 rfl rfl (by kernel_rfl) (by kernel_rfl) (by kernel_rfl) rfl rfl (v := .c .top) (nc g2) (nc g2) (fun _ => ?_)
      refine d_take 23 rfl rfl (by kernel_rfl) (by kernel_rfl) (by kernel_rfl) (p_pickT rfl g2 rfl) ?_
      refine d_end (by kernel_rfl) ?_
      refine t_cond rfl (fun _ => ?_) (nc rfl)
      refine t_seq ?_
      refine t_region ?_
      refine r_op (o_assign rfl rfl) ?_
      refine r_end ?_
      refine t_ret Tryd.func46 (.tmp rfl .nil) rfl fun E S w u hI hd => ?_
      refine post_mk hI hd ?_ trivial rfl rfl rfl <;> clear hI hd
      all_goals first | rfl | (refine scB ?_; first | (rw [atom_no1 (by assumption)]; done) | (rw [atom_no2 (by simp only [IntKind.wrap_i64] at *; omega)]; done) | (rw [atom_no3 (by assumption) (by assumption)]; done) | (rw [atom_yes (by assumption) (by simp only [IntKind.wrap_i64] at *; omega) (by assumption) (by omega)]; done) | (rw [atom_yes (by assumption) (by simp only [IntKind.wrap_i64] at *; omega) (by assumption) (by omega), any_true (p := fun t => !termOk t) (by assumption) (by simp only [termOk, Bool.not_eq_true']; exact decide_eq_false (by assumption))]; rfl) | (rw [atom_yes (by assumption) (by simp only [IntKind.wrap_i64] at *; omega) (by assumption) (by omega), any_false (p := fun t => !termOk t) i2 (by omega)]; rfl))
  ·
    have g1' := (bnt g1)
    refine d_guard 5 rfl rfl (by kernel_rfl) (by kernel_rfl) (by kernel_rfl) rfl rfl (v := .c .top) (nc g1) (nc g1) (fun _ => ?_)
    refine d_guard 6 rfl rfl (by kernel_rfl) (by kernel_rfl) (by kernel_rfl) rfl rfl (v := .c .top) (nc g1) (nc g1) (fun _ => ?_)
    refine d_guard 7 rfl rfl (by kernel_rfl) (by kernel_rfl) (by kernel_rfl) rfl rfl (v := .c .top) (nc g1) (nc g1) (fun _ => ?_)
    refine d_guard 8 rfl rfl (by kernel_rfl) (by kernel_rfl) (by kernel_rfl) rfl rfl (v := .c .top) (nc g1) (nc g1) (fun _ => ?_)
    refine d_guard 9 rfl rfl (by kernel_rfl) (by kernel_rfl) (by kernel_rfl) rfl rfl (v := .c .top) (nc g1) (nc g1) (fun _ => ?_)
    refine d_guard 10 rfl rfl (by kernel_rfl) (by kernel_rfl) (by kernel_rfl) rfl rfl (v := .c .top) (nc g1) (nc g1) (fun _ => ?_)
    refine d_take 11 rfl rfl (by kernel_rfl) (by kernel_rfl) (by kernel_rfl) (p_pickT rfl g1 rfl) ?_
    refine d_take 12 rfl rfl (by kernel_rfl) (by kernel_rfl) (by kernel_rfl) (p_move rfl) ?_
    refine d_guard 13 rfl rfl (by kernel_rfl) (by kernel_rfl) (by kernel_rfl) rfl rfl (v := .c .top) (nc rfl) (nc rfl) (fun _ => ?_)
    refine d_guard 14 rfl rfl (by kernel_rfl) (by kernel_rfl) (by kernel_rfl) rfl rfl (v := .c .top) (nc rfl) (nc rfl) (fun _ => ?_)
    refine d_guard 15 rfl rfl (by kernel_rfl) (by kernel_rfl) (by kernel_rfl) rfl rfl (v := .c .top) (nc rfl) (nc rfl) (fun _ => ?_)
    refine d_guard 16 rfl rfl (by kernel_rfl) (by kernel_rfl) (by kernel_rfl) rfl rfl (v := .c .top) (nc rfl) (nc rfl) (fun _ => ?_)
    refine d_guard 17 rfl rfl (by kernel_rfl) (by kernel_rfl) (by kernel_rfl) rfl rfl (v := .c .top) (nc rfl) (nc rfl) (fun _ => ?_)
    refine d_guard 18 rfl rfl (by kernel_rfl) (by kernel_rfl) (by kernel_rfl) rfl rfl (v := .c .top) (nc rfl) (nc rfl) (fun _ => ?_)
    refine d_guard 19 rfl rfl (by kernel_rfl) (by kernel_rfl) (by kernel_rfl) rfl rfl (v := .c .top) (nc rfl) (nc rfl) (fun _ => ?_)
    refine d_guard 20 rfl rfl (by kernel_rfl) (by kernel_rfl) (by kernel_rfl) rfl rfl (v := .c .top) (nc rfl) (nc rfl) (fun _ => ?_)
    refine d_guard 21 rfl rfl (by kernel_rfl) (by kernel_rfl) (by kernel_rfl) rfl rfl (v := .c .top) (nc rfl) (nc rfl) (fun _ => ?_)
    refine d_guard 22 rfl rfl (by kernel_rfl) (by kernel_rfl) (by kernel_rfl) rfl rfl (v := .c .top) (nc rfl) (nc rfl) (fun _ => ?_)
    refine d_take 23 rfl rfl (by kernel_rfl) (by kernel_rfl) (by kernel_rfl) (p_pickT rfl rfl rfl) ?_
    refine d_end (by kernel_rfl) ?_
    refine t_cond rfl (fun _ => ?_) (nc rfl)
    refine t_seq ?_
    refine t_region ?_
    refine r_op (o_assign rfl rfl) ?_
    refine r_end ?_
    refine t_ret Tryd.func46 (.tmp rfl .nil) rfl fun E S w u hI hd => ?_
    refine post_mk hI hd ?_ trivial rfl rfl rfl <;> clear hI hd
    all_goals first | rfl | (refine scB ?_; first | (rw [atom_no1 (by assumption)]; done) | (rw [atom_no2 (by simp only [IntKind.wrap_i64] at *; omega)]; done) | (rw [atom_no3 (by assumption) (by assumption)]; done) | (rw [atom_yes (by assumption) (by simp only [IntKind.wrap_i64] at *; omega) (by assumption) (by omega)]; done) | (rw [atom_yes (by assumption) (by simp only [IntKind.wrap_i64] at *; omega) (by assumption) (by omega), any_true (p := fun t => !termOk t) (by assumption) (by simp only [termOk, Bool.not_eq_true']; exact decide_eq_false (by assumption))]; rfl) | (rw [atom_yes (by assumption) (by simp only [IntKind.wrap_i64] at *; omega) (by assumption) (by omega), any_false (p := fun t => !termOk t) i2 (by omega)]; rfl))
def Tryd.laysI_ren : Go.Shelf.Ren := ⟨fun | 171 => 54 | 243 => 72 | 246 => 84 | 283 => 89 | 284 => 90 | 285 => 91 | 286 => 92 | 129 => 103 | 317 => 104 | 318 => 105 | 319 => 106 | 320 => 107 | 337 => 114 | 338 => 115 | n => n, fun | 3 => 3 | 9 => 9 | 2 => 2 | 4 => 4 | 171 => 111 | 0 => 0 | 53 => 112 | 37 => 79 | 5 => 5 | 173 => 115 | 212 => 129 | 51 => 126 | 20 => 20 | 213 => 130 | 46 => 110 | 232 => 140 | 233 => 141 | n => n, fun | 17 => 1 | 18 => 2 | 19 => 3 | n => n⟩
theorem Tryd.laysI : Go.Proofs.Lays.n171 Tryd.prog Tryd.laysI_ren := {
 mixed := by kernel_rfl
 f129 := Tryd.func103.trans (congrArg some (by kernel_rfl))
 f171 := Tryd.func54.trans (congrArg some (by kernel_rfl))
 f243 := Tryd.func72.trans (congrArg some (by kernel_rfl))
 f246 := Tryd.func84.trans (congrArg some (by kernel_rfl))
 f283 := Tryd.func89.trans (congrArg some (by kernel_rfl))
 f284 := Tryd.func90.trans (congrArg some (by kernel_rfl))
 f285 := Tryd.func91.trans (congrArg some (by kernel_rfl))
 f286 := Tryd.func92.trans (congrArg some (by kernel_rfl))
 f317 := Tryd.func104.trans (congrArg some (by kernel_rfl))
 f318 := Tryd.func105.trans (congrArg some (by kernel_rfl))
 f319 := Tryd.func106.trans (congrArg some (by kernel_rfl))
 f320 := Tryd.func107.trans (congrArg some (by kernel_rfl))
 f337 := Tryd.func114.trans (congrArg some (by kernel_rfl))
 f338 := Tryd.func115.trans (congrArg some (by kernel_rfl))
 t0 := Tryd.underlying0
 a0 := Tryd.isAgg0
 z0 := Tryd.sizeOf0
 v0 := Tryd.zeroValue0
 t2 := Tryd.underlying2
 a2 := Tryd.isAgg2
 z2 := Tryd.sizeOf2
 v2 := Tryd.zeroValue2
 t3 := Tryd.underlying3
 a3 := Tryd.isAgg3
 z3 := Tryd.sizeOf3
 v3 := Tryd.zeroValue3
 t4 := Tryd.underlying4
 a4 := Tryd.isAgg4
 z4 := Tryd.sizeOf4
 v4 := Tryd.zeroValue4
 t5 := Tryd.underlying5
 a5 := Tryd.isAgg5
 z5 := Tryd.sizeOf5
 v5 := Tryd.zeroValue5
 t9 := Tryd.underlying9
 a9 := Tryd.isAgg9
 z9 := Tryd.sizeOf9
 v9 := Tryd.zeroValue9
 t20 := Tryd.underlying20
 a20 := Tryd.isAgg20
 z20 := Tryd.sizeOf20
 v20 := Tryd.zeroValue20
 t37 := Tryd.underlying79
 a37 := Tryd.isAgg79
 z37 := Tryd.sizeOf79
 v37 := Tryd.zeroValue79
 t46 := Tryd.underlying110
 a46 := Tryd.isAgg110
 z46 := Tryd.sizeOf110
 v46 := Tryd.zeroValue110
 t51 := Tryd.underlying126
 a51 := Tryd.isAgg126
 z51 := Tryd.sizeOf126
 v51 := Tryd.zeroValue126
 t53 := Tryd.underlying112
 a53 := Tryd.isAgg112
 z53 := Tryd.sizeOf112
 v53 := Tryd.zeroValue112
 t171 := Tryd.underlying111
 a171 := Tryd.isAgg111
 z171 := Tryd.sizeOf111
 v171 := Tryd.zeroValue111
 t173 := Tryd.underlying115
 a173 := Tryd.isAgg115
 z173 := Tryd.sizeOf115
 v173 := Tryd.zeroValue115
 t212 := Tryd.underlying129
 a212 := Tryd.isAgg129
 z212 := Tryd.sizeOf129
 v212 := Tryd.zeroValue129
 t213 := Tryd.underlying130
 a213 := Tryd.isAgg130
 z213 := Tryd.sizeOf130
 t232 := Tryd.underlying140
 a232 := Tryd.isAgg140
 z232 := Tryd.sizeOf140
 v232 := Tryd.zeroValue140
 t233 := Tryd.underlying141
 a233 := Tryd.isAgg141
 z233 := Tryd.sizeOf141
 v233 := Tryd.zeroValue141
 g17 := by kernel_rfl
 g18 := by kernel_rfl
 g19 := by kernel_rfl }
set_option maxHeartbeats 1000000 in
set_option maxRecDepth 10000 in
theorem c_strconv_Itoa (i : Int) (hi : 0 ≤ i ∧ i < 100) : Pu Tryd.prog 54 [.c (.t none (.v (.int .i64 (i))))] [] 0 (.c (.t none (.v (.string (mkS (fmtN i)))))) := by
  exact (fmtN_dec (n := i) hi.1) ▸ itoa_pu Tryd.laysI i hi
set_option maxHeartbeats 1000000 in
set_option maxRecDepth 10000 in
theorem c_impl_FormatInt (i : Int) (hi : 0 ≤ i ∧ i < 100) : Pu Tryd.prog 33 [.c (.t none (.v (.int .i64 (i))))] [] 0 (.c (.t none (.v (.string (mkS (fmtN i)))))) := by
  refine pu_enter Tryd.func33 rfl (Nat.le_of_ble_eq_true rfl) fun w S => ?_
  refine t_seq ?_
  refine t_region ?_
  refine r_op (o_assign rfl rfl) ?_
  refine r_end ?_
  refine t_seq ?_
  refine t_region ?_
  refine r_op (o_move rfl rfl) ?_
  refine r_op (o_call 0 0 false (Go.Proofs.enters_of Tryd.func54 (by kernel_rfl) rfl) (c_strconv_Itoa (i) (by first | omega | assumption)) rfl (.cons rfl (.c .t0) .nil) rfl rfl rfl) ?_
  refine r_op (o_assign rfl rfl) ?_
  refine r_end ?_
  refine t_ret Tryd.func33 (.tmp rfl .nil) rfl fun E S w u hI hd => ?_
  refine post_mk hI hd ?_ trivial rfl rfl rfl <;> clear hI hd
  all_goals first | rfl | (simp_all <;> omega)
set_option maxHeartbeats 1000000 in
set_option maxRecDepth 10000 in
theorem c_impl_FormatTerm (t : Int) (ht : okI t) : Pu Tryd.prog 9 [.c (.t none (.v (.int .i64 (t))))] [] 0 (.c (.t none (.v (.string (mkS (fmtT t)))))) := by
  refine pu_enter Tryd.func9 rfl (Nat.le_of_ble_eq_true rfl) fun w S => ?_
  have h1 := ht.1; have h2 := ht.2
  refine t_seq ?_
  refine t_region ?_
  refine r_op (o_assign rfl rfl) ?_
  refine r_end ?_
  refine t_seq ?_
  refine t_block ?_
  refine t_seq ?_
  refine t_region ?_
  refine r_op (o_move rfl rfl) ?_
  refine r_op (o_call 0 0 false (Go.Proofs.enters_of Tryd.func32 (by kernel_rfl) rfl) (c_impl_within (t) (0) (4)) rfl (.cons rfl (.c .t0) (.cons rfl (.c .t0) (.cons rfl (.c .t0) .nil))) rfl rfl rfl) ?_
  refine r_op (o_assign rfl rfl) ?_
  refine r_end ?_
  refine t_cond rfl (fun h1 => ?_) (fun h1 => ?_)
  ·
    have h1' := of_decide_eq_true h1
    refine t_seq ?_
    refine t_region ?_
    refine r_op (o_move rfl rfl) ?_
    refine r_op (o_move rfl rfl) ?_
    refine r_op (o_bin rfl rfl rfl rfl) ?_
    refine r_op (o_subS rfl Tryd.underlying9 rfl rfl rfl (by first | omega | (rw [wr64 (by omega) (by omega)]; omega) | (rw [wr64 (by omega) (by omega)]; simp; omega) | (constructor <;> (rw [wr64 (by omega) (by omega)]; omega))) (by first | omega | (rw [wr64 (by omega) (by omega)]; omega) | (rw [wr64 (by omega) (by omega)]; simp; omega) | (constructor <;> (rw [wr64 (by omega) (by omega)]; omega))) (by first | omega | (rw [wr64 (by omega) (by omega)]; omega) | (rw [wr64 (by omega) (by omega)]; simp; omega) | (constructor <;> (rw [wr64 (by omega) (by omega)]; omega)))) ?_
    refine r_op (o_assign rfl rfl) ?_
    refine r_end ?_
    refine t_ret Tryd.func9 (.tmp rfl .nil) rfl fun E S w u hI hd => ?_
    refine post_mk hI hd ?_ trivial rfl rfl rfl <;> clear hI hd
    all_goals first | rfl | (refine scS ?_; first | exact fmtT_var (by omega) | exact fmtT_con (by omega) | exact fmtT_no (by omega) (by omega))
  ·
    have h1' := of_decide_eq_false h1
    refine t_seq ?_
    refine t_region ?_
    refine r_op (o_move rfl rfl) ?_
    refine r_op (o_call 0 0 false (Go.Proofs.enters_of Tryd.func32 (by kernel_rfl) rfl) (c_impl_within (t) (-10) (-1)) rfl (.cons rfl (.c .t0) (.cons rfl (.c .t0) (.cons rfl (.c .t0) .nil))) rfl rfl rfl) ?_
    refine r_op (o_assign rfl rfl) ?_
    refine r_end ?_
    refine t_cond rfl (fun h2 => ?_) (fun h2 => ?_)
    ·
      have h2' := of_decide_eq_true h2
      refine t_seq ?_
      refine t_region ?_
      refine r_op (o_move rfl rfl) ?_
      refine r_op (o_bin rfl rfl rfl rfl) ?_
      refine r_op (o_call 0 0 false (Go.Proofs.enters_of Tryd.func33 (by kernel_rfl) rfl) (c_impl_FormatInt (IntKind.i64.wrap ((-1) - t)) (by first | omega | (rw [wr64 (by omega) (by omega)]; omega) | (rw [wr64 (by omega) (by omega)]; simp; omega) | (constructor <;> (rw [wr64 (by omega) (by omega)]; omega)))) rfl (.cons rfl (.c .t0) .nil) rfl rfl rfl) ?_
      refine r_op (o_assign rfl rfl) ?_
      refine r_end ?_
      refine t_ret Tryd.func9 (.tmp rfl .nil) rfl fun E S w u hI hd => ?_
      refine post_mk hI hd ?_ trivial rfl rfl rfl <;> clear hI hd
      all_goals first | rfl | (refine scS ?_; first | exact fmtT_var (by omega) | exact fmtT_con (by omega) | exact fmtT_no (by omega) (by omega))
    ·
      have h2' := of_decide_eq_false h2
      refine t_skip ?_
      refine t_endblock ?_
      refine t_seq ?_
      refine t_region ?_
      refine r_op (o_assign rfl rfl) ?_
      refine r_end ?_
      refine t_ret Tryd.func9 (.tmp rfl .nil) rfl fun E S w u hI hd => ?_
      refine post_mk hI hd ?_ trivial rfl rfl rfl <;> clear hI hd
      all_goals first | rfl | (refine scS ?_; first | exact fmtT_var (by omega) | exact fmtT_con (by omega) | exact fmtT_no (by omega) (by omega))
set_option maxHeartbeats 1000000 in
set_option maxRecDepth 10000 in
theorem c_impl_FormatAtom (rs : List (List UInt8 × Int × Bool)) (r : Int) (ts : List Int) (hrs : rs.length ≤ 4611686018427387904) (hts : ts.length ≤ 4611686018427387904) (ho : ∀ x ∈ ts, okI x) : Pu Tryd.prog 23 [.c (.t none (.sl 3 (enS3 encS encI encB) (rs))), .agg [.t none (.v (.int .i64 (r))), .t none (.sl 1 encI (ts))]] [] 0 (.c (.t none (.v (.string (mkS (fmtA rs (r, ts))))))) := by
  refine pu_enter Tryd.func23 rfl (Nat.le_of_ble_eq_true rfl) fun w S => ?_
  have ar := @atomOk_rels rs r ts
  refine t_seq ?_
  refine t_region ?_
  refine r_op (o_box 0 rfl rfl rfl rfl) ?_
  refine r_op (o_assign rfl rfl) ?_
  refine r_end ?_
  refine t_seq ?_
  refine t_seq ?_
  refine t_region ?_
  refine r_op (o_move rfl rfl) ?_
  refine r_op (o_loadAb rfl (n := 2) (by kernel_rfl) (by kernel_rfl) rfl rfl rfl) ?_
  refine r_op (o_call 1 1 false (Go.Proofs.enters_of Tryd.func46 (by kernel_rfl) rfl) (c_impl_IsValidAtom (rs) (r) (ts) (by first | omega | assumption | exact Nat.le_trans (Nat.add_le_add cl (fmtT_len _)) (by decide) | exact ho _ (List.mem_of_getElem? (by assumption)) | (have q := ar (by assumption); omega)) (by first | omega | assumption | exact Nat.le_trans (Nat.add_le_add cl (fmtT_len _)) (by decide) | exact ho _ (List.mem_of_getElem? (by assumption)) | (have q := ar (by assumption); omega))) rfl (.cons rfl (.c .t0) (.cons rfl (.agg (.cons .t0 (.cons .t0 .nil))) .nil)) rfl rfl rfl) ?_
  refine r_op (o_not rfl rfl) ?_
  refine r_end ?_
  refine t_cond rfl (fun h1 => ?_) (fun h1 => ?_)
  ·
    have h1' := (bnt h1)
    refine t_seq ?_
    refine t_region ?_
    refine r_op (o_assign rfl rfl) ?_
    refine r_end ?_
    refine t_ret Tryd.func23 (.tmp rfl .nil) rfl fun E S w u hI hd => ?_
    refine post_mk hI hd ?_ trivial rfl rfl rfl <;> clear hI hd <;> (try clear ih0)
    all_goals first | rfl | (refine scS ?_; first | exact fmtA_no (by assumption) | exact fmtA_yes (by assumption) (by assumption) (by omega))
  ·
    have h1' := (bnf h1)
    refine t_skip ?_
    refine t_seq ?_
    refine t_region ?_
    refine r_op (o_move rfl rfl) ?_
    refine r_op (o_fieldb rfl (off := 0) (by kernel_rfl) rfl) ?_
    refine r_op (o_load1b rfl (by kernel_rfl) rfl rfl rfl) ?_
    obtain ⟨z2, hz3, b4⟩ := at_get (xs := rs) (n := r) (by first | omega | assumption | exact Nat.le_trans (Nat.add_le_add cl (fmtT_len _)) (by decide) | exact ho _ (List.mem_of_getElem? (by assumption)) | (have q := ar (by assumption); omega)) (by first | omega | assumption | exact Nat.le_trans (Nat.add_le_add cl (fmtT_len _)) (by decide) | exact ho _ (List.mem_of_getElem? (by assumption)) | (have q := ar (by assumption); omega))
    refine r_op (o_index rfl (by kernel_rfl) rfl rfl b4 hz3) ?_
    refine r_op (o_field rfl (off := 0) (by kernel_rfl) rfl) ?_
    refine r_op (o_load1 rfl (by kernel_rfl) rfl rfl) ?_
    refine r_op (o_assign rfl rfl) ?_
    refine r_end ?_
    refine t_seq ?_
    refine t_seq ?_
    refine t_region ?_
    refine r_op (o_fieldb rfl (off := 1) (by kernel_rfl) rfl) ?_
    refine r_op (o_load1b rfl (by kernel_rfl) rfl rfl rfl) ?_
    refine r_op (o_len rfl rfl rfl) ?_
    refine r_op (o_move rfl rfl) ?_
    refine r_end ?_
    refine t_block ?_
    refine t_loopL (fun m => ⟨[(4, some (.c (.t none (.v (.string (mkS (([] : List UInt8)))))))), (5, some (.c (.t none (.v (.string (mkS (z2.1 ++ (ts.take m).flatMap fmtT))))))), (19, some (.c (.t none (.sl 1 encI (ts))))), (20, some (.c (.t none (.v (.int .i64 (((ts).length : Int))))))), (21, some (.c (.t none (.v (.int .i64 ((m : Int)))))))], [(0, some (.box [.t none (.v (.int .i64 (r))), .t none (.sl 1 encI (ts))]))], 1⟩ : Nat → St) (fun m => m ≤ ts.length) (fun m => ts.length - m) 0 ⟨⟨rfl, ⟨(eqS (by simp)), ⟨rfl, ⟨rfl, ⟨rfl, trivial⟩⟩⟩⟩⟩, ⟨rfl, trivial⟩, rfl⟩ (by exact Nat.zero_le _) ?_
    rintro m hI ih0
    try dsimp only at hI ih0
    have i1 := hI; have a1 := ar (by assumption); have nl := name_len a1.1 hz3; have fl := flatT_len (ts.take m); have tl : (ts.take m).length ≤ 3 := (by rw [List.length_take]; omega); have cl : (z2.1 ++ (ts.take m).flatMap fmtT).length ≤ 7 := (by rw [List.length_append]; omega)
    refine t_seq ?_
    refine t_region ?_
    refine r_op (o_bin rfl rfl rfl rfl) ?_
    refine r_end ?_
    refine t_seq ?_
    refine t_cond rfl (fun h5 => ?_) (fun h5 => ?_)
    ·
      have h5' := of_decide_eq_true h5
      refine t_skip ?_
      refine t_seq ?_
      refine t_block ?_
      refine t_seq ?_
      refine t_region ?_
      obtain ⟨z6, hz7, b8⟩ := at_get (xs := ts) (n := (m : Int)) (by first | omega | assumption | exact Nat.le_trans (Nat.add_le_add cl (fmtT_len _)) (by decide) | exact ho _ (List.mem_of_getElem? (by assumption)) | (have q := ar (by assumption); omega)) (by first | omega | assumption | exact Nat.le_trans (Nat.add_le_add cl (fmtT_len _)) (by decide) | exact ho _ (List.mem_of_getElem? (by assumption)) | (have q := ar (by assumption); omega))
      refine r_op (o_index rfl (by kernel_rfl) rfl rfl b8 hz7) ?_
      refine r_op (o_load1 rfl (by kernel_rfl) rfl rfl) ?_
      refine r_op (o_assign rfl rfl) ?_
      refine r_end ?_
      refine t_region ?_
      refine r_op (o_move rfl rfl) ?_
      refine r_op (o_move rfl rfl) ?_
      refine r_op (o_call 1 1 false (Go.Proofs.enters_of Tryd.func9 (by kernel_rfl) rfl) (c_impl_FormatTerm (z6) (by first | omega | assumption | exact Nat.le_trans (Nat.add_le_add cl (fmtT_len _)) (by decide) | exact ho _ (List.mem_of_getElem? (by assumption)) | (have q := ar (by assumption); omega))) rfl (.cons rfl (.c .t0) .nil) rfl rfl rfl) ?_
      refine r_op (o_cat rfl rfl rfl (by first | omega | assumption | exact Nat.le_trans (Nat.add_le_add cl (fmtT_len _)) (by decide) | exact ho _ (List.mem_of_getElem? (by assumption)) | (have q := ar (by assumption); omega))) ?_
      refine r_op (o_assign rfl rfl) ?_
      refine r_end ?_
      refine t_endblock ?_
      refine t_region ?_
      refine r_op (o_bin rfl rfl rfl rfl) ?_
      refine r_op (o_move rfl rfl) ?_
      refine r_end ?_
      refine t_le ?_ (ih0 (m + 1) (by (try dsimp only); omega) (by (try dsimp only); omega))
      exact ⟨⟨rfl, ⟨(eqS (by rw [List.append_assoc, fmtF_step (m := m) hz7])), ⟨rfl, ⟨rfl, ⟨(eqI (wr64 (by omega) (by omega))), trivial⟩⟩⟩⟩⟩, ⟨rfl, trivial⟩, rfl⟩
    ·
      have h5' := of_decide_eq_false h5
      refine t_exit rfl ?_
      refine t_seq ?_
      refine t_region ?_
      refine r_op (o_move rfl rfl) ?_
      refine r_op (o_assign rfl rfl) ?_
      refine r_end ?_
      refine t_ret Tryd.func23 (.tmp rfl .nil) rfl fun E S w u hI hd => ?_
      refine post_mk hI hd ?_ trivial rfl rfl rfl <;> clear hI hd <;> (try clear ih0)
      all_goals first | rfl | (refine scS ?_; first | exact fmtA_no (by assumption) | exact fmtA_yes (by assumption) (by assumption) (by omega))
set_option maxHeartbeats 1000000 in
set_option maxRecDepth 10000 in
theorem c_laws_eqRelation (a0 : List UInt8) (a1 : Int) (a2 : Bool) (b0 : List UInt8) (b1 : Int) (b2 : Bool) (hs : (a0).length ≤ 1048576) : Pu Tryd.prog 38 [.agg [.t none (.v (.string (mkS (a0)))), .t none (.v (.int .i64 (a1))), .t none (.v (.bool (a2)))], .agg [.t none (.v (.string (mkS (b0)))), .t none (.v (.int .i64 (b1))), .t none (.v (.bool (b2)))]] [] 0 (.c (.t none (.v (.bool (decide ((a0, a1, a2) = (b0, b1, b2))))))) := by
  refine pu_enter Tryd.func38 rfl (Nat.le_of_ble_eq_true rfl) fun w S => ?_
  refine t_seq ?_
  refine t_region ?_
  refine r_op (o_box 0 rfl rfl rfl rfl) ?_
  refine r_op (o_box 1 rfl rfl rfl rfl) ?_
  refine r_op (o_assign rfl rfl) ?_
  refine r_end ?_
  refine t_seq ?_
  refine t_seq ?_
  refine t_region ?_
  refine r_op (o_fieldb rfl (off := 0) (by kernel_rfl) rfl) ?_
  refine r_op (o_load1b rfl (by kernel_rfl) rfl rfl rfl) ?_
  refine r_op (o_fieldb rfl (off := 0) (by kernel_rfl) rfl) ?_
  refine r_op (o_load1b rfl (by kernel_rfl) rfl rfl rfl) ?_
  refine r_op (o_str rfl rfl rfl rfl) ?_
  refine r_end ?_
  refine t_cond rfl (fun h1 => ?_) (fun h1 => ?_)
  ·
    have h1' := of_decide_eq_true h1
    refine t_seq ?_
    refine t_region ?_
    refine r_op (o_assign rfl rfl) ?_
    refine r_end ?_
    refine t_ret Tryd.func38 (.tmp rfl .nil) rfl fun E S w u hI hd => ?_
    refine post_mk hI hd ?_ trivial rfl rfl rfl <;> clear hI hd
    all_goals first | rfl | (simp_all)
  ·
    have h1' := of_decide_eq_false h1
    refine t_skip ?_
    refine t_seq ?_
    refine t_seq ?_
    refine t_region ?_
    refine r_op (o_fieldb rfl (off := 1) (by kernel_rfl) rfl) ?_
    refine r_op (o_load1b rfl (by kernel_rfl) rfl rfl rfl) ?_
    refine r_op (o_fieldb rfl (off := 1) (by kernel_rfl) rfl) ?_
    refine r_op (o_load1b rfl (by kernel_rfl) rfl rfl rfl) ?_
    refine r_op (o_bin rfl rfl rfl rfl) ?_
    refine r_end ?_
    refine t_cond rfl (fun h2 => ?_) (fun h2 => ?_)
    ·
      have h2' := of_decide_eq_true h2
      refine t_seq ?_
      refine t_region ?_
      refine r_op (o_assign rfl rfl) ?_
      refine r_end ?_
      refine t_ret Tryd.func38 (.tmp rfl .nil) rfl fun E S w u hI hd => ?_
      refine post_mk hI hd ?_ trivial rfl rfl rfl <;> clear hI hd
      all_goals first | rfl | (simp_all)
    ·
      have h2' := of_decide_eq_false h2
      refine t_skip ?_
      refine t_seq ?_
      refine t_seq ?_
      refine t_region ?_
      refine r_op (o_fieldb rfl (off := 2) (by kernel_rfl) rfl) ?_
      refine r_op (o_load1b rfl (by kernel_rfl) rfl rfl rfl) ?_
      refine r_op (o_fieldb rfl (off := 2) (by kernel_rfl) rfl) ?_
      refine r_op (o_load1b rfl (by kernel_rfl) rfl rfl rfl) ?_
      refine r_op (o_neB rfl Tryd.underlying4 rfl rfl) ?_
      refine r_end ?_
      refine t_cond rfl (fun h3 => ?_) (fun h3 => ?_)
      ·
        have h3' := h3
        refine t_seq ?_
        refine t_region ?_
        refine r_op (o_assign rfl rfl) ?_
        refine r_end ?_
        refine t_ret Tryd.func38 (.tmp rfl .nil) rfl fun E S w u hI hd => ?_
        refine post_mk hI hd ?_ trivial rfl rfl rfl <;> clear hI hd
        all_goals first | rfl | (simp_all)
      ·
        have h3' := h3
        refine t_skip ?_
        refine t_seq ?_
        refine t_region ?_
        refine r_op (o_assign rfl rfl) ?_
        refine r_end ?_
        refine t_ret Tryd.func38 (.tmp rfl .nil) rfl fun E S w u hI hd => ?_
        refine post_mk hI hd ?_ trivial rfl rfl rfl <;> clear hI hd
        all_goals first | rfl | (simp_all)
set_option maxHeartbeats 1000000 in
set_option maxRecDepth 10000 in
theorem c_laws_eqRelationS (a b : List (List UInt8 × Int × Bool)) (hs : szS (fun (x : List UInt8 × Int × Bool) => (x.1).length) a ≤ 1048576) : Pu Tryd.prog 14 [.c (.t none (.sl 3 (enS3 encS encI encB) (a))), .c (.t none (.sl 3 (enS3 encS encI encB) (b)))] [] 0 (.c (.t none (.v (.bool (decide (a = b)))))) := by
  refine pu_enter Tryd.func14 rfl (Nat.le_of_ble_eq_true rfl) fun w S => ?_
  have gl := sz_len (f := (fun (x : List UInt8 × Int × Bool) => (x.1).length)) (l := a)
  refine t_seq ?_
  refine t_region ?_
  refine r_op (o_assign rfl rfl) ?_
  refine r_end ?_
  refine t_seq ?_
  refine t_seq ?_
  refine t_region ?_
  refine r_op (o_move rfl rfl) ?_
  refine r_op (o_len rfl rfl rfl) ?_
  refine r_op (o_move rfl rfl) ?_
  refine r_op (o_len rfl rfl rfl) ?_
  refine r_op (o_bin rfl rfl rfl rfl) ?_
  refine r_end ?_
  refine t_cond rfl (fun h1 => ?_) (fun h1 => ?_)
  ·
    have h1' := of_decide_eq_true h1
    refine t_seq ?_
    refine t_region ?_
    refine r_op (o_assign rfl rfl) ?_
    refine r_end ?_
    refine t_ret Tryd.func14 (.tmp rfl .nil) rfl fun E S w u hI hd => ?_
    refine post_mk hI hd ?_ trivial rfl rfl rfl <;> clear hI hd <;> (try clear ih0)
    all_goals first | rfl | ((have : a ≠ b := by rintro rfl; simp at *); simp [this])
  ·
    have h1' := of_decide_eq_false h1
    refine t_skip ?_
    refine t_seq ?_
    refine t_seq ?_
    refine t_region ?_
    refine r_op (o_assign rfl rfl) ?_
    refine r_end ?_
    refine t_block ?_
    refine t_loopL (fun m => ⟨[(0, some (.c (.t none (.sl 3 (enS3 encS encI encB) (a))))), (1, some (.c (.t none (.sl 3 (enS3 encS encI encB) (b))))), (5, some (.c (.t none (.v (.int .i64 ((m : Int)))))))], [], 0⟩ : Nat → St) (fun m => m ≤ a.length ∧ a.length = b.length ∧ a.take m = b.take m) (fun m => a.length - m) 0 ⟨⟨rfl, ⟨rfl, ⟨rfl, trivial⟩⟩⟩, trivial, rfl⟩ (by exact ⟨Nat.zero_le _, by omega, rfl⟩) ?_
    rintro m hI ih0
    try dsimp only at hI ih0
    obtain ⟨i1, i2, i3⟩ := hI
    refine t_seq ?_
    refine t_seq ?_
    refine t_region ?_
    refine r_op (o_move rfl rfl) ?_
    refine r_op (o_move rfl rfl) ?_
    refine r_op (o_len rfl rfl rfl) ?_
    refine r_op (o_bin rfl rfl rfl rfl) ?_
    refine r_end ?_
    refine t_cond rfl (fun h2 => ?_) (fun h2 => ?_)
    ·
      have h2' := of_decide_eq_true h2
      refine t_skip ?_
      refine t_seq ?_
      refine t_block ?_
      refine t_seq ?_
      refine t_draw (fun _ => true) (by kernel_rfl) ?_
      refine d_take 0 rfl rfl (by kernel_rfl) (by kernel_rfl) (by kernel_rfl) (p_move rfl) ?_
      refine d_take 1 rfl rfl (by kernel_rfl) (by kernel_rfl) (by kernel_rfl) (p_move rfl) ?_
      obtain ⟨z3, hz4, b5⟩ := at_get (xs := a) (n := (m : Int)) (by first | omega | (have e1 := sz_at (f := (fun (x : List UInt8 × Int × Bool) => (x.1).length)) (l := a) (m := m) (by assumption); (try dsimp only at e1); omega)) (by first | omega | (have e1 := sz_at (f := (fun (x : List UInt8 × Int × Bool) => (x.1).length)) (l := a) (m := m) (by assumption); (try dsimp only at e1); omega))
      refine d_take 2 rfl rfl (by kernel_rfl) (by kernel_rfl) (by kernel_rfl) (p_index (by kernel_rfl) rfl rfl b5 hz4) ?_
      refine d_take 3 rfl rfl (by kernel_rfl) (by kernel_rfl) (by kernel_rfl) (p_loadA (n := 3) (by kernel_rfl) (by kernel_rfl) rfl rfl) ?_
      refine d_take 4 rfl rfl (by kernel_rfl) (by kernel_rfl) (by kernel_rfl) (p_move rfl) ?_
      refine d_take 5 rfl rfl (by kernel_rfl) (by kernel_rfl) (by kernel_rfl) (p_move rfl) ?_
      obtain ⟨z6, hz7, b8⟩ := at_get (xs := b) (n := (m : Int)) (by first | omega | (have e1 := sz_at (f := (fun (x : List UInt8 × Int × Bool) => (x.1).length)) (l := a) (m := m) (by assumption); (try dsimp only at e1); omega)) (by first | omega | (have e1 := sz_at (f := (fun (x : List UInt8 × Int × Bool) => (x.1).length)) (l := a) (m := m) (by assumption); (try dsimp only at e1); omega))
      refine d_take 6 rfl rfl (by kernel_rfl) (by kernel_rfl) (by kernel_rfl) (p_index (by kernel_rfl) rfl rfl b8 hz7) ?_
      refine d_take 7 rfl rfl (by kernel_rfl) (by kernel_rfl) (by kernel_rfl) (p_loadA (n := 3) (by kernel_rfl) (by kernel_rfl) rfl rfl) ?_
      refine d_only 8 rfl (by kernel_rfl) rfl (o_call 0 0 false (Go.Proofs.enters_of Tryd.func38 (by kernel_rfl) rfl) (c_laws_eqRelation (z3.1) (z3.2.1) (z3.2.2) (z6.1) (z6.2.1) (z6.2.2) (by first | omega | (have e1 := sz_at (f := (fun (x : List UInt8 × Int × Bool) => (x.1).length)) (l := a) (m := m) (by assumption); (try dsimp only at e1); omega))) rfl (.cons rfl (.agg (.cons .t0 (.cons .t0 (.cons .t0 .nil)))) (.cons rfl (.agg (.cons .t0 (.cons .t0 (.cons .t0 .nil)))) .nil)) rfl rfl rfl) ?_
      refine d_take 9 rfl rfl (by kernel_rfl) (by kernel_rfl) (by kernel_rfl) (p_not rfl) ?_
      refine d_end (by kernel_rfl) ?_
      refine t_cond rfl (fun h9 => ?_) (fun h9 => ?_)
      ·
        have h9' := of_decide_eq_false (bnt h9)
        refine t_seq ?_
        refine t_region ?_
        refine r_op (o_assign rfl rfl) ?_
        refine r_end ?_
        refine t_ret Tryd.func14 (.tmp rfl .nil) rfl fun E S w u hI hd => ?_
        refine post_mk hI hd ?_ trivial rfl rfl rfl <;> clear hI hd <;> (try clear ih0)
        all_goals first | rfl | (have := ne_at (a := a) (b := b) (by assumption) (by assumption) (by assumption); simp_all)
      ·
        have h9' := of_decide_eq_true (bnf h9)
        refine t_skip ?_
        refine t_endblock ?_
        refine t_region ?_
        refine r_op (o_move rfl rfl) ?_
        refine r_op (o_bin rfl rfl rfl rfl) ?_
        refine r_op (o_assign rfl rfl) ?_
        refine r_end ?_
        refine t_le ?_ (ih0 (m + 1) (by (try dsimp only); omega) (by (try dsimp only); exact ⟨by omega, i2, take_same i3 (same_at (by assumption) (by assumption) (by assumption))⟩))
        exact ⟨⟨rfl, ⟨rfl, ⟨(eqI (wrS (by omega))), trivial⟩⟩⟩, trivial, rfl⟩
    ·
      have h2' := of_decide_eq_false h2
      refine t_exit rfl ?_
      refine t_seq ?_
      refine t_region ?_
      refine r_op (o_assign rfl rfl) ?_
      refine r_end ?_
      refine t_ret Tryd.func14 (.tmp rfl .nil) rfl fun E S w u hI hd => ?_
      refine post_mk hI hd ?_ trivial rfl rfl rfl <;> clear hI hd <;> (try clear ih0)
      all_goals first | rfl | ((obtain rfl : m = a.length := by omega); rw [List.take_length, i2, List.take_length] at i3; simp [i3])
set_option maxHeartbeats 1000000 in
set_option maxRecDepth 10000 in
theorem c_laws_eqIntS (a b : List Int) (ha : a.length < 4611686018427387904) : Pu Tryd.prog 44 [.c (.t none (.sl 1 encI (a))), .c (.t none (.sl 1 encI (b)))] [] 0 (.c (.t none (.v (.bool (decide (a = b)))))) := by
  refine pu_enter Tryd.func44 rfl (Nat.le_of_ble_eq_true rfl) fun w S => ?_
  refine t_seq ?_
  refine t_region ?_
  refine r_op (o_assign rfl rfl) ?_
  refine r_end ?_
  refine t_seq ?_
  refine t_seq ?_
  refine t_region ?_
  refine r_op (o_move rfl rfl) ?_
  refine r_op (o_len rfl rfl rfl) ?_
  refine r_op (o_move rfl rfl) ?_
  refine r_op (o_len rfl rfl rfl) ?_
  refine r_op (o_bin rfl rfl rfl rfl) ?_
  refine r_end ?_
  refine t_cond rfl (fun h1 => ?_) (fun h1 => ?_)
  ·
    have h1' := of_decide_eq_true h1
    refine t_seq ?_
    refine t_region ?_
    refine r_op (o_assign rfl rfl) ?_
    refine r_end ?_
    refine t_ret Tryd.func44 (.tmp rfl .nil) rfl fun E S w u hI hd => ?_
    refine post_mk hI hd ?_ trivial rfl rfl rfl <;> clear hI hd <;> (try clear ih0)
    all_goals first | rfl | ((have : a ≠ b := by rintro rfl; simp at *); simp [this])
  ·
    have h1' := of_decide_eq_false h1
    refine t_skip ?_
    refine t_seq ?_
    refine t_seq ?_
    refine t_region ?_
    refine r_op (o_assign rfl rfl) ?_
    refine r_end ?_
    refine t_block ?_
    refine t_loopL (fun m => ⟨[(0, some (.c (.t none (.sl 1 encI (a))))), (1, some (.c (.t none (.sl 1 encI (b))))), (5, some (.c (.t none (.v (.int .i64 ((m : Int)))))))], [], 0⟩ : Nat → St) (fun m => m ≤ a.length ∧ a.length = b.length ∧ a.take m = b.take m) (fun m => a.length - m) 0 ⟨⟨rfl, ⟨rfl, ⟨rfl, trivial⟩⟩⟩, trivial, rfl⟩ (by exact ⟨Nat.zero_le _, by omega, rfl⟩) ?_
    rintro m hI ih0
    try dsimp only at hI ih0
    obtain ⟨i1, i2, i3⟩ := hI
    refine t_seq ?_
    refine t_seq ?_
    refine t_region ?_
    refine r_op (o_move rfl rfl) ?_
    refine r_op (o_move rfl rfl) ?_
    refine r_op (o_len rfl rfl rfl) ?_
    refine r_op (o_bin rfl rfl rfl rfl) ?_
    refine r_end ?_
    refine t_cond rfl (fun h2 => ?_) (fun h2 => ?_)
    ·
      have h2' := of_decide_eq_true h2
      refine t_skip ?_
      refine t_seq ?_
      refine t_block ?_
      refine t_seq ?_
      refine t_draw (fun _ => true) (by kernel_rfl) ?_
      refine d_take 0 rfl rfl (by kernel_rfl) (by kernel_rfl) (by kernel_rfl) (p_move rfl) ?_
      refine d_take 1 rfl rfl (by kernel_rfl) (by kernel_rfl) (by kernel_rfl) (p_move rfl) ?_
      obtain ⟨z3, hz4, b5⟩ := at_get (xs := a) (n := (m : Int)) (by first | omega | (simp; omega)) (by first | omega | (simp; omega))
      refine d_take 2 rfl rfl (by kernel_rfl) (by kernel_rfl) (by kernel_rfl) (p_index (by kernel_rfl) rfl rfl b5 hz4) ?_
      refine d_take 3 rfl rfl (by kernel_rfl) (by kernel_rfl) (by kernel_rfl) (p_load1 (by kernel_rfl) rfl rfl) ?_
      refine d_take 4 rfl rfl (by kernel_rfl) (by kernel_rfl) (by kernel_rfl) (p_move rfl) ?_
      refine d_take 5 rfl rfl (by kernel_rfl) (by kernel_rfl) (by kernel_rfl) (p_move rfl) ?_
      obtain ⟨z6, hz7, b8⟩ := at_get (xs := b) (n := (m : Int)) (by first | omega | (simp; omega)) (by first | omega | (simp; omega))
      refine d_take 6 rfl rfl (by kernel_rfl) (by kernel_rfl) (by kernel_rfl) (p_index (by kernel_rfl) rfl rfl b8 hz7) ?_
      refine d_take 7 rfl rfl (by kernel_rfl) (by kernel_rfl) (by kernel_rfl) (p_load1 (by kernel_rfl) rfl rfl) ?_
      refine d_take 8 rfl rfl (by kernel_rfl) (by kernel_rfl) (by kernel_rfl) (p_bin rfl rfl rfl) ?_
      refine d_end (by kernel_rfl) ?_
      refine t_cond rfl (fun h9 => ?_) (fun h9 => ?_)
      ·
        have h9' := of_decide_eq_true h9
        refine t_seq ?_
        refine t_region ?_
        refine r_op (o_assign rfl rfl) ?_
        refine r_end ?_
        refine t_ret Tryd.func44 (.tmp rfl .nil) rfl fun E S w u hI hd => ?_
        refine post_mk hI hd ?_ trivial rfl rfl rfl <;> clear hI hd <;> (try clear ih0)
        all_goals first | rfl | (have := ne_at (a := a) (b := b) (by assumption) (by assumption) (by assumption); simp_all)
      ·
        have h9' := of_decide_eq_false h9
        refine t_skip ?_
        refine t_endblock ?_
        refine t_region ?_
        refine r_op (o_move rfl rfl) ?_
        refine r_op (o_bin rfl rfl rfl rfl) ?_
        refine r_op (o_assign rfl rfl) ?_
        refine r_end ?_
        refine t_le ?_ (ih0 (m + 1) (by (try dsimp only); omega) (by (try dsimp only); refine ⟨by omega, i2, take_same i3 ?_⟩; simp_all))
        exact ⟨⟨rfl, ⟨rfl, ⟨(eqI (wrS (by omega))), trivial⟩⟩⟩, trivial, rfl⟩
    ·
      have h2' := of_decide_eq_false h2
      refine t_exit rfl ?_
      refine t_seq ?_
      refine t_region ?_
      refine r_op (o_assign rfl rfl) ?_
      refine r_end ?_
      refine t_ret Tryd.func44 (.tmp rfl .nil) rfl fun E S w u hI hd => ?_
      refine post_mk hI hd ?_ trivial rfl rfl rfl <;> clear hI hd <;> (try clear ih0)
      all_goals first | rfl | ((obtain rfl : m = a.length := by omega); rw [List.take_length, i2, List.take_length] at i3; simp [i3])
set_option maxHeartbeats 1000000 in
set_option maxRecDepth 10000 in
theorem c_laws_eqAtom (a0 : Int) (a1 : List (Int)) (b0 : Int) (b1 : List (Int)) (hs : (a1).length ≤ 1048576) : Pu Tryd.prog 24 [.agg [.t none (.v (.int .i64 (a0))), .t none (.sl 1 encI (a1))], .agg [.t none (.v (.int .i64 (b0))), .t none (.sl 1 encI (b1))]] [] 0 (.c (.t none (.v (.bool (decide ((a0, a1) = (b0, b1))))))) := by
  refine pu_enter Tryd.func24 rfl (Nat.le_of_ble_eq_true rfl) fun w S => ?_
  refine t_seq ?_
  refine t_region ?_
  refine r_op (o_box 0 rfl rfl rfl rfl) ?_
  refine r_op (o_box 1 rfl rfl rfl rfl) ?_
  refine r_op (o_assign rfl rfl) ?_
  refine r_end ?_
  refine t_seq ?_
  refine t_seq ?_
  refine t_region ?_
  refine r_op (o_fieldb rfl (off := 0) (by kernel_rfl) rfl) ?_
  refine r_op (o_load1b rfl (by kernel_rfl) rfl rfl rfl) ?_
  refine r_op (o_fieldb rfl (off := 0) (by kernel_rfl) rfl) ?_
  refine r_op (o_load1b rfl (by kernel_rfl) rfl rfl rfl) ?_
  refine r_op (o_bin rfl rfl rfl rfl) ?_
  refine r_end ?_
  refine t_cond rfl (fun h1 => ?_) (fun h1 => ?_)
  ·
    have h1' := of_decide_eq_true h1
    refine t_seq ?_
    refine t_region ?_
    refine r_op (o_assign rfl rfl) ?_
    refine r_end ?_
    refine t_ret Tryd.func24 (.tmp rfl .nil) rfl fun E S w u hI hd => ?_
    refine post_mk hI hd ?_ trivial rfl rfl rfl <;> clear hI hd
    all_goals first | rfl | (simp_all)
  ·
    have h1' := of_decide_eq_false h1
    refine t_skip ?_
    refine t_seq ?_
    refine t_seq ?_
    refine t_region ?_
    refine r_op (o_fieldb rfl (off := 1) (by kernel_rfl) rfl) ?_
    refine r_op (o_load1b rfl (by kernel_rfl) rfl rfl rfl) ?_
    refine r_op (o_fieldb rfl (off := 1) (by kernel_rfl) rfl) ?_
    refine r_op (o_load1b rfl (by kernel_rfl) rfl rfl rfl) ?_
    refine r_op (o_call 2 2 false (Go.Proofs.enters_of Tryd.func44 (by kernel_rfl) rfl) (c_laws_eqIntS (a1) (b1) (by first | omega | (simp; omega))) rfl (.cons rfl (.c .t0) (.cons rfl (.c .t0) .nil)) rfl rfl rfl) ?_
    refine r_op (o_not rfl rfl) ?_
    refine r_end ?_
    refine t_cond rfl (fun h2 => ?_) (fun h2 => ?_)
    ·
      have h2' := of_decide_eq_false (bnt h2)
      refine t_seq ?_
      refine t_region ?_
      refine r_op (o_assign rfl rfl) ?_
      refine r_end ?_
      refine t_ret Tryd.func24 (.tmp rfl .nil) rfl fun E S w u hI hd => ?_
      refine post_mk hI hd ?_ trivial rfl rfl rfl <;> clear hI hd
      all_goals first | rfl | (simp_all)
    ·
      have h2' := of_decide_eq_true (bnf h2)
      refine t_skip ?_
      refine t_seq ?_
      refine t_region ?_
      refine r_op (o_assign rfl rfl) ?_
      refine r_end ?_
      refine t_ret Tryd.func24 (.tmp rfl .nil) rfl fun E S w u hI hd => ?_
      refine post_mk hI hd ?_ trivial rfl rfl rfl <;> clear hI hd
      all_goals first | rfl | (simp_all)
set_option maxHeartbeats 1000000 in
set_option maxRecDepth 10000 in
theorem c_laws_FnExactFormatAtom (rs : List (List UInt8 × Int × Bool)) (r : Int) (ts : List Int) (hrs : (okL (fun (x : List UInt8 × Int × Bool) => okS (x.1) ∧ okI (x.2.1) ∧ okB (x.2.2))) rs) (hts : okL okI ts) : Pu Tryd.prog 6 [.c (.t none (.sl 3 (enS3 encS encI encB) (rs))), .agg [.t none (.v (.int .i64 (r))), .t none (.sl 1 encI (ts))]] [] 0 (.c (.t none (.v (.bool (true))))) := by
  refine pu_enter Tryd.func6 rfl (Nat.le_of_ble_eq_true rfl) fun w S => ?_
  have g1 := hrs.1; have g2 := hts.1; have ho := hts.2
  refine t_seq ?_
  refine t_region ?_
  refine r_op (o_box 0 rfl rfl rfl rfl) ?_
  refine r_op (o_assign rfl rfl) ?_
  refine r_end ?_
  refine t_seq ?_
  refine t_region ?_
  refine r_op (o_assign rfl rfl) ?_
  refine r_end ?_
  refine t_seq ?_
  refine t_region ?_
  refine r_op (o_move rfl rfl) ?_
  refine r_op (o_move rfl rfl) ?_
  refine r_op (o_call 1 1 false (Go.Proofs.enters_of Tryd.func10 (by kernel_rfl) rfl) (c_laws_szRelationS (rs) (1048576) (by first | omega | assumption | (have e := sz_len (f := (fun (x : List UInt8 × Int × Bool) => (x.1).length)) (l := rs); omega) | (simp; omega)) (by first | omega | assumption | (have e := sz_len (f := (fun (x : List UInt8 × Int × Bool) => (x.1).length)) (l := rs); omega) | (simp; omega)) (by first | omega | assumption | (have e := sz_len (f := (fun (x : List UInt8 × Int × Bool) => (x.1).length)) (l := rs); omega) | (simp; omega))) rfl (.cons rfl (.c .t0) (.cons rfl (.c .t0) .nil)) rfl rfl rfl) ?_
  refine r_op (o_assign rfl rfl) ?_
  refine r_end ?_
  refine t_seq ?_
  refine t_seq ?_
  refine t_region ?_
  refine r_op (o_move rfl rfl) ?_
  refine r_op (o_bin rfl rfl rfl rfl) ?_
  refine r_end ?_
  refine t_cond rfl (fun h1 => ?_) (fun h1 => ?_)
  ·
    have h1' := of_decide_eq_true h1
    refine t_seq ?_
    refine t_region ?_
    refine r_op (o_assign rfl rfl) ?_
    refine r_end ?_
    refine t_ret Tryd.func6 (.tmp rfl .nil) rfl fun E S w u hI hd => ?_
    refine post_mk hI hd ?_ trivial rfl rfl rfl <;> clear hI hd
    all_goals first | rfl | (exfalso; simp at *; done)
  ·
    have h1' := of_decide_eq_false h1
    refine t_skip ?_
    refine t_seq ?_
    refine t_region ?_
    refine r_op (o_loadAb rfl (n := 2) (by kernel_rfl) (by kernel_rfl) rfl rfl rfl) ?_
    refine r_op (o_move rfl rfl) ?_
    refine r_op (o_call 1 1 false (Go.Proofs.enters_of Tryd.func20 (by kernel_rfl) rfl) (c_laws_szAtom (r) (ts) (if (1048576) - ((szS (fun (x : List UInt8 × Int × Bool) => (x.1).length) (rs) : Nat) : Int) < 0 then -1 else (1048576) - ((szS (fun (x : List UInt8 × Int × Bool) => (x.1).length) (rs) : Nat) : Int)) (by first | omega | assumption | (have e := sz_len (f := (fun (x : List UInt8 × Int × Bool) => (x.1).length)) (l := rs); omega) | (simp; omega)) (by first | omega | assumption | (have e := sz_len (f := (fun (x : List UInt8 × Int × Bool) => (x.1).length)) (l := rs); omega) | (simp; omega)) (by first | omega | assumption | (have e := sz_len (f := (fun (x : List UInt8 × Int × Bool) => (x.1).length)) (l := rs); omega) | (simp; omega))) rfl (.cons rfl (.agg (.cons .t0 (.cons .t0 .nil))) (.cons rfl (.c .t0) .nil)) rfl rfl rfl) ?_
    refine r_op (o_assign rfl rfl) ?_
    refine r_end ?_
    refine t_seq ?_
    refine t_seq ?_
    refine t_region ?_
    refine r_op (o_move rfl rfl) ?_
    refine r_op (o_bin rfl rfl rfl rfl) ?_
    refine r_end ?_
    refine t_cond rfl (fun h2 => ?_) (fun h2 => ?_)
    ·
      have h2' := of_decide_eq_true h2
      refine t_seq ?_
      refine t_region ?_
      refine r_op (o_assign rfl rfl) ?_
      refine r_end ?_
      refine t_ret Tryd.func6 (.tmp rfl .nil) rfl fun E S w u hI hd => ?_
      refine post_mk hI hd ?_ trivial rfl rfl rfl <;> clear hI hd
      all_goals first | rfl | (exfalso; simp at *; done)
    ·
      have h2' := of_decide_eq_false h2
      refine t_skip ?_
      refine t_seq ?_
      refine t_draw (fun _ => true) (by kernel_rfl) ?_
      refine d_take 0 rfl rfl (by kernel_rfl) (by kernel_rfl) (by kernel_rfl) (p_move rfl) ?_
      refine d_take 2 rfl rfl (by kernel_rfl) (by kernel_rfl) (by kernel_rfl) (p_loadAb (n := 2) (by kernel_rfl) (by kernel_rfl) rfl rfl rfl) ?_
      refine d_only 1 rfl (by kernel_rfl) rfl (o_call 1 2 false (Go.Proofs.enters_of Tryd.func12 (by kernel_rfl) rfl) (c_laws_toRelationS (rs) (by first | omega | assumption | (have e := sz_len (f := (fun (x : List UInt8 × Int × Bool) => (x.1).length)) (l := rs); omega) | (simp; omega))) rfl (.cons rfl (.c .t0) .nil) rfl rfl rfl) ?_
      refine d_only 3 rfl (by kernel_rfl) rfl (o_call 2 6 false (Go.Proofs.enters_of Tryd.func22 (by kernel_rfl) rfl) (c_laws_toAtom (r) (ts) (by first | omega | assumption | (have e := sz_len (f := (fun (x : List UInt8 × Int × Bool) => (x.1).length)) (l := rs); omega) | (simp; omega))) rfl (.cons rfl (.agg (.cons .t0 (.cons .t0 .nil))) .nil) rfl rfl rfl) ?_
      refine d_only 4 rfl (by kernel_rfl) rfl (o_call 6 6 false (Go.Proofs.enters_of Tryd.func21 (by kernel_rfl) rfl) (c_spec_FormatAtom ((rs)) ((r)) ((ts)) (by first | omega | assumption | (have e := sz_len (f := (fun (x : List UInt8 × Int × Bool) => (x.1).length)) (l := rs); omega) | (simp; omega)) (by first | omega | assumption | (have e := sz_len (f := (fun (x : List UInt8 × Int × Bool) => (x.1).length)) (l := rs); omega) | (simp; omega)) (by first | omega | assumption | (have e := sz_len (f := (fun (x : List UInt8 × Int × Bool) => (x.1).length)) (l := rs); omega) | (simp; omega))) rfl (.cons rfl (.c (.own rfl)) (.cons rfl (.agg (.cons .t0 (.cons (.own rfl) .nil))) .nil)) rfl rfl rfl) ?_
      refine d_take 5 rfl rfl (by kernel_rfl) (by kernel_rfl) (by kernel_rfl) (p_assign rfl) ?_
      refine d_end (by kernel_rfl) ?_
      refine t_seq ?_
      refine t_region ?_
      refine r_op (o_move rfl rfl) ?_
      refine r_op (o_call 6 7 false (Go.Proofs.enters_of Tryd.func12 (by kernel_rfl) rfl) (c_laws_toRelationS (rs) (by first | omega | assumption | (have e := sz_len (f := (fun (x : List UInt8 × Int × Bool) => (x.1).length)) (l := rs); omega) | (simp; omega))) rfl (.cons rfl (.c .t0) .nil) rfl rfl rfl) ?_
      refine r_op (o_assign rfl rfl) ?_
      refine r_end ?_
      refine t_seq ?_
      refine t_region ?_
      refine r_op (o_loadAb rfl (n := 2) (by kernel_rfl) (by kernel_rfl) rfl rfl rfl) ?_
      refine r_op (o_call 7 11 false (Go.Proofs.enters_of Tryd.func22 (by kernel_rfl) rfl) (c_laws_toAtom (r) (ts) (by first | omega | assumption | (have e := sz_len (f := (fun (x : List UInt8 × Int × Bool) => (x.1).length)) (l := rs); omega) | (simp; omega))) rfl (.cons rfl (.agg (.cons .t0 (.cons .t0 .nil))) .nil) rfl rfl rfl) ?_
      refine r_op (o_alloc 11 (zs := [.int .i64 (0), .slice none 0 0]) rfl rfl (by kernel_rfl) rfl) ?_
      refine r_op (o_storeb (n := 2) (by kernel_rfl) rfl rfl rfl rfl rfl rfl) ?_
      refine r_end ?_
      refine t_seq ?_
      refine t_region ?_
      refine r_op (o_move rfl rfl) ?_
      refine r_op (o_loadAb rfl (n := 2) (by kernel_rfl) (by kernel_rfl) rfl rfl rfl) ?_
      refine r_op (o_call 12 12 false (Go.Proofs.enters_of Tryd.func23 (by kernel_rfl) rfl) (c_impl_FormatAtom ((rs)) ((r)) ((ts)) (by first | omega | assumption | (have e := sz_len (f := (fun (x : List UInt8 × Int × Bool) => (x.1).length)) (l := rs); omega) | (simp; omega)) (by first | omega | assumption | (have e := sz_len (f := (fun (x : List UInt8 × Int × Bool) => (x.1).length)) (l := rs); omega) | (simp; omega)) (by first | omega | assumption | (have e := sz_len (f := (fun (x : List UInt8 × Int × Bool) => (x.1).length)) (l := rs); omega) | (simp; omega))) rfl (.cons rfl (.c (.own rfl)) (.cons rfl (.agg (.cons .t0 (.cons (.own rfl) .nil))) .nil)) rfl rfl rfl) ?_
      refine r_op (o_assign rfl rfl) ?_
      refine r_end ?_
      refine t_seq ?_
      refine t_seq ?_
      refine t_region ?_
      refine r_op (o_move rfl rfl) ?_
      refine r_op (o_move rfl rfl) ?_
      refine r_op (o_str rfl rfl rfl rfl) ?_
      refine r_end ?_
      refine t_cond rfl (fun h3 => ?_) (fun h3 => ?_)
      ·
        have h3' := of_decide_eq_true h3
        refine t_seq ?_
        refine t_region ?_
        refine r_op (o_assign rfl rfl) ?_
        refine r_end ?_
        refine t_ret Tryd.func6 (.tmp rfl .nil) rfl fun E S w u hI hd => ?_
        refine post_mk hI hd ?_ trivial rfl rfl rfl <;> clear hI hd
        all_goals first | rfl | (exfalso; simp at *; done)
      ·
        have h3' := of_decide_eq_false h3
        refine t_skip ?_
        refine t_seq ?_
        refine t_seq ?_
        refine t_region ?_
        refine r_op (o_move rfl rfl) ?_
        refine r_op (o_move rfl rfl) ?_
        refine r_op (o_call 12 13 false (Go.Proofs.enters_of Tryd.func12 (by kernel_rfl) rfl) (c_laws_toRelationS (rs) (by first | omega | assumption | (have e := sz_len (f := (fun (x : List UInt8 × Int × Bool) => (x.1).length)) (l := rs); omega) | (simp; omega))) rfl (.cons rfl (.c .t0) .nil) rfl rfl rfl) ?_
        refine r_op (o_call 13 13 false (Go.Proofs.enters_of Tryd.func14 (by kernel_rfl) rfl) (c_laws_eqRelationS ((rs)) ((rs)) (by first | omega | assumption | (have e := sz_len (f := (fun (x : List UInt8 × Int × Bool) => (x.1).length)) (l := rs); omega) | (simp; omega))) rfl (.cons rfl (.c (.own rfl)) (.cons rfl (.c (.own rfl)) .nil)) rfl rfl rfl) ?_
        refine r_op (o_not rfl rfl) ?_
        refine r_end ?_
        refine t_cond rfl (fun h4 => ?_) (fun h4 => ?_)
        ·
          have h4' := of_decide_eq_false (bnt h4)
          refine t_seq ?_
          refine t_region ?_
          refine r_op (o_assign rfl rfl) ?_
          refine r_end ?_
          refine t_ret Tryd.func6 (.tmp rfl .nil) rfl fun E S w u hI hd => ?_
          refine post_mk hI hd ?_ trivial rfl rfl rfl <;> clear hI hd
          all_goals first | rfl | (exfalso; simp at *; done)
        ·
          have h4' := of_decide_eq_true (bnf h4)
          refine t_skip ?_
          refine t_seq ?_
          refine t_seq ?_
          refine t_draw (fun _ => true) (by kernel_rfl) ?_
          refine d_take 0 rfl rfl (by kernel_rfl) (by kernel_rfl) (by kernel_rfl) (p_loadAb (n := 2) (by kernel_rfl) (by kernel_rfl) rfl rfl rfl) ?_
          refine d_take 1 rfl rfl (by kernel_rfl) (by kernel_rfl) (by kernel_rfl) (p_loadAb (n := 2) (by kernel_rfl) (by kernel_rfl) rfl rfl rfl) ?_
          refine d_only 2 rfl (by kernel_rfl) rfl (o_call 13 17 false (Go.Proofs.enters_of Tryd.func22 (by kernel_rfl) rfl) (c_laws_toAtom (r) (ts) (by first | omega | assumption | (have e := sz_len (f := (fun (x : List UInt8 × Int × Bool) => (x.1).length)) (l := rs); omega) | (simp; omega))) rfl (.cons rfl (.agg (.cons .t0 (.cons .t0 .nil))) .nil) rfl rfl rfl) ?_
          refine d_only 3 rfl (by kernel_rfl) rfl (o_call 17 17 false (Go.Proofs.enters_of Tryd.func24 (by kernel_rfl) rfl) (c_laws_eqAtom ((r)) ((ts)) ((r)) ((ts)) (by first | omega | assumption | (have e := sz_len (f := (fun (x : List UInt8 × Int × Bool) => (x.1).length)) (l := rs); omega) | (simp; omega))) rfl (.cons rfl (.agg (.cons .t0 (.cons (.own rfl) .nil))) (.cons rfl (.agg (.cons .t0 (.cons (.own rfl) .nil))) .nil)) rfl rfl rfl) ?_
          refine d_take 4 rfl rfl (by kernel_rfl) (by kernel_rfl) (by kernel_rfl) (p_not rfl) ?_
          refine d_end (by kernel_rfl) ?_
          refine t_cond rfl (fun h5 => ?_) (fun h5 => ?_)
          ·
            have h5' := of_decide_eq_false (bnt h5)
            refine t_seq ?_
            refine t_region ?_
            refine r_op (o_assign rfl rfl) ?_
            refine r_end ?_
            refine t_ret Tryd.func6 (.tmp rfl .nil) rfl fun E S w u hI hd => ?_
            refine post_mk hI hd ?_ trivial rfl rfl rfl <;> clear hI hd
            all_goals first | rfl | (exfalso; simp at *; done)
          ·
            have h5' := of_decide_eq_true (bnf h5)
            refine t_skip ?_
            refine t_seq ?_
            refine t_region ?_
            refine r_op (o_assign rfl rfl) ?_
            refine r_end ?_
            refine t_ret Tryd.func6 (.tmp rfl .nil) rfl fun E S w u hI hd => ?_
            refine post_mk hI hd ?_ trivial rfl rfl rfl <;> clear hI hd
            all_goals first | rfl | (exfalso; simp at *; done)
end Go.Eng
