/- What the functions that FnExactParseDependencies reaches answer. -/
import Derived.Test.YtkondeglfdachaaGreatDoorEngZI
import Derived.Test.YtkondeglfdachaaGreatDoorChecked
set_option linter.unusedVariables false
set_option linter.unusedSimpArgs false
namespace Go.Eng
open Go Go.RowKit Go.Proofs
set_option maxHeartbeats 1000000 in
set_option maxRecDepth 10000 in
theorem c_laws_szRelation (a0 : List UInt8) (a1 : Int) (a2 : Bool) (k : Int) (hk : 0 ≤ k) (hk2 : k ≤ 1048600) (h0 : okS a0) : Pu Tryz.prog 19 [.agg [.t none (.v (.string (mkS (a0)))), .t none (.v (.int .i64 (a1))), .t none (.v (.bool (a2)))], .c (.t none (.v (.int .i64 (k))))] [] 0 (.c (.t none (.v (.int .i64 (if k - (((a0).length : Nat) : Int) < 0 then -1 else k - (((a0).length : Nat) : Int)))))) := by
 refine pu_enter Tryz.func19 rfl (Nat.le_of_ble_eq_true rfl) fun w S => ?_
 have g_a0 : (a0).length ≤ 9223372036854775807 := h0
 refine tsr ?_
 refine r_op (o_box 0 rfl rfl rfl rfl) ?_
 refine r_op oA ?_
 refine etr ?_
 refine r_op oM ?_
 refine r_op (oF 0) ?_
 refine r_op oL ?_
 refine r_op (o_lenS rfl Tryz.underlying9 rfl) ?_
 refine r_op oB ?_
 refine r_op oA ?_
 refine r_end ?_
 refine t_seq ?_
 refine tsr ?_
 refine r_op oM ?_
 refine r_op oB ?_
 refine r_end ?_
 refine t_cond rfl (fun h1 => ?_) (fun h1 => ?_)
 ·
  have h1' := of_decide_eq_true h1
  refine tsr ?_
  refine r_op oA ?_
  refine r_end ?_
  refine t_ret Tryz.func19 (.tmp rfl .nil) rfl fun E S w u hI hd => ?_
  refine post_mk hI hd ?_ trivial rfl rfl rfl <;> clear hI hd
  all_goals (refine scI ?_; (try simp only [IntKind.wrap_i64] at *); omega)
 ·
  have h1' := of_decide_eq_false h1
  refine t_skip ?_
  refine tsr ?_
  refine r_op oM ?_
  refine r_op oA ?_
  refine r_end ?_
  refine t_ret Tryz.func19 (.tmp rfl .nil) rfl fun E S w u hI hd => ?_
  refine post_mk hI hd ?_ trivial rfl rfl rfl <;> clear hI hd
  all_goals (refine scI ?_; (try simp only [IntKind.wrap_i64] at *); omega)
set_option maxHeartbeats 1000000 in
set_option maxRecDepth 10000 in
theorem c_laws_szRelationS (l : List (List UInt8 × Int × Bool)) (k : Int) (hk : 0 ≤ k) (hk2 : k ≤ 1048600) (hl : (okL (fun (x : List UInt8 × Int × Bool) => okS (x.1) ∧ okI (x.2.1) ∧ okB (x.2.2))) l) : Pu Tryz.prog 5 [.c (.t none (.sl 3 (enS3 encS encI encB) (l))), .c (.t none (.v (.int .i64 (k))))] [] 0 (.c (.t none (.v (.int .i64 (if k - ((szS (fun (x : List UInt8 × Int × Bool) => (x.1).length) l : Nat) : Int) < 0 then -1 else k - ((szS (fun (x : List UInt8 × Int × Bool) => (x.1).length) l : Nat) : Int)))))) := by
 refine pu_enter Tryz.func5 rfl (Nat.le_of_ble_eq_true rfl) fun w S => ?_
 have gl := hl.1
 refine tsr ?_
 refine r_op oA ?_
 refine etr ?_
 refine r_op oM ?_
 refine r_op oM ?_
 refine r_op (o_len rfl rfl rfl) ?_
 refine r_op oB ?_
 refine r_op oA ?_
 refine r_end ?_
 refine t_seq ?_
 refine tsr ?_
 refine r_op oM ?_
 refine r_op oB ?_
 refine r_end ?_
 refine t_cond rfl (fun h1 => ?_) (fun h1 => ?_)
 ·
  have h1' := of_decide_eq_true h1
  refine tsr ?_
  refine r_op oA ?_
  refine r_end ?_
  refine t_ret Tryz.func5 (.tmp rfl .nil) rfl fun E S w u hI hd => ?_
  refine post_mk hI hd ?_ trivial rfl rfl rfl <;> clear hI hd <;> (try clear ih0)
  all_goals (refine scI ?_; (simp only [IntKind.wrap_i64] at *); have e1 := sz_len (f := (fun (x : List UInt8 × Int × Bool) => (x.1).length)) (l := l); omega)
 ·
  have h1' := of_decide_eq_false h1
  refine t_skip ?_
  refine t_seq ?_
  refine tsr ?_
  refine r_op oA ?_
  refine r_end ?_
  refine t_block ?_
  refine t_loopL (fun m => ⟨[(0, some (.c (.t none (.sl 3 (enS3 encS encI encB) (l))))), (1, some (.c (.t none (.v (.int .i64 (k - l.length - ((szT (fun (x : List UInt8 × Int × Bool) => (x.1).length) l m : Nat) : Int))))))), (5, some (.c (.t none (.v (.int .i64 ((m : Int)))))))], [], 0⟩ : Nat → St) (fun m => m ≤ l.length ∧ 0 ≤ k - l.length - ((szT (fun (x : List UInt8 × Int × Bool) => (x.1).length) l m : Nat) : Int)) (fun m => l.length - m) 0 ⟨⟨rfl, ⟨(eqI (by rw [wr64 (by omega) (by omega)]; simp [szT_zero])), ⟨rfl, trivial⟩⟩⟩, trivial, rfl⟩ (by exact ⟨Nat.zero_le _, by (simp only [IntKind.wrap_i64] at *); simp only [szT_zero]; omega⟩) ?_
  rintro m hI ih0
  try dsimp only at hI ih0
  obtain ⟨i1, i2⟩ := hI
  refine t_seq ?_
  refine tsr ?_
  refine r_op oM ?_
  refine r_op oM ?_
  refine r_op (o_len rfl rfl rfl) ?_
  refine r_op oB ?_
  refine r_end ?_
  refine t_cond rfl (fun h2 => ?_) (fun h2 => ?_)
  ·
   have h2' := of_decide_eq_true h2
   refine t_skip ?_
   refine t_seq ?_
   refine t_block ?_
   refine tsr ?_
   refine r_op oM ?_
   refine r_op oM ?_
   obtain ⟨z3, hz4, b5⟩ := at_get (xs := l) (n := (m : Int)) (by omega) (by omega)
   refine r_op (o_index rfl (by kernel_rfl) rfl rfl b5 hz4) ?_
   refine r_op (o_loadA rfl (n := 3) (by kernel_rfl) (by kernel_rfl) rfl rfl) ?_
   refine r_op oM ?_
   refine r_op (o_call 0 0 false (Go.Proofs.enters_of Tryz.func19 (by kernel_rfl) rfl) (c_laws_szRelation (z3.1) (z3.2.1) (z3.2.2) (k - l.length - ((szT (fun (x : List UInt8 × Int × Bool) => (x.1).length) l m : Nat) : Int)) (by omega) (by omega) (by (have ok := ok_at hl (by assumption); (exact ok.1)))) rfl (.cons rfl (.agg (.cons .t0 (.cons .t0 (.cons .t0 .nil)))) (.cons rfl (.c .t0) .nil)) rfl rfl rfl) ?_
   refine r_op oA ?_
   refine etr ?_
   refine r_op oM ?_
   refine r_op oB ?_
   refine r_end ?_
   refine t_cond rfl (fun h6 => ?_) (fun h6 => ?_)
   ·
    have h6' := of_decide_eq_true h6
    refine tsr ?_
    refine r_op oA ?_
    refine r_end ?_
    refine t_ret Tryz.func5 (.tmp rfl .nil) rfl fun E S w u hI hd => ?_
    refine post_mk hI hd ?_ trivial rfl rfl rfl <;> clear hI hd <;> (try clear ih0)
    all_goals (refine scI ?_; have e1 := szT_step (f := (fun (x : List UInt8 × Int × Bool) => (x.1).length)) (l := l) (m := m) (by assumption); (try dsimp only at e1); have e2 := szT_le (f := (fun (x : List UInt8 × Int × Bool) => (x.1).length)) (l := l) (m + 1); omega)
   ·
    have h6' := of_decide_eq_false h6
    refine t_skip ?_
    refine t_endblock ?_
    refine t_region ?_
    refine r_op oM ?_
    refine r_op oB ?_
    refine r_op oA ?_
    refine r_end ?_
    have e1 := szT_step (f := (fun (x : List UInt8 × Int × Bool) => (x.1).length)) (l := l) (m := m) (by assumption); try dsimp only at e1
    refine t_le ?_ (ih0 (m + 1) (by (try dsimp only); omega) (by (try dsimp only); constructor <;> omega))
    exact ⟨⟨rfl, ⟨(eqI (by omega)), ⟨(eqI (wrS (by omega))), trivial⟩⟩⟩, trivial, rfl⟩
  ·
   have h2' := of_decide_eq_false h2
   refine t_exit rfl ?_
   refine tsr ?_
   refine r_op oM ?_
   refine r_op oA ?_
   refine r_end ?_
   refine t_ret Tryz.func5 (.tmp rfl .nil) rfl fun E S w u hI hd => ?_
   refine post_mk hI hd ?_ trivial rfl rfl rfl <;> clear hI hd <;> (try clear ih0)
   all_goals (refine scI ?_; have e1 := szT_all (f := (fun (x : List UInt8 × Int × Bool) => (x.1).length)) (l := l) (m := m) (by omega); omega)
set_option maxHeartbeats 1000000 in
set_option maxRecDepth 10000 in
theorem c_laws_toRelation (a0 : List UInt8) (a1 : Int) (a2 : Bool) (hs : (a0).length ≤ 1048600) : Pu Tryz.prog 24 [.agg [.t none (.v (.string (mkS (a0)))), .t none (.v (.int .i64 (a1))), .t none (.v (.bool (a2)))]] [] 3 (.agg [.t none (.v (.string (mkS (a0)))), .t none (.v (.int .i64 (a1))), .t none (.v (.bool (a2)))]) := by
 refine pu_enter Tryz.func24 rfl (Nat.le_of_ble_eq_true rfl) fun w S => ?_
 refine tsr ?_
 refine r_op (o_box 0 rfl rfl rfl rfl) ?_
 refine r_op (o_alloc 1 (zs := [.string (mkS ([])), .int .i64 (0), .bool (false)]) rfl rfl (by kernel_rfl) rfl) ?_
 refine etr ?_
 refine r_op (o_alloc 2 (zs := [.string (mkS ([])), .int .i64 (0), .bool (false)]) rfl rfl (by kernel_rfl) rfl) ?_
 refine etr ?_
 refine r_op (oF 0) ?_
 refine r_op oL ?_
 refine r_op (oF 0) ?_
 refine r_op (oS 1) ?_
 refine etr ?_
 refine r_op (oF 1) ?_
 refine r_op oL ?_
 refine r_op (oF 1) ?_
 refine r_op (oS 1) ?_
 refine etr ?_
 refine r_op (oF 2) ?_
 refine r_op oL ?_
 refine r_op (oF 2) ?_
 refine r_op (oS 1) ?_
 refine etr ?_
 refine r_op (oC 3) ?_
 refine r_op (oS 3) ?_
 refine r_end ?_
 refine t_ret Tryz.func24 (.cells (n := 3) (by kernel_rfl) (by kernel_rfl) rfl rfl rfl .nil) rfl fun E S w u hI hd => ?_
 refine post_mk hI hd ?_ trivial rfl rfl rfl <;> clear hI hd
 all_goals (rfl)
set_option maxHeartbeats 1000000 in
set_option maxRecDepth 10000 in
theorem c_laws_toRelationS (l : List (List UInt8 × Int × Bool)) (hs : szS (fun (x : List UInt8 × Int × Bool) => (x.1).length) l ≤ 1048600) : Pu Tryz.prog 7 [.c (.t none (.sl 3 (enS3 encS encI encB) (l)))] [(0, some (.row none 49 true 3 (enS3 encS encI encB) (l)))] 1 (.c (.own 0)) := by
 refine pu_enter Tryz.func7 rfl (Nat.le_of_ble_eq_true rfl) fun w S => ?_
 have gl := sz_len (f := (fun (x : List UInt8 × Int × Bool) => (x.1).length)) (l := l)
 refine tsr ?_
 refine r_op oA ?_
 refine etr ?_
 refine r_op oM ?_
 refine r_op (o_len rfl rfl rfl) ?_
 refine r_op (o_make 0 true (et := 49) (sz := 3) (by' := 32) (enS3 encS encI encB) (([], 0, false)) (zs := [.string (mkS ([])), .int .i64 (0), .bool (false)]) rfl rfl (by kernel_rfl) (by kernel_rfl) rfl rfl (.cons (.v rfl) (.cons (.v rfl) (.cons (.v rfl) .nil))) rfl rfl (by omega) (by omega) (by omega)) ?_
 refine r_op oA ?_
 refine r_end ?_
 refine t_seq ?_
 refine tsr ?_
 refine r_op oA ?_
 refine r_end ?_
 refine t_block ?_
 refine t_loopL (fun m => ⟨[(0, some (.c (.t none (.sl 3 (enS3 encS encI encB) (l))))), (2, some (.c (.t none (.v (.slice none 0 0))))), (3, some (.c (.own 0))), (4, some (.c (.t none (.v (.int .i64 ((m : Int)))))))], [(0, some (.row none 49 true 3 (enS3 encS encI encB) (l.take m ++ List.replicate (l.length - m) (([], 0, false)))))], 1⟩ : Nat → St) (fun m => m ≤ l.length) (fun m => l.length - m) 0 ⟨⟨rfl, ⟨rfl, ⟨rfl, ⟨rfl, trivial⟩⟩⟩⟩, ⟨(eqR (by simp)), trivial⟩, rfl⟩ (by simp) ?_
 rintro m hI ih0
 try dsimp only at hI ih0
 refine t_seq ?_
 refine tsr ?_
 refine r_op oM ?_
 refine r_op oM ?_
 refine r_op (o_len rfl rfl rfl) ?_
 refine r_op oB ?_
 refine r_end ?_
 refine t_cond rfl (fun h1 => ?_) (fun h1 => ?_)
 ·
  have h1' := of_decide_eq_true h1
  refine t_skip ?_
  refine t_seq ?_
  refine t_block ?_
  refine t_region ?_
  refine r_op oM ?_
  refine r_op oM ?_
  refine r_op oM ?_
  refine r_op oM ?_
  obtain ⟨z2, hz3, b4⟩ := at_get (xs := l) (n := (m : Int)) (by omega) (by omega)
  refine r_op (o_index rfl (by kernel_rfl) rfl rfl b4 hz3) ?_
  refine r_op (o_loadA rfl (n := 3) (by kernel_rfl) (by kernel_rfl) rfl rfl) ?_
  refine r_op (o_call 1 4 false (Go.Proofs.enters_of Tryz.func24 (by kernel_rfl) rfl) (c_laws_toRelation (z2.1) (z2.2.1) (z2.2.2) (by (have e1 := sz_at (f := (fun (x : List UInt8 × Int × Bool) => (x.1).length)) (l := l) (m := m) (by assumption); (try dsimp only at e1); omega))) rfl (.cons rfl (.agg (.cons .t0 (.cons .t0 (.cons .t0 .nil)))) .nil) rfl rfl rfl) ?_
  obtain ⟨z5, hz6, b7⟩ := at_get (xs := l.take m ++ List.replicate (l.length - m) (([], 0, false))) (n := (m : Int)) (by omega) (by (simp; omega))
  refine r_op (o_indexo rfl (by kernel_rfl) rfl rfl rfl b7 (at_lt b7 hz6)) ?_
  refine r_op (o_storeo (((z2.1), (z2.2.1), (z2.2.2))) (n := 3) (by kernel_rfl) rfl rfl hz6 rfl rfl rfl rfl (.cons .sc (.cons .sc (.cons .sc .nil))) rfl (fun j h1 h2 => by (simp at h1 h2; omega))) ?_
  refine r_end ?_
  refine t_endblock ?_
  refine t_region ?_
  refine r_op oM ?_
  refine r_op oB ?_
  refine r_op oA ?_
  refine r_end ?_
  refine t_le ?_ (ih0 (m + 1) (by (try dsimp only); omega) (by (try dsimp only); omega))
  exact ⟨⟨rfl, ⟨rfl, ⟨rfl, ⟨(eqI (wrS (by omega))), trivial⟩⟩⟩⟩, ⟨(eqR (fill_set (by assumption))), trivial⟩, rfl⟩
 ·
  have h1' := of_decide_eq_false h1
  refine t_exit rfl ?_
  refine tsr ?_
  refine r_op oM ?_
  refine r_op oA ?_
  refine r_end ?_
  refine t_ret Tryz.func7 (.tmp rfl .nil) rfl fun E S w u hI hd => ?_
  refine post_mk hI hd ?_ ⟨eqR ?_, trivial⟩ rfl rfl rfl <;> clear hI hd <;> (try clear ih0)
  all_goals first | rfl | ((obtain rfl : m = l.length := by omega); simp)
set_option maxHeartbeats 1000000 in
set_option maxRecDepth 10000 in
theorem c_spec_l3Cut (s : List UInt8) (bi : Int) (hs : s.length ≤ 1048576) (hb : 0 ≤ bi ∧ bi < 256) : Pu Tryz.prog 20 [.c (.t none (.v (.string (mkS (s))))), .c (.t none (.v (.int .u8 (bi))))] [(0, some (.row none 9 true 1 encS (spl (u8 bi) s)))] 1 (.c (.own 0)) := by
 refine pu_enter Tryz.func20 rfl (Nat.le_of_ble_eq_true rfl) fun w S => ?_
 refine tsr ?_
 refine r_op oA ?_
 refine etr ?_
 refine r_op (o_lit0 0 (e := 9) (sz := 1) (zs := [.string (mkS ([]))]) encS rfl rfl (by kernel_rfl) rfl) ?_
 refine r_op oA ?_
 refine etr ?_
 refine r_op oA ?_
 refine r_end ?_
 refine t_seq ?_
 refine tsr ?_
 refine r_op oA ?_
 refine r_end ?_
 refine t_block ?_
 refine t_loopL (fun (m, st, L) => ⟨[(0, some (.c (.t none (.v (.string (mkS (s))))))), (1, some (.c (.t none (.v (.int .u8 (bi)))))), (4, some (.c (.t none (.v (.slice none 0 0))))), (5, some (.c (.own 0))), (6, some (.c (.t none (.v (.int .i64 ((st : Int))))))), (7, some (.c (.t none (.v (.int .i64 ((m : Int)))))))], [(0, some (.row none 9 true 1 encS (L)))], 1⟩ : Nat × Nat × List (List UInt8) → St) (fun (m, st, L) => cutK (u8 bi) s L st m ∧ L.length ≤ m) (fun (m, st, L) => s.length - m) (0, 0, []) ⟨⟨rfl, ⟨rfl, ⟨rfl, ⟨rfl, ⟨rfl, ⟨rfl, trivial⟩⟩⟩⟩⟩⟩, ⟨rfl, trivial⟩, rfl⟩ (by exact ⟨cut0, Nat.le_refl _⟩) ?_
 rintro ⟨m, st, L⟩ hI ih0
 try dsimp only at hI ih0
 obtain ⟨i1, i4⟩ := hI; have i2 := i1.2.1; have i3 := i1.2.2
 refine t_seq ?_
 refine tsr ?_
 refine r_op oM ?_
 refine r_op oM ?_
 refine r_op (o_lenS rfl Tryz.underlying9 rfl) ?_
 refine r_op oB ?_
 refine r_end ?_
 refine t_cond rfl (fun h1 => ?_) (fun h1 => ?_)
 ·
  have h1' := of_decide_eq_true h1
  refine t_skip ?_
  refine t_seq ?_
  refine t_block ?_
  refine tsr ?_
  refine r_op oM ?_
  refine r_op oM ?_
  obtain ⟨z2, hz3, b4⟩ := at_get (xs := s) (n := (m : Int)) (by omega) (by omega)
  refine r_op (o_indexS rfl Tryz.underlying9 rfl rfl b4 hz3) ?_
  refine r_op oM ?_
  refine r_op oB ?_
  refine r_end ?_
  refine t_cond rfl (fun h5 => ?_) (fun h5 => ?_)
  ·
   have h5' := of_decide_eq_true h5
   refine tsr ?_
   refine r_op oM ?_
   refine r_op oM ?_
   refine r_op oM ?_
   refine r_op oM ?_
   refine r_op (o_subS rfl Tryz.underlying9 rfl rfl rfl (by omega) (by omega) (by omega)) ?_
   refine r_op (o_litS 1 (e := 9) (sz := 1) (zs := [.string (mkS ([]))]) rfl rfl (by kernel_rfl) rfl rfl rfl rfl rfl) ?_
   refine r_op (o_append 0 (e := 9) (sz := 1) (by' := 16) (((s).take ((m : Int)).toNat).drop ((st : Int)).toNat) rfl (by kernel_rfl) rfl rfl rfl rfl rfl rfl (.cons .sc .nil) rfl (by omega) (by omega)) ?_
   refine r_op oA ?_
   refine rtr ?_
   refine r_op oM ?_
   refine r_op oB ?_
   refine r_op oA ?_
   refine r_end ?_
   refine t_endblock ?_
   refine t_region ?_
   refine r_op oM ?_
   refine r_op oB ?_
   refine r_op oA ?_
   refine r_end ?_
   refine t_le ?_ (ih0 (m + 1, m + 1, L ++ [((s).take ((m : Int)).toNat).drop ((st : Int)).toNat]) (by (try dsimp only); omega) (by (try dsimp only); exact ⟨cut_sep i1 hz3 (u8_is (by assumption)), by simp; omega⟩))
   exact ⟨⟨rfl, ⟨rfl, ⟨rfl, ⟨rfl, ⟨(eqI (wr64 (by omega) (by omega))), ⟨(eqI (wr64 (by omega) (by omega))), trivial⟩⟩⟩⟩⟩⟩, ⟨rfl, trivial⟩, rfl⟩
  ·
   have h5' := of_decide_eq_false h5
   refine t_skip ?_
   refine t_endblock ?_
   refine t_region ?_
   refine r_op oM ?_
   refine r_op oB ?_
   refine r_op oA ?_
   refine r_end ?_
   refine t_le ?_ (ih0 (m + 1, st, L) (by (try dsimp only); omega) (by (try dsimp only); exact ⟨cut_ch i1 hz3 (u8_not hb (by assumption)), by omega⟩))
   exact ⟨⟨rfl, ⟨rfl, ⟨rfl, ⟨rfl, ⟨rfl, ⟨(eqI (wr64 (by omega) (by omega))), trivial⟩⟩⟩⟩⟩⟩, ⟨rfl, trivial⟩, rfl⟩
 ·
  have h1' := of_decide_eq_false h1
  refine t_exit rfl ?_
  refine tsr ?_
  refine r_op oM ?_
  refine r_op oM ?_
  refine r_op oM ?_
  refine r_op (o_subSl rfl Tryz.underlying9 rfl rfl (by omega) (by omega)) ?_
  refine r_op (o_litS 1 (e := 9) (sz := 1) (zs := [.string (mkS ([]))]) rfl rfl (by kernel_rfl) rfl rfl rfl rfl rfl) ?_
  refine r_op (o_append 0 (e := 9) (sz := 1) (by' := 16) ((s).drop ((st : Int)).toNat) rfl (by kernel_rfl) rfl rfl rfl rfl rfl rfl (.cons .sc .nil) rfl (by omega) (by omega)) ?_
  refine r_op oA ?_
  refine r_end ?_
  refine t_ret Tryz.func20 (.tmp rfl .nil) rfl fun E S w u hI hd => ?_
  refine post_mk hI hd ?_ ⟨eqR ?_, trivial⟩ rfl rfl rfl <;> clear hI hd <;> (try clear ih0)
  all_goals first | rfl | ((have e7 := cut_end i1 (by omega)); simpa using e7)
set_option maxHeartbeats 1000000 in
set_option maxRecDepth 10000 in
theorem c_spec_RelationIndex (rs : Rels) (n : List UInt8) (hrs : rs.length ≤ 1048576) : Pu Tryz.prog 38 [.c (.t none (.sl 3 (enS3 encS encI encB) (rs))), .c (.t none (.v (.string (mkS (n)))))] [] 0 (.c (.t none (.v (.int .i64 (relIx rs n))))) := by
 refine pu_enter Tryz.func38 rfl (Nat.le_of_ble_eq_true rfl) fun w S => ?_
 refine tsr ?_
 refine r_op oA ?_
 refine r_end ?_
 refine t_seq ?_
 refine tsr ?_
 refine r_op oA ?_
 refine r_end ?_
 refine t_block ?_
 refine t_loopL (fun m => ⟨[(0, some (.c (.t none (.sl 3 (enS3 encS encI encB) (rs))))), (1, some (.c (.t none (.v (.string (mkS (n))))))), (5, some (.c (.t none (.v (.int .i64 ((m : Int)))))))], [], 0⟩ : Nat → St) (fun m => m ≤ rs.length ∧ ∀ j z, j < m → rs[j]? = some z → (fun (z : List UInt8 × Int × Bool) => decide (z.1 = n)) z = false) (fun m => rs.length - m) 0 ⟨⟨rfl, ⟨rfl, ⟨rfl, trivial⟩⟩⟩, trivial, rfl⟩ (by exact ⟨Nat.zero_le _, fun j z h => by omega⟩) ?_
 rintro m hI ih0
 try dsimp only at hI ih0
 obtain ⟨i1, i2⟩ := hI
 refine t_seq ?_
 refine tsr ?_
 refine r_op oM ?_
 refine r_op oM ?_
 refine r_op (o_len rfl rfl rfl) ?_
 refine r_op oB ?_
 refine r_end ?_
 refine t_cond rfl (fun h1 => ?_) (fun h1 => ?_)
 ·
  have h1' := of_decide_eq_true h1
  refine t_skip ?_
  refine t_seq ?_
  refine t_block ?_
  refine tsr ?_
  refine r_op oM ?_
  refine r_op oM ?_
  obtain ⟨z2, hz3, b4⟩ := at_get (xs := rs) (n := (m : Int)) (by omega) (by omega)
  refine r_op (o_index rfl (by kernel_rfl) rfl rfl b4 hz3) ?_
  refine r_op (o_field rfl (off := 0) (by kernel_rfl) rfl) ?_
  refine r_op (o_load1 rfl (by kernel_rfl) rfl rfl) ?_
  refine r_op oM ?_
  refine r_op (o_str rfl rfl rfl rfl) ?_
  refine r_end ?_
  refine t_cond rfl (fun h5 => ?_) (fun h5 => ?_)
  ·
   have h5' := of_decide_eq_true h5
   refine tsr ?_
   refine r_op oM ?_
   refine r_op oA ?_
   refine r_end ?_
   refine t_ret Tryz.func38 (.tmp rfl .nil) rfl fun E S w u hI hd => ?_
   refine post_mk hI hd ?_ trivial rfl rfl rfl <;> clear hI hd <;> (try clear ih0)
   all_goals (refine scI ?_; unfold relIx; rw [idx_hit i2 hz3 (by simpa using (by assumption))])
  ·
   have h5' := of_decide_eq_false h5
   refine t_skip ?_
   refine t_endblock ?_
   refine t_region ?_
   refine r_op oM ?_
   refine r_op oB ?_
   refine r_op oA ?_
   refine r_end ?_
   refine t_le ?_ (ih0 (m + 1) (by (try dsimp only); omega) (by (try dsimp only); exact ⟨by omega, no_step i2 hz3 rfl (by simpa using (by assumption))⟩))
   exact ⟨⟨rfl, ⟨rfl, ⟨(eqI (wr64 (by omega) (by omega))), trivial⟩⟩⟩, trivial, rfl⟩
 ·
  have h1' := of_decide_eq_false h1
  refine t_exit rfl ?_
  refine tsr ?_
  refine r_op oA ?_
  refine r_end ?_
  refine t_ret Tryz.func38 (.tmp rfl .nil) rfl fun E S w u hI hd => ?_
  refine post_mk hI hd ?_ trivial rfl rfl rfl <;> clear hI hd <;> (try clear ih0)
  all_goals (refine scI ?_; unfold relIx; rw [idx_none i2 (by omega)])
set_option maxHeartbeats 1000000 in
set_option maxRecDepth 10000 in
theorem c_spec_l1In (a0 a1 a2 : Int) : Pu Tryz.prog 56 [.c (.t none (.v (.int .i64 (a0)))), .c (.t none (.v (.int .i64 (a1)))), .c (.t none (.v (.int .i64 (a2))))] [] 0 (.c (.t none (.v (.bool (decide (a1 ≤ a0 ∧ a0 ≤ a2)))))) := by
 refine pu_enter Tryz.func56 rfl (Nat.le_of_ble_eq_true rfl) fun w S => ?_
 refine tsr ?_
 refine r_op oA ?_
 refine etr ?_
 refine r_op oM ?_
 refine r_op oM ?_
 refine r_op oB ?_
 refine r_op oM ?_
 refine r_guard rfl rfl rfl (fun g1 => ?_) (fun g1 => ?_)
 ·
  have g1' := of_decide_eq_true g1
  refine r_op oM ?_
  refine r_guard rfl rfl rfl (fun _ => ?_) (nc g1)
  refine r_op oM ?_
  refine r_guard rfl rfl rfl (fun _ => ?_) (nc g1)
  refine r_op oB ?_
  refine r_op (o_pickT rfl rfl g1 rfl) ?_
  refine r_op oA ?_
  refine r_end ?_
  refine t_ret Tryz.func56 (.tmp rfl .nil) rfl fun E S w u hI hd => ?_
  refine post_mk hI hd ?_ trivial rfl rfl rfl <;> clear hI hd
  all_goals (simp_all <;> omega)
 ·
  have g1' := of_decide_eq_false g1
  refine r_guard rfl rfl rfl (ncf g1) (fun _ => ?_)
  refine r_guard rfl rfl rfl (ncf g1) (fun _ => ?_)
  refine r_op (o_pickF rfl rfl g1 rfl) ?_
  refine r_op oA ?_
  refine r_end ?_
  refine t_ret Tryz.func56 (.tmp rfl .nil) rfl fun E S w u hI hd => ?_
  refine post_mk hI hd ?_ trivial rfl rfl rfl <;> clear hI hd
  all_goals (simp_all <;> omega)
set_option maxHeartbeats 1000000 in
set_option maxRecDepth 10000 in
theorem c_spec_FormatInt (k : Int) (hk : 0 ≤ k) (hk2 : k < 4611686018427387904) : Pu Tryz.prog 57 [.c (.t none (.v (.int .i64 (k))))] [] 0 (.c (.t none (.v (.string (mkS (fmtN k)))))) := by
 refine pu_enter Tryz.func57 rfl (Nat.le_of_ble_eq_true rfl) fun w S => ?_
 refine tsr ?_
 refine r_op oA ?_
 refine r_end ?_
 refine t_seq ?_
 refine tsr ?_
 refine r_op oM ?_
 refine r_op oB ?_
 refine r_end ?_
 refine t_cond rfl (fun h1 => ?_) (fun h1 => ?_)
 ·
  have h1' := of_decide_eq_true h1
  refine tsr ?_
  refine r_op oA ?_
  refine r_end ?_
  refine t_ret Tryz.func57 (.tmp rfl .nil) rfl fun E S w u hI hd => ?_
  refine post_mk hI hd ?_ trivial rfl rfl rfl <;> clear hI hd <;> (try clear ih0)
  all_goals (refine scS ?_; unfold fmtN; (rw [if_pos (by assumption)]; done))
 ·
  have h1' := of_decide_eq_false h1
  refine t_skip ?_
  refine tsr ?_
  refine r_op oA ?_
  refine etr ?_
  refine r_op oM ?_
  refine r_op oB ?_
  refine r_op oA ?_
  refine r_end ?_
  refine t_seq ?_
  refine t_block ?_
  refine t_loopL (fun (q, out) => ⟨[(0, some (.c (.t none (.v (.int .i64 ((q : Int))))))), (2, some (.c (.t none (.v (.string (mkS (([] : List UInt8)))))))), (3, some (.c (.t none (.v (.string (mkS (out))))))), (4, some (.c (.t none (.v (.bool (decide (k < 0)))))))], [], 0⟩ : Nat × List UInt8 → St) (fun (q, out) => digs q ++ out = digs k.toNat ∧ (q : Int) ≤ k ∧ out.length + q ≤ k.toNat) (fun (q, out) => q) (k.toNat, []) ⟨⟨(eqI (by omega)), ⟨rfl, ⟨rfl, ⟨rfl, trivial⟩⟩⟩⟩, trivial, rfl⟩ (by exact ⟨List.append_nil _, by omega, by simp⟩) ?_
  rintro ⟨q, out⟩ hI ih0
  try dsimp only at hI ih0
  obtain ⟨i1, i2, i3⟩ := hI
  refine t_seq ?_
  refine tsr ?_
  refine r_op oM ?_
  refine r_op oB ?_
  refine r_end ?_
  refine t_cond rfl (fun h2 => ?_) (fun h2 => ?_)
  ·
   have h2' := of_decide_eq_true h2
   refine t_skip ?_
   refine t_block ?_
   refine tsr ?_
   refine r_op oM ?_
   refine r_op (o_binD rfl rfl rfl (rem_lit 10 rfl (by decide))) ?_
   refine r_op oA ?_
   refine r_end ?_
   refine t_seq ?_
   refine tsr ?_
   refine r_op oM ?_
   refine r_op oB ?_
   refine r_end ?_
   refine t_cond rfl (fun h3 => ?_) (fun h3 => ?_)
   ·
    have h3' := of_decide_eq_true h3
    exfalso; omega
   ·
    have h3' := of_decide_eq_false h3
    refine t_skip ?_
    refine tsr ?_
    refine r_op oM ?_
    refine r_op oB ?_
    refine r_op (o_conv rfl Tryz.underlying3 Tryz.underlying5 rfl) ?_
    refine r_op (o_lit1 0 (e := 5) (sz := 1) (zs := [.int .u8 0]) (enc := encU) (IntKind.u8.wrap (IntKind.i64.wrap (48 + ((q % 10 : Nat) : Int)))) rfl rfl (by kernel_rfl) rfl rfl rfl rfl rfl rfl (.cons .sc .nil)) ?_
    refine r_op (o_convBSo rfl Tryz.underlying70 Tryz.underlying5 Tryz.underlying9 rfl rfl) ?_
    refine r_op oM ?_
    refine r_op (o_cat rfl rfl rfl (by (simp [bytesOf]; omega))) ?_
    refine r_op oA ?_
    refine rtr ?_
    refine r_op oM ?_
    refine r_op (o_binD rfl rfl rfl (quo_lit 10 rfl (by decide) (by omega))) ?_
    refine r_op oA ?_
    refine r_end ?_
    refine t_endblock ?_
    refine t_le ?_ (ih0 (q / 10, (bytesOf ([IntKind.u8.wrap (IntKind.i64.wrap (48 + ((q % 10 : Nat) : Int)))])) ++ out) (by (try dsimp only); omega) (by (try dsimp only); exact ⟨by rw [digit_byte, ← i1, digs_step (q := q) (by omega), List.append_assoc], by omega, by rw [digit_byte]; simp only [List.length_append, List.length_cons, List.length_nil]; omega⟩))
    exact ⟨⟨rfl, ⟨rfl, ⟨rfl, ⟨rfl, trivial⟩⟩⟩⟩, trivial, rfl⟩
  ·
   have h2' := of_decide_eq_false h2
   refine t_exit rfl ?_
   refine t_seq ?_
   refine tsr ?_
   refine r_op oM ?_
   refine r_end ?_
   refine t_cond rfl (fun h4 => ?_) (fun h4 => ?_)
   ·
    have h4' := of_decide_eq_true h4
    exfalso; omega
   ·
    have h4' := of_decide_eq_false h4
    refine t_skip ?_
    refine tsr ?_
    refine r_op oM ?_
    refine r_op oA ?_
    refine r_end ?_
    refine t_ret Tryz.func57 (.tmp rfl .nil) rfl fun E S w u hI hd => ?_
    refine post_mk hI hd ?_ trivial rfl rfl rfl <;> clear hI hd <;> (try clear ih0)
    all_goals (refine scS ?_; unfold fmtN; ((obtain rfl : q = 0 := by omega); (have e := i1; simp only [digs, List.nil_append] at e; rw [if_neg (by omega), e])))
set_option maxHeartbeats 1000000 in
set_option maxRecDepth 10000 in
theorem c_spec_FormatTerm (t : Int) (ht : okI t) : Pu Tryz.prog 39 [.c (.t none (.v (.int .i64 (t))))] [] 0 (.c (.t none (.v (.string (mkS (fmtT t)))))) := by
 refine pu_enter Tryz.func39 rfl (Nat.le_of_ble_eq_true rfl) fun w S => ?_
 have h1 := ht.1; have h2 := ht.2
 refine tsr ?_
 refine r_op oA ?_
 refine r_end ?_
 refine t_seq ?_
 refine tsr ?_
 refine r_op oM ?_
 refine r_op (o_call 0 0 false (Go.Proofs.enters_of Tryz.func56 (by kernel_rfl) rfl) (c_spec_l1In (t) (-10) (-1)) rfl (.cons rfl (.c .t0) (.cons rfl (.c .t0) (.cons rfl (.c .t0) .nil))) rfl rfl rfl) ?_
 refine r_end ?_
 refine t_cond rfl (fun h1 => ?_) (fun h1 => ?_)
 ·
  have h1' := of_decide_eq_true h1
  refine tsr ?_
  refine r_op oM ?_
  refine r_op oB ?_
  refine r_op (o_call 0 0 false (Go.Proofs.enters_of Tryz.func57 (by kernel_rfl) rfl) (c_spec_FormatInt (IntKind.i64.wrap ((-1) - t)) (by (rw [wr64 (by omega) (by omega)]; omega)) (by (rw [wr64 (by omega) (by omega)]; omega))) rfl (.cons rfl (.c .t0) .nil) rfl rfl rfl) ?_
  refine r_op oA ?_
  refine r_end ?_
  refine t_ret Tryz.func39 (.tmp rfl .nil) rfl fun E S w u hI hd => ?_
  refine post_mk hI hd ?_ trivial rfl rfl rfl <;> clear hI hd
  all_goals (refine scS ?_; (exact fmtT_con (by omega)))
 ·
  have h1' := of_decide_eq_false h1
  refine t_skip ?_
  refine t_seq ?_
  refine tsr ?_
  refine r_op oM ?_
  refine r_op (o_call 0 0 false (Go.Proofs.enters_of Tryz.func56 (by kernel_rfl) rfl) (c_spec_l1In (t) (0) (4)) rfl (.cons rfl (.c .t0) (.cons rfl (.c .t0) (.cons rfl (.c .t0) .nil))) rfl rfl rfl) ?_
  refine r_op (o_not rfl rfl) ?_
  refine r_end ?_
  refine t_cond rfl (fun h2 => ?_) (fun h2 => ?_)
  ·
   have h2' := of_decide_eq_false (bnt h2)
   refine tsr ?_
   refine r_op oA ?_
   refine r_end ?_
   refine t_ret Tryz.func39 (.tmp rfl .nil) rfl fun E S w u hI hd => ?_
   refine post_mk hI hd ?_ trivial rfl rfl rfl <;> clear hI hd
   all_goals (refine scS ?_; (exact fmtT_no (by omega) (by omega)))
  ·
   have h2' := of_decide_eq_true (bnf h2)
   refine t_skip ?_
   refine tsr ?_
   refine r_op oM ?_
   refine r_op oM ?_
   refine r_op oB ?_
   refine r_op (o_subS rfl Tryz.underlying9 rfl rfl rfl (by omega) (by (rw [wr64 (by omega) (by omega)]; omega)) (by (rw [wr64 (by omega) (by omega)]; simp; omega))) ?_
   refine r_op oA ?_
   refine r_end ?_
   refine t_ret Tryz.func39 (.tmp rfl .nil) rfl fun E S w u hI hd => ?_
   refine post_mk hI hd ?_ trivial rfl rfl rfl <;> clear hI hd
   all_goals (refine scS ?_; (exact fmtT_var (by omega)))
set_option maxHeartbeats 1000000 in
set_option maxRecDepth 10000 in
theorem c_spec_l10Term (s : List UInt8) : Pu Tryz.prog 22 [.c (.t none (.v (.string (mkS (s)))))] [] 0 (.c (.t none (.v (.int .i64 (tmF s))))) := by
 refine pu_enter Tryz.func22 rfl (Nat.le_of_ble_eq_true rfl) fun w S => ?_
 refine tsr ?_
 refine r_op oA ?_
 refine r_end ?_
 refine t_seq ?_
 refine tsr ?_
 refine r_op oA ?_
 refine r_end ?_
 refine t_block ?_
 refine t_loopL (fun k => ⟨[(0, some (.c (.t none (.v (.string (mkS (s))))))), (3, some (.c (.t none (.v (.int .i64 ((k : Int) - 10))))))], [], 0⟩ : Nat → St) (fun k => k ≤ 15 ∧ ∀ j : Nat, j < k → fmtT ((j : Int) - 10) ≠ s) (fun k => 15 - k) 0 ⟨⟨rfl, ⟨(eqI rfl), trivial⟩⟩, trivial, rfl⟩ (by exact ⟨Nat.zero_le _, fun j h => by omega⟩) ?_
 rintro k hI ih0
 try dsimp only at hI ih0
 obtain ⟨i1, i2⟩ := hI
 refine t_seq ?_
 refine tsr ?_
 refine r_op oM ?_
 refine r_op oB ?_
 refine r_end ?_
 refine t_cond rfl (fun h1 => ?_) (fun h1 => ?_)
 ·
  have h1' := of_decide_eq_true h1
  refine t_skip ?_
  refine t_seq ?_
  refine t_block ?_
  refine tsr ?_
  refine r_op oM ?_
  refine r_op (o_call 0 0 false (Go.Proofs.enters_of Tryz.func39 (by kernel_rfl) rfl) (c_spec_FormatTerm ((k : Int) - 10) (by (unfold okI; omega))) rfl (.cons rfl (.c .t0) .nil) rfl rfl rfl) ?_
  refine r_op oM ?_
  refine r_op (o_str rfl rfl rfl rfl) ?_
  refine r_end ?_
  refine t_cond rfl (fun h2 => ?_) (fun h2 => ?_)
  ·
   have h2' := of_decide_eq_true h2
   refine tsr ?_
   refine r_op oM ?_
   refine r_op oA ?_
   refine r_end ?_
   refine t_ret Tryz.func22 (.tmp rfl .nil) rfl fun E S w u hI hd => ?_
   refine post_mk hI hd ?_ trivial rfl rfl rfl <;> clear hI hd <;> (try clear ih0)
   all_goals (refine scI ?_; exact (tmF_hit (by omega) i2 (by assumption)).symm)
  ·
   have h2' := of_decide_eq_false h2
   refine t_skip ?_
   refine t_endblock ?_
   refine t_region ?_
   refine r_op oM ?_
   refine r_op oB ?_
   refine r_op oA ?_
   refine r_end ?_
   refine t_le ?_ (ih0 (k + 1) (by (try dsimp only); omega) (by (try dsimp only); exact ⟨by omega, fun j hj => by (by_cases e : j = k; (subst e; simpa using (by assumption : ¬ fmtT _ = s)); exact i2 j (by omega))⟩))
   exact ⟨⟨rfl, ⟨(eqI (by simp only [IntKind.wrap_i64]; omega)), trivial⟩⟩, trivial, rfl⟩
 ·
  have h1' := of_decide_eq_false h1
  refine t_exit rfl ?_
  refine tsr ?_
  refine r_op oA ?_
  refine r_end ?_
  refine t_ret Tryz.func22 (.tmp rfl .nil) rfl fun E S w u hI hd => ?_
  refine post_mk hI hd ?_ trivial rfl rfl rfl <;> clear hI hd <;> (try clear ih0)
  all_goals (refine scI ?_; exact (tmF_none (by omega) i2).symm)
set_option maxHeartbeats 1000000 in
set_option maxRecDepth 10000 in
theorem c_spec_l10Read (rs : Rels) (s : List UInt8) (hrs : rs.length ≤ 1048576) (hs : s.length ≤ 1048576) : Pu Tryz.prog 21 [.c (.t none (.sl 3 (enS3 encS encI encB) (rs))), .c (.t none (.v (.string (mkS (s)))))] [(0, some (.row none 64 true 2 (enS2 encI (enSl 1 encI)) (rAs rs s)))] 1 (.c (.own 0)) := by
 refine pu_enter Tryz.func21 rfl (Nat.le_of_ble_eq_true rfl) fun w S => ?_
 refine tsr ?_
 refine r_op oA ?_
 refine etr ?_
 refine r_op (o_lit0 0 (e := 64) (sz := 2) (zs := [.int .i64 (0), .slice none 0 0]) (enS2 encI (enSl 1 encI)) rfl rfl (by kernel_rfl) rfl) ?_
 refine r_op oA ?_
 refine etr ?_
 refine r_op oM ?_
 refine r_op (o_call 1 2 false (Go.Proofs.enters_of Tryz.func20 (by kernel_rfl) rfl) (c_spec_l3Cut (s) (32) (by omega) (by omega)) rfl (.cons rfl (.c .t0) (.cons rfl (.c .t0) .nil)) rfl rfl rfl) ?_
 refine r_op oA ?_
 refine r_end ?_
 refine t_seq ?_
 refine tsr ?_
 refine r_op oA ?_
 refine r_end ?_
 refine t_block ?_
 refine t_loopL (fun m => ⟨[(0, some (.c (.t none (.sl 3 (enS3 encS encI encB) (rs))))), (4, some (.c (.t none (.v (.slice none 0 0))))), (5, some (.c (.own 0))), (6, some (.c (.own 1))), (7, some (.c (.t none (.v (.int .i64 ((m : Int)))))))], [(0, some (.row none 64 true 2 (enS2 encI (enSl 1 encI)) (((spl (u8 32) s).take m).map (rAt rs)))), (1, some (.row none 9 true 1 encS (spl (u8 (32)) (s))))], 2⟩ : Nat → St) (fun m => m ≤ (spl (u8 32) s).length) (fun m => (spl (u8 32) s).length - m) 0 ⟨⟨rfl, ⟨rfl, ⟨rfl, ⟨rfl, ⟨rfl, trivial⟩⟩⟩⟩⟩, ⟨rfl, ⟨rfl, trivial⟩⟩, rfl⟩ (by exact Nat.zero_le _) ?_
 rintro m hI ih0
 try dsimp only at hI ih0
 have i1 := hI; have l1 := spl_len (b := u8 32) (s := s)
 refine t_seq ?_
 refine tsr ?_
 refine r_op oM ?_
 refine r_op oM ?_
 refine r_op (o_leno rfl rfl rfl rfl) ?_
 refine r_op oB ?_
 refine r_end ?_
 refine t_cond rfl (fun h1 => ?_) (fun h1 => ?_)
 ·
  have h1' := of_decide_eq_true h1
  refine t_skip ?_
  refine t_seq ?_
  refine t_block ?_
  refine tsr ?_
  refine r_op (o_build rfl (pl := [(0, 1), (1, 1)]) (zs := [.int .i64 (0), .slice none 0 0]) (by kernel_rfl) (by kernel_rfl) rfl rfl rfl) ?_
  refine r_op (o_alloc 2 (zs := [.int .i64 (0), .slice none 0 0]) rfl rfl (by kernel_rfl) rfl) ?_
  refine r_op (oS 2) ?_
  refine r_end ?_
  refine t_seq ?_
  refine tsr ?_
  refine r_op oA ?_
  refine r_end ?_
  refine t_block ?_
  refine gt_nilb 3 (b := 2) (o := 1) (et := 3) (sz := 1) true encI rfl rfl rfl ?_
  have hx : (spl (u8 32) s)[((m : Int)).toNat]? = some ((spl (u8 32) s).getD m []) := getD_some (by omega); have hxb : (0 : Int) ≤ (m : Int) := Int.natCast_nonneg m; have hxl := spl_mem (b := u8 32) (s := s) (List.mem_of_getElem? hx)
  refine t_loopL (fun n => ⟨[(0, some (.c (.t none (.sl 3 (enS3 encS encI encB) (rs))))), (4, some (.c (.t none (.v (.slice none 0 0))))), (5, some (.c (.own 0))), (6, some (.c (.own 1))), (7, some (.c (.t none (.v (.int .i64 ((m : Int))))))), (8, some (.c (.ptr 2 0))), (9, some (.c (.t none (.v (.int .i64 ((n : Int)))))))], [(0, some (.row none 64 true 2 (enS2 encI (enSl 1 encI)) (((spl (u8 32) s).take m).map (rAt rs)))), (1, some (.row none 9 true 1 encS (spl (u8 (32)) (s)))), (2, some (.box [.t none (.v (.int .i64 ((if n = 0 then -1 else relIx rs ((((spl (u8 32) s).getD m [])).take 1))))), .own 3])), (3, some (.row none 3 true 1 encI ((((((spl (u8 32) s).getD m [])).take n).drop 1).map (fun c => tmF [c]))))], 4⟩ : Nat → St) (fun n => n ≤ (((spl (u8 32) s).getD m [])).length) (fun n => (((spl (u8 32) s).getD m [])).length - n) 0 ⟨⟨rfl, ⟨rfl, ⟨rfl, ⟨rfl, ⟨rfl, ⟨rfl, ⟨rfl, trivial⟩⟩⟩⟩⟩⟩⟩, ⟨rfl, ⟨rfl, ⟨rfl, ⟨rfl, trivial⟩⟩⟩⟩, rfl⟩ (by exact Nat.zero_le _) ?_
  rintro n hI ih1
  try dsimp only at hI ih1
  have j1 := hI
  refine t_seq ?_
  refine tsr ?_
  refine r_op oM ?_
  refine r_op oM ?_
  refine r_op oM ?_
  refine r_op (o_indexo rfl (by kernel_rfl) rfl rfl rfl hxb (at_lt hxb hx)) ?_
  refine r_op (o_load1o rfl (by kernel_rfl) rfl rfl rfl hx) ?_
  refine r_op (o_lenS rfl Tryz.underlying9 rfl) ?_
  refine r_op oB ?_
  refine r_end ?_
  refine t_cond rfl (fun h2 => ?_) (fun h2 => ?_)
  ·
   have h2' := of_decide_eq_true h2
   refine t_skip ?_
   refine t_seq ?_
   refine t_block ?_
   refine tsr ?_
   refine r_op oM ?_
   refine r_op oB ?_
   refine r_end ?_
   refine t_cond rfl (fun h3 => ?_) (fun h3 => ?_)
   ·
    have h3' := of_decide_eq_true h3
    refine t_region ?_
    refine r_op oM ?_
    refine r_op oM ?_
    refine r_op oM ?_
    refine r_op (o_indexo rfl (by kernel_rfl) rfl rfl rfl hxb (at_lt hxb hx)) ?_
    refine r_op (o_load1o rfl (by kernel_rfl) rfl rfl rfl hx) ?_
    refine r_op (o_subSh rfl Tryz.underlying9 rfl rfl (by omega) (by omega)) ?_
    refine r_op (o_call 4 4 false (Go.Proofs.enters_of Tryz.func38 (by kernel_rfl) rfl) (c_spec_RelationIndex (rs) ((((spl (u8 32) s).getD m [])).take ((1 : Int)).toNat) (by omega)) rfl (.cons rfl (.c .t0) (.cons rfl (.c .t0) .nil)) rfl rfl rfl) ?_
    refine r_op (oF 0) ?_
    refine r_op (oS 1) ?_
    refine r_end ?_
    refine t_endblock ?_
    refine t_region ?_
    refine r_op oM ?_
    refine r_op oB ?_
    refine r_op oA ?_
    refine r_end ?_
    refine t_le ?_ (ih1 (n + 1) (by (try dsimp only); omega) (by (try dsimp only); omega))
    exact ⟨⟨rfl, ⟨rfl, ⟨rfl, ⟨rfl, ⟨rfl, ⟨rfl, ⟨(eqI (wr64 (by omega) (by omega))), trivial⟩⟩⟩⟩⟩⟩⟩, ⟨rfl, ⟨rfl, ⟨(boxI (by exact (if_neg (by omega)).symm)), ⟨(eqR (by exact rd_zero (by omega))), trivial⟩⟩⟩⟩, rfl⟩
   ·
    have h3' := of_decide_eq_false h3
    refine t_draw (fun i => !(Nat.beq i 12 || Nat.beq i 14)) (by kernel_rfl) ?_
    refine dT 0 rfl (pF 1) ?_
    refine dT 1 rfl pL ?_
    refine dT 2 rfl pM ?_
    refine dT 3 rfl pM ?_
    refine dT 4 rfl (p_indexo (by kernel_rfl) rfl rfl rfl hxb (at_lt hxb hx)) ?_
    refine dT 5 rfl (p_load1o (by kernel_rfl) rfl rfl rfl hx) ?_
    refine dT 6 rfl pM ?_
    refine dT 7 rfl pM ?_
    refine dT 8 rfl pB ?_
    refine dT 9 rfl (p_subS Tryz.underlying9 rfl rfl rfl (by omega) (by (simp only [IntKind.wrap_i64]; omega)) (by (simp only [IntKind.wrap_i64]; omega))) ?_
    refine dO 10 rfl (o_call 4 4 false (Go.Proofs.enters_of Tryz.func22 (by kernel_rfl) rfl) (c_spec_l10Term (((((spl (u8 32) s).getD m [])).take (IntKind.i64.wrap ((n : Int) + 1)).toNat).drop ((n : Int)).toNat)) rfl (.cons rfl (.c .t0) .nil) rfl rfl rfl) ?_
    refine dO 11 rfl (o_litS 4 (e := 3) (sz := 1) (zs := [.int .i64 (0)]) rfl rfl (by kernel_rfl) rfl rfl rfl rfl rfl) ?_
    refine dO 12 rfl (o_append 3 (e := 3) (sz := 1) (by' := 8) (tmF (((((spl (u8 32) s).getD m [])).take (IntKind.i64.wrap ((n : Int) + 1)).toNat).drop ((n : Int)).toNat)) rfl (by kernel_rfl) rfl rfl rfl rfl rfl rfl (.cons .sc .nil) rfl (by (simp; omega)) (by (simp; omega))) ?_
    refine dT 13 rfl (pF 1) ?_
    refine dO 14 rfl (oS 1) ?_
    refine d_end (by kernel_rfl) ?_
    refine t_endblock ?_
    refine t_region ?_
    refine r_op oM ?_
    refine r_op oB ?_
    refine r_op oA ?_
    refine r_end ?_
    refine t_le ?_ (ih1 (n + 1) (by (try dsimp only); omega) (by (try dsimp only); omega))
    exact ⟨⟨rfl, ⟨rfl, ⟨rfl, ⟨rfl, ⟨rfl, ⟨rfl, ⟨(eqI (wr64 (by omega) (by omega))), trivial⟩⟩⟩⟩⟩⟩⟩, ⟨rfl, ⟨rfl, ⟨(boxI (by (rw [if_neg (by omega), if_neg (by omega)]))), ⟨(eqR (by (rw [wrN (by omega)]; exact rd_char (by omega) (by omega)))), trivial⟩⟩⟩⟩, rfl⟩
  ·
   have h2' := of_decide_eq_false h2
   refine t_exit rfl ?_
   refine t_region ?_
   refine r_op oM ?_
   refine r_op (oC 2) ?_
   refine r_op (o_litS 4 (e := 64) (sz := 2) (zs := [.int .i64 (0), .slice none 0 0]) rfl rfl (by kernel_rfl) rfl rfl rfl rfl rfl) ?_
   refine r_op (o_append 0 (e := 64) (sz := 2) (by' := 32) (((if n = 0 then -1 else relIx rs ((((spl (u8 32) s).getD m [])).take 1)), (((((spl (u8 32) s).getD m [])).take n).drop 1).map (fun c => tmF [c]))) rfl (by kernel_rfl) rfl rfl rfl rfl rfl rfl (.cons .sc (.take (.own rfl) rfl .nil)) rfl (by (simp; omega)) (by (simp; omega))) ?_
   refine r_op oA ?_
   refine r_end ?_
   refine t_endblock ?_
   refine t_region ?_
   refine r_op oM ?_
   refine r_op oB ?_
   refine r_op oA ?_
   refine r_end ?_
   refine t_le ?_ (ih0 (m + 1) (by (try dsimp only); omega) (by (try dsimp only); omega))
   exact ⟨⟨rfl, ⟨rfl, ⟨rfl, ⟨rfl, ⟨(eqI (wr64 (by omega) (by omega))), trivial⟩⟩⟩⟩⟩, ⟨(eqR (rd_step hx (by omega) (by omega))), ⟨rfl, trivial⟩⟩, rfl⟩
 ·
  have h1' := of_decide_eq_false h1
  refine t_exit rfl ?_
  refine tsr ?_
  refine r_op oM ?_
  refine r_op oA ?_
  refine r_end ?_
  refine t_ret Tryz.func21 (.tmp rfl .nil) rfl fun E S w u hI hd => ?_
  refine post_mk hI hd ?_ ⟨eqR ?_, trivial⟩ rfl rfl rfl <;> clear hI hd <;> (try clear ih0) <;> (try clear ih1)
  all_goals first | rfl | ((rw [List.take_of_length_le (by omega)]; rfl))
set_option maxHeartbeats 1000000 in
set_option maxRecDepth 10000 in
theorem c_spec_IsValidRelation (n : List UInt8) (a : Int) (s : Bool) : Pu Tryz.prog 75 [.agg [.t none (.v (.string (mkS (n)))), .t none (.v (.int .i64 (a))), .t none (.v (.bool (s)))]] [] 0 (.c (.t none (.v (.bool (relOk (n, a, s)))))) := by
 refine pu_enter Tryz.func75 rfl (Nat.le_of_ble_eq_true rfl) fun w S => ?_
 refine tsr ?_
 refine r_op (o_box 0 rfl rfl rfl rfl) ?_
 refine r_op oA ?_
 refine etr ?_
 refine r_op (oF 0) ?_
 refine r_op oL ?_
 refine r_op (o_lenS rfl Tryz.underlying9 rfl) ?_
 refine r_op oB ?_
 refine r_op oM ?_
 refine r_guard rfl rfl rfl (fun g1 => ?_) (fun g1 => ?_)
 ·
  have g1' := of_decide_eq_true g1
  refine r_op (oF 0) ?_
  refine r_guard rfl rfl rfl (fun _ => ?_) (nc g1)
  refine r_op oL ?_
  refine r_guard rfl rfl rfl (fun _ => ?_) (nc g1)
  obtain ⟨z2, hz3, b4⟩ := at_get (xs := n) (n := 0) (by omega) (by omega)
  refine r_op (o_indexS rfl Tryz.underlying9 rfl rfl b4 hz3) ?_
  refine r_guard rfl rfl rfl (fun _ => ?_) (nc g1)
  refine r_op oB ?_
  refine r_op (o_pickT rfl rfl g1 rfl) ?_
  refine r_op oM ?_
  refine r_guard rfl rfl rfl (fun g5 => ?_) (fun g5 => ?_)
  ·
   have g5' := of_decide_eq_true g5
   refine r_op (oF 0) ?_
   refine r_guard rfl rfl rfl (fun _ => ?_) (nc g5)
   refine r_op oL ?_
   refine r_guard rfl rfl rfl (fun _ => ?_) (nc g5)
   refine r_op (o_indexS rfl Tryz.underlying9 rfl rfl b4 hz3) ?_
   refine r_guard rfl rfl rfl (fun _ => ?_) (nc g5)
   refine r_op oB ?_
   refine r_op (o_pickT rfl rfl g5 rfl) ?_
   refine r_op oM ?_
   refine r_guard rfl rfl rfl (fun g6 => ?_) (fun g6 => ?_)
   ·
    have g6' := of_decide_eq_true g6
    refine r_op (oF 1) ?_
    refine r_guard rfl rfl rfl (fun _ => ?_) (nc g6)
    refine r_op oL ?_
    refine r_guard rfl rfl rfl (fun _ => ?_) (nc g6)
    refine r_op (o_call 1 1 false (Go.Proofs.enters_of Tryz.func56 (by kernel_rfl) rfl) (c_spec_l1In (a) (1) (3)) rfl (.cons rfl (.c .t0) (.cons rfl (.c .t0) (.cons rfl (.c .t0) .nil))) rfl rfl rfl) ?_
    refine r_op (o_pickT rfl rfl g6 rfl) ?_
    refine r_op oA ?_
    refine r_end ?_
    refine t_ret Tryz.func75 (.tmp rfl .nil) rfl fun E S w u hI hd => ?_
    refine post_mk hI hd ?_ trivial rfl rfl rfl <;> clear hI hd
    all_goals (refine scB ?_; (obtain ⟨c, rfl⟩ := one_of (by assumption); simp at *; subst_vars; simp [relOk, nameOk]; omega))
   ·
    have g6' := of_decide_eq_false g6
    refine r_guard rfl rfl rfl (ncf g6) (fun _ => ?_)
    refine r_guard rfl rfl rfl (ncf g6) (fun _ => ?_)
    refine r_op (o_pickF rfl rfl g6 rfl) ?_
    refine r_op oA ?_
    refine r_end ?_
    refine t_ret Tryz.func75 (.tmp rfl .nil) rfl fun E S w u hI hd => ?_
    refine post_mk hI hd ?_ trivial rfl rfl rfl <;> clear hI hd
    all_goals (refine scB ?_; (obtain ⟨c, rfl⟩ := one_of (by assumption); simp at *; subst_vars; simp [relOk, nameOk]; omega))
  ·
   have g5' := of_decide_eq_false g5
   refine r_guard rfl rfl rfl (ncf g5) (fun _ => ?_)
   refine r_guard rfl rfl rfl (ncf g5) (fun _ => ?_)
   refine r_guard rfl rfl rfl (ncf g5) (fun _ => ?_)
   refine r_op (o_pickF rfl rfl g5 rfl) ?_
   refine r_op oM ?_
   refine r_guard rfl rfl rfl (ncf rfl) (fun _ => ?_)
   refine r_guard rfl rfl rfl (ncf rfl) (fun _ => ?_)
   refine r_guard rfl rfl rfl (ncf rfl) (fun _ => ?_)
   refine r_op (o_pickF rfl rfl rfl rfl) ?_
   refine r_op oA ?_
   refine r_end ?_
   refine t_ret Tryz.func75 (.tmp rfl .nil) rfl fun E S w u hI hd => ?_
   refine post_mk hI hd ?_ trivial rfl rfl rfl <;> clear hI hd
   all_goals (refine scB ?_; (obtain ⟨c, rfl⟩ := one_of (by assumption); simp at *; subst_vars; simp [relOk, nameOk]; omega))
 ·
  have g1' := of_decide_eq_false g1
  refine r_guard rfl rfl rfl (ncf g1) (fun _ => ?_)
  refine r_guard rfl rfl rfl (ncf g1) (fun _ => ?_)
  refine r_guard rfl rfl rfl (ncf g1) (fun _ => ?_)
  refine r_op (o_pickF rfl rfl g1 rfl) ?_
  refine r_op oM ?_
  refine r_guard rfl rfl rfl (ncf rfl) (fun _ => ?_)
  refine r_guard rfl rfl rfl (ncf rfl) (fun _ => ?_)
  refine r_guard rfl rfl rfl (ncf rfl) (fun _ => ?_)
  refine r_guard rfl rfl rfl (ncf rfl) (fun _ => ?_)
  refine r_op (o_pickF rfl rfl rfl rfl) ?_
  refine r_op oM ?_
  refine r_guard rfl rfl rfl (ncf rfl) (fun _ => ?_)
  refine r_guard rfl rfl rfl (ncf rfl) (fun _ => ?_)
  refine r_guard rfl rfl rfl (ncf rfl) (fun _ => ?_)
  refine r_op (o_pickF rfl rfl rfl rfl) ?_
  refine r_op oA ?_
  refine r_end ?_
  refine t_ret Tryz.func75 (.tmp rfl .nil) rfl fun E S w u hI hd => ?_
  refine post_mk hI hd ?_ trivial rfl rfl rfl <;> clear hI hd
  all_goals (refine scB ?_; (have e := nameOk_not (by assumption); simp [relOk, e]; done))
set_option maxHeartbeats 1000000 in
set_option maxRecDepth 10000 in
theorem c_spec_AreValidRelations (l : List (List UInt8 × Int × Bool)) (hl : l.length ≤ 4611686018427387904) : Pu Tryz.prog 51 [.c (.t none (.sl 3 (enS3 encS encI encB) (l)))] [] 0 (.c (.t none (.v (.bool (relsOk l))))) := by
 refine pu_enter Tryz.func51 rfl (Nat.le_of_ble_eq_true rfl) fun w S => ?_
 refine tsr ?_
 refine r_op oA ?_
 refine r_end ?_
 refine t_seq ?_
 refine tsr ?_
 refine r_op oA ?_
 refine r_end ?_
 refine t_block ?_
 refine t_loopL (fun m => ⟨[(0, some (.c (.t none (.sl 3 (enS3 encS encI encB) (l))))), (3, some (.c (.t none (.v (.int .i64 ((m : Int)))))))], [], 0⟩ : Nat → St) (fun m => m ≤ l.length ∧ ∀ j, j < m → relStep l j = true) (fun m => l.length - m) 0 ⟨⟨rfl, ⟨rfl, trivial⟩⟩, trivial, rfl⟩ (by exact ⟨Nat.zero_le _, fun j h => by omega⟩) ?_
 rintro m hI ih0
 try dsimp only at hI ih0
 obtain ⟨i1, i2⟩ := hI
 refine t_seq ?_
 refine tsr ?_
 refine r_op oM ?_
 refine r_op oM ?_
 refine r_op (o_len rfl rfl rfl) ?_
 refine r_op oB ?_
 refine r_end ?_
 refine t_cond rfl (fun h1 => ?_) (fun h1 => ?_)
 ·
  have h1' := of_decide_eq_true h1
  refine t_skip ?_
  refine t_seq ?_
  refine t_block ?_
  refine t_seq ?_
  refine t_draw (fun _ => true) (by kernel_rfl) ?_
  refine dT 0 rfl pM ?_
  refine dT 1 rfl pM ?_
  obtain ⟨z2, hz3, b4⟩ := at_get (xs := l) (n := (m : Int)) (by omega) (by omega)
  refine dT 2 rfl (p_index (by kernel_rfl) rfl rfl b4 hz3) ?_
  refine dT 3 rfl (p_loadA (n := 3) (by kernel_rfl) (by kernel_rfl) rfl rfl) ?_
  refine dO 4 rfl (o_call 0 0 false (Go.Proofs.enters_of Tryz.func75 (by kernel_rfl) rfl) (c_spec_IsValidRelation (z2.1) (z2.2.1) (z2.2.2)) rfl (.cons rfl (.agg (.cons .t0 (.cons .t0 (.cons .t0 .nil)))) .nil) rfl rfl rfl) ?_
  refine dT 5 rfl (p_not rfl) ?_
  refine dT 6 rfl pM ?_
  refine dH 7 rfl (fun _ => pM) (fun g5 => ?_) (fun g5 => ?_)
  ·
   have g5' := (bnf g5)
   refine dH 8 rfl (fun _ => pB) (fun _ => ?_) (ncf g5)
   refine dH 9 rfl (fun _ => pM) (fun _ => ?_) (ncf g5)
   refine dH 10 rfl (fun _ => pM) (fun g6 => ?_) (fun g6 => ?_)
   ·
    have g6' := of_decide_eq_true g6
    refine dH 11 rfl (fun _ => pM) (fun _ => ?_) (nc g6)
    refine dH 12 rfl (fun _ => pB) (fun _ => ?_) (nc g6)
    obtain ⟨z7, hz8, b9⟩ := at_get (xs := l) (n := IntKind.i64.wrap ((m : Int) - 1)) (by (simp only [IntKind.wrap_i64]; omega)) (by (simp only [IntKind.wrap_i64]; omega))
    refine dH 13 rfl (fun _ => p_index (by kernel_rfl) rfl rfl b9 hz8) (fun _ => ?_) (nc g6)
    refine dH 14 rfl (fun _ => p_field (off := 0) (by kernel_rfl) rfl) (fun _ => ?_) (nc g6)
    refine dH 15 rfl (fun _ => p_load1 (by kernel_rfl) rfl rfl) (fun _ => ?_) (nc g6)
    refine dH 16 rfl (fun _ => pM) (fun _ => ?_) (nc g6)
    refine dH 17 rfl (fun _ => pM) (fun _ => ?_) (nc g6)
    refine dH 18 rfl (fun _ => p_index (by kernel_rfl) rfl rfl b4 hz3) (fun _ => ?_) (nc g6)
    refine dH 19 rfl (fun _ => p_field (off := 0) (by kernel_rfl) rfl) (fun _ => ?_) (nc g6)
    refine dH 20 rfl (fun _ => p_load1 (by kernel_rfl) rfl rfl) (fun _ => ?_) (nc g6)
    refine dH 21 rfl (fun _ => p_str rfl rfl rfl) (fun _ => ?_) (nc g6)
    refine dH 22 rfl (fun _ => p_pickT rfl g6 rfl) (fun _ => ?_) (ncf g5)
    refine dT 23 rfl (p_pickF rfl g5 rfl) ?_
    refine d_end (by kernel_rfl) ?_
    refine t_cond rfl (fun h10 => ?_) (fun h10 => ?_)
    ·
     have h10' := (bnt h10)
     refine tsr ?_
     refine r_op oA ?_
     refine r_end ?_
     refine t_ret Tryz.func51 (.tmp rfl .nil) rfl fun E S w u hI hd => ?_
     refine post_mk hI hd ?_ trivial rfl rfl rfl <;> clear hI hd <;> (try clear ih0)
     all_goals (rw [relsOk_not (m := m) (by omega) (relStep_pos (n := (IntKind.i64.wrap ((m : Int) - 1)).toNat) (by assumption) (by assumption) (by omega) (by simp only [IntKind.wrap_i64]; omega) (by assumption) (by assumption))])
    ·
     have h10' := (bnf h10)
     refine t_skip ?_
     refine t_endblock ?_
     refine t_region ?_
     refine r_op oM ?_
     refine r_op oB ?_
     refine r_op oA ?_
     refine r_end ?_
     refine t_le ?_ (ih0 (m + 1) (by (try dsimp only); omega) (by (try dsimp only); exact ⟨by omega, step_all i2 (relStep_pos (n := (IntKind.i64.wrap ((m : Int) - 1)).toNat) (by assumption) (by assumption) (by omega) (by simp only [IntKind.wrap_i64]; omega) (by assumption) (by assumption))⟩))
     exact ⟨⟨rfl, ⟨(eqI (wr64 (by omega) (by omega))), trivial⟩⟩, trivial, rfl⟩
   ·
    have g6' := of_decide_eq_false g6
    refine dG 11 (ncf g6) (fun _ => ?_)
    refine dG 12 (ncf g6) (fun _ => ?_)
    refine dG 13 (ncf g6) (fun _ => ?_)
    refine dG 14 (ncf g6) (fun _ => ?_)
    refine dG 15 (ncf g6) (fun _ => ?_)
    refine dG 16 (ncf g6) (fun _ => ?_)
    refine dG 17 (ncf g6) (fun _ => ?_)
    refine dG 18 (ncf g6) (fun _ => ?_)
    refine dG 19 (ncf g6) (fun _ => ?_)
    refine dG 20 (ncf g6) (fun _ => ?_)
    refine dG 21 (ncf g6) (fun _ => ?_)
    refine dH 22 rfl (fun _ => p_pickF rfl g6 rfl) (fun _ => ?_) (ncf g5)
    refine dT 23 rfl (p_pickF rfl g5 rfl) ?_
    refine d_end (by kernel_rfl) ?_
    refine t_cond rfl (ncf rfl) (fun _ => ?_)
    refine t_skip ?_
    refine t_endblock ?_
    refine t_region ?_
    refine r_op oM ?_
    refine r_op oB ?_
    refine r_op oA ?_
    refine r_end ?_
    refine t_le ?_ (ih0 (m + 1) (by (try dsimp only); omega) (by (try dsimp only); exact ⟨by omega, step_all i2 (relStep_zero (by assumption) (by assumption) (by omega))⟩))
    exact ⟨⟨rfl, ⟨(eqI (wr64 (by omega) (by omega))), trivial⟩⟩, trivial, rfl⟩
  ·
   have g5' := (bnt g5)
   refine dG 8 (nc g5) (fun _ => ?_)
   refine dG 9 (nc g5) (fun _ => ?_)
   refine dK 10 ?_
   refine dK 11 ?_
   refine dK 12 ?_
   refine dK 13 ?_
   refine dK 14 ?_
   refine dK 15 ?_
   refine dK 16 ?_
   refine dK 17 ?_
   refine dK 18 ?_
   refine dK 19 ?_
   refine dK 20 ?_
   refine dK 21 ?_
   refine dG 22 (nc g5) (fun _ => ?_)
   refine dT 23 rfl (p_pickT rfl g5 rfl) ?_
   refine d_end (by kernel_rfl) ?_
   refine t_cond rfl (fun _ => ?_) (nc rfl)
   refine tsr ?_
   refine r_op oA ?_
   refine r_end ?_
   refine t_ret Tryz.func51 (.tmp rfl .nil) rfl fun E S w u hI hd => ?_
   refine post_mk hI hd ?_ trivial rfl rfl rfl <;> clear hI hd <;> (try clear ih0)
   all_goals (rw [relsOk_not (m := m) (by omega) (relStep_bad (by assumption) (by assumption))])
 ·
  have h1' := of_decide_eq_false h1
  refine t_exit rfl ?_
  refine tsr ?_
  refine r_op oM ?_
  refine r_op (o_len rfl rfl rfl) ?_
  refine r_op oB ?_
  refine r_op oA ?_
  refine r_end ?_
  refine t_ret Tryz.func51 (.tmp rfl .nil) rfl fun E S w u hI hd => ?_
  refine post_mk hI hd ?_ trivial rfl rfl rfl <;> clear hI hd <;> (try clear ih0)
  all_goals (rw [relsOk_end (m := m) i2 (by omega)]; exact scD (by omega))
set_option maxHeartbeats 1000000 in
set_option maxRecDepth 10000 in
theorem c_spec_IsValidAtom (rs : List (List UInt8 × Int × Bool)) (r : Int) (ts : List Int) (hrs : rs.length ≤ 4611686018427387904) (hts : ts.length ≤ 4611686018427387904) : Pu Tryz.prog 58 [.c (.t none (.sl 3 (enS3 encS encI encB) (rs))), .agg [.t none (.v (.int .i64 (r))), .t none (.sl 1 encI (ts))]] [] 0 (.c (.t none (.v (.bool (atomOk rs r ts))))) := by
 refine pu_enter Tryz.func58 rfl (Nat.le_of_ble_eq_true rfl) fun w S => ?_
 refine tsr ?_
 refine r_op (o_box 0 rfl rfl rfl rfl) ?_
 refine r_op oA ?_
 refine r_end ?_
 refine t_seq ?_
 refine t_seq ?_
 refine t_draw (fun _ => true) (by kernel_rfl) ?_
 refine dT 0 rfl pM ?_
 refine dO 1 rfl (o_call 1 1 false (Go.Proofs.enters_of Tryz.func51 (by kernel_rfl) rfl) (c_spec_AreValidRelations (rs) (by omega)) rfl (.cons rfl (.c .t0) .nil) rfl rfl rfl) ?_
 refine dT 2 rfl (p_not rfl) ?_
 refine dT 3 rfl pM ?_
 refine dH 4 rfl (fun _ => pF 0) (fun g1 => ?_) (fun g1 => ?_)
 ·
  have g1' := (bnf g1)
  refine dH 5 rfl (fun _ => pL) (fun _ => ?_) (ncf g1)
  refine dH 6 rfl (fun _ => pM) (fun _ => ?_) (ncf g1)
  refine dH 7 rfl (fun _ => p_len rfl rfl) (fun _ => ?_) (ncf g1)
  refine dH 8 rfl (fun _ => pB) (fun _ => ?_) (ncf g1)
  refine d_onlyG 9 rfl rfl (by kernel_rfl) rfl rfl rfl (fun _ => (o_call 1 1 false (Go.Proofs.enters_of Tryz.func56 (by kernel_rfl) rfl) (c_spec_l1In (r) (0) (IntKind.i64.wrap (((rs).length : Int) - 1))) rfl (.cons rfl (.c .t0) (.cons rfl (.c .t0) (.cons rfl (.c .t0) .nil))) rfl rfl rfl)) (fun _ => ?_) (ncf g1)
  refine dH 10 rfl (fun _ => p_not rfl) (fun _ => ?_) (ncf g1)
  refine dT 11 rfl (p_pickF rfl g1 rfl) ?_
  refine dT 12 rfl pM ?_
  refine dH 13 rfl (fun _ => pF 1) (fun g2 => ?_) (fun g2 => ?_)
  ·
   have g2' := of_decide_eq_true (bnf g2)
   refine dH 14 rfl (fun _ => pL) (fun _ => ?_) (ncf g2)
   refine dH 15 rfl (fun _ => p_len rfl rfl) (fun _ => ?_) (ncf g2)
   refine dH 16 rfl (fun _ => pM) (fun _ => ?_) (ncf g2)
   refine dH 17 rfl (fun _ => pF 0) (fun _ => ?_) (ncf g2)
   refine dH 18 rfl (fun _ => pL) (fun _ => ?_) (ncf g2)
   obtain ⟨z3, hz4, b5⟩ := at_get (xs := rs) (n := r) (by omega) (by (simp only [IntKind.wrap_i64] at *; omega))
   refine dH 19 rfl (fun _ => p_index (by kernel_rfl) rfl rfl b5 hz4) (fun _ => ?_) (ncf g2)
   refine dH 20 rfl (fun _ => p_field (off := 1) (by kernel_rfl) rfl) (fun _ => ?_) (ncf g2)
   refine dH 21 rfl (fun _ => p_load1 (by kernel_rfl) rfl rfl) (fun _ => ?_) (ncf g2)
   refine dH 22 rfl (fun _ => pB) (fun _ => ?_) (ncf g2)
   refine dT 23 rfl (p_pickF rfl g2 rfl) ?_
   refine d_end (by kernel_rfl) ?_
   refine t_cond rfl (fun h6 => ?_) (fun h6 => ?_)
   ·
    have h6' := of_decide_eq_true h6
    refine tsr ?_
    refine r_op oA ?_
    refine r_end ?_
    refine t_ret Tryz.func58 (.tmp rfl .nil) rfl fun E S w u hI hd => ?_
    refine post_mk hI hd ?_ trivial rfl rfl rfl <;> clear hI hd <;> (try clear ih0)
    all_goals (refine scB ?_; (rw [atom_no3 (by assumption) (by assumption)]; done))
   ·
    have h6' := of_decide_eq_false h6
    refine t_skip ?_
    refine t_seq ?_
    refine tsr ?_
    refine r_op oA ?_
    refine r_end ?_
    refine t_block ?_
    refine t_loopL (fun m => ⟨[(3, some (.c (.ptr 0 0))), (5, some (.c (.t none (.v (.int .i64 ((m : Int)))))))], [(0, some (.box [.t none (.v (.int .i64 (r))), .t none (.sl 1 encI (ts))]))], 1⟩ : Nat → St) (fun m => m ≤ ts.length ∧ ∀ j z, j < m → ts[j]? = some z → (fun t => !termOk t) z = false) (fun m => ts.length - m) 0 ⟨⟨rfl, ⟨rfl, trivial⟩⟩, ⟨rfl, trivial⟩, rfl⟩ (by exact ⟨Nat.zero_le _, fun j z h => by omega⟩) ?_
    rintro m hI ih0
    try dsimp only at hI ih0
    obtain ⟨i1, i2⟩ := hI
    refine t_seq ?_
    refine tsr ?_
    refine r_op oM ?_
    refine r_op (oF 1) ?_
    refine r_op oL ?_
    refine r_op (o_len rfl rfl rfl) ?_
    refine r_op oB ?_
    refine r_end ?_
    refine t_cond rfl (fun h7 => ?_) (fun h7 => ?_)
    ·
     have h7' := of_decide_eq_true h7
     refine t_skip ?_
     refine t_seq ?_
     refine t_block ?_
     refine tsr ?_
     refine r_op (oF 1) ?_
     refine r_op oL ?_
     refine r_op oM ?_
     obtain ⟨z8, hz9, b10⟩ := at_get (xs := ts) (n := (m : Int)) (by omega) (by omega)
     refine r_op (o_index rfl (by kernel_rfl) rfl rfl b10 hz9) ?_
     refine r_op (o_load1 rfl (by kernel_rfl) rfl rfl) ?_
     refine r_op (o_call 1 1 false (Go.Proofs.enters_of Tryz.func56 (by kernel_rfl) rfl) (c_spec_l1In (z8) (-10) (4)) rfl (.cons rfl (.c .t0) (.cons rfl (.c .t0) (.cons rfl (.c .t0) .nil))) rfl rfl rfl) ?_
     refine r_op (o_not rfl rfl) ?_
     refine r_end ?_
     refine t_cond rfl (fun h11 => ?_) (fun h11 => ?_)
     ·
      have h11' := of_decide_eq_false (bnt h11)
      refine tsr ?_
      refine r_op oA ?_
      refine r_end ?_
      refine t_ret Tryz.func58 (.tmp rfl .nil) rfl fun E S w u hI hd => ?_
      refine post_mk hI hd ?_ trivial rfl rfl rfl <;> clear hI hd <;> (try clear ih0)
      all_goals (refine scB ?_; (rw [atom_yes (by assumption) (by simp only [IntKind.wrap_i64] at *; omega) (by assumption) (by omega), any_true (p := fun t => !termOk t) (by assumption) (by simp only [termOk, Bool.not_eq_true']; exact decide_eq_false (by assumption))]; rfl))
     ·
      have h11' := of_decide_eq_true (bnf h11)
      refine t_skip ?_
      refine t_endblock ?_
      refine t_region ?_
      refine r_op oM ?_
      refine r_op oB ?_
      refine r_op oA ?_
      refine r_end ?_
      refine t_le ?_ (ih0 (m + 1) (by (try dsimp only); omega) (by (try dsimp only); exact ⟨by omega, no_step i2 (by assumption) rfl (by simp only [termOk, Bool.not_eq_false']; exact decide_eq_true (by assumption))⟩))
      exact ⟨⟨rfl, ⟨(eqI (wr64 (by omega) (by omega))), trivial⟩⟩, ⟨rfl, trivial⟩, rfl⟩
    ·
     have h7' := of_decide_eq_false h7
     refine t_exit rfl ?_
     refine tsr ?_
     refine r_op oA ?_
     refine r_end ?_
     refine t_ret Tryz.func58 (.tmp rfl .nil) rfl fun E S w u hI hd => ?_
     refine post_mk hI hd ?_ trivial rfl rfl rfl <;> clear hI hd <;> (try clear ih0)
     all_goals (refine scB ?_; (rw [atom_yes (by assumption) (by simp only [IntKind.wrap_i64] at *; omega) (by assumption) (by omega), any_false (p := fun t => !termOk t) i2 (by omega)]; rfl))
  ·
   have g2' := of_decide_eq_false (bnt g2)
   refine dG 14 (nc g2) (fun _ => ?_)
   refine dG 15 (nc g2) (fun _ => ?_)
   refine dG 16 (nc g2) (fun _ => ?_)
   refine dG 17 (nc g2) (fun _ => ?_)
   refine dG 18 (nc g2) (fun _ => ?_)
   refine dG 19 (nc g2) (fun _ => ?_)
   refine dG 20 (nc g2) (fun _ => ?_)
   refine dG 21 (nc g2) (fun _ => ?_)
   refine dG 22 (nc g2) (fun _ => ?_)
   refine dT 23 rfl (p_pickT rfl g2 rfl) ?_
   refine d_end (by kernel_rfl) ?_
   refine t_cond rfl (fun _ => ?_) (nc rfl)
   refine tsr ?_
   refine r_op oA ?_
   refine r_end ?_
   refine t_ret Tryz.func58 (.tmp rfl .nil) rfl fun E S w u hI hd => ?_
   refine post_mk hI hd ?_ trivial rfl rfl rfl <;> clear hI hd <;> (try clear ih0)
   all_goals (refine scB ?_; (rw [atom_no2 (by simp only [IntKind.wrap_i64] at *; omega)]; done))
 ·
  have g1' := (bnt g1)
  refine dG 5 (nc g1) (fun _ => ?_)
  refine dG 6 (nc g1) (fun _ => ?_)
  refine dG 7 (nc g1) (fun _ => ?_)
  refine dG 8 (nc g1) (fun _ => ?_)
  refine dG 9 (nc g1) (fun _ => ?_)
  refine dG 10 (nc g1) (fun _ => ?_)
  refine dT 11 rfl (p_pickT rfl g1 rfl) ?_
  refine dT 12 rfl pM ?_
  refine dG 13 (nc rfl) (fun _ => ?_)
  refine dG 14 (nc rfl) (fun _ => ?_)
  refine dG 15 (nc rfl) (fun _ => ?_)
  refine dG 16 (nc rfl) (fun _ => ?_)
  refine dG 17 (nc rfl) (fun _ => ?_)
  refine dG 18 (nc rfl) (fun _ => ?_)
  refine dG 19 (nc rfl) (fun _ => ?_)
  refine dG 20 (nc rfl) (fun _ => ?_)
  refine dG 21 (nc rfl) (fun _ => ?_)
  refine dG 22 (nc rfl) (fun _ => ?_)
  refine dT 23 rfl (p_pickT rfl rfl rfl) ?_
  refine d_end (by kernel_rfl) ?_
  refine t_cond rfl (fun _ => ?_) (nc rfl)
  refine tsr ?_
  refine r_op oA ?_
  refine r_end ?_
  refine t_ret Tryz.func58 (.tmp rfl .nil) rfl fun E S w u hI hd => ?_
  refine post_mk hI hd ?_ trivial rfl rfl rfl <;> clear hI hd <;> (try clear ih0)
  all_goals (refine scB ?_; (rw [atom_no1 (by assumption)]; done))
set_option maxHeartbeats 1000000 in
set_option maxRecDepth 10000 in
theorem c_spec_l4Put (U : Nat → Value) (l : List Int) (x : Int) (hl : l.length ≤ 1099511627776) : Mu Tryz.prog 84 [.c (.own 0), .c (.t none (.v (.int .i64 (x))))] [(0, some (.row (some (U 0)) 3 true 1 encI (l)))] 1 [(0, some (.row none 3 true 1 encI (putI l x)))] 1 (.c (.own 0)) := by
 refine mu_enter Tryz.func84 rfl (Nat.le_of_ble_eq_true rfl) fun w S M => ?_
 refine tsr ?_
 refine r_op oA ?_
 refine etr ?_
 refine r_op oA ?_
 refine r_end ?_
 refine t_seq ?_
 refine t_block ?_
 refine t_loopL (fun m => ⟨[(0, some (.c (.own 0))), (1, some (.c (.t none (.v (.int .i64 (x)))))), (4, some (.c (.t none (.v (.slice none 0 0))))), (5, some (.c (.t none (.v (.int .i64 ((m : Int)))))))], [(0, some (.row (some (U 0)) 3 true 1 encI (l)))], 1⟩ : Nat → St) (fun m => m ≤ l.length ∧ ∀ j y, j < m → l[j]? = some y → y < x) (fun m => l.length - m) 0 ⟨⟨rfl, ⟨rfl, ⟨rfl, ⟨rfl, trivial⟩⟩⟩⟩, ⟨rfl, trivial⟩, rfl⟩ (by exact ⟨Nat.zero_le _, fun j z h => by omega⟩) ?_
 rintro m hI ih0
 try dsimp only at hI ih0
 obtain ⟨i1, i2⟩ := hI
 refine t_seq ?_
 refine tsr ?_
 refine r_op oM ?_
 refine r_op oM ?_
 refine r_op (o_leno rfl rfl rfl rfl) ?_
 refine r_op oB ?_
 refine r_op oM ?_
 refine r_guard rfl rfl rfl (fun g1 => ?_) (fun g1 => ?_)
 ·
  have g1' := of_decide_eq_true g1
  refine r_op oM ?_
  refine r_guard rfl rfl rfl (fun _ => ?_) (nc g1)
  refine r_op oM ?_
  refine r_guard rfl rfl rfl (fun _ => ?_) (nc g1)
  obtain ⟨z2, hz3, b4⟩ := at_get (xs := l) (n := (m : Int)) (by omega) (by omega)
  refine r_op (o_indexo rfl (by kernel_rfl) rfl rfl rfl b4 (at_lt b4 hz3)) ?_
  refine r_guard rfl rfl rfl (fun _ => ?_) (nc g1)
  refine r_op (o_load1o rfl (by kernel_rfl) rfl rfl rfl hz3) ?_
  refine r_guard rfl rfl rfl (fun _ => ?_) (nc g1)
  refine r_op oM ?_
  refine r_guard rfl rfl rfl (fun _ => ?_) (nc g1)
  refine r_op oB ?_
  refine r_op (o_pickT rfl rfl g1 rfl) ?_
  refine r_end ?_
  refine t_cond rfl (fun h5 => ?_) (fun h5 => ?_)
  ·
   have h5' := of_decide_eq_true h5
   refine t_skip ?_
   refine t_block ?_
   refine t_region ?_
   refine r_op oM ?_
   refine r_op oB ?_
   refine r_op oA ?_
   refine r_end ?_
   refine t_endblock ?_
   refine t_le ?_ (ih0 (m + 1) (by (try dsimp only); omega) (by (try dsimp only); exact ⟨by omega, lt_step i2 (by assumption) rfl (by omega)⟩))
   exact ⟨⟨rfl, ⟨rfl, ⟨rfl, ⟨(eqI (wr64 (by omega) (by omega))), trivial⟩⟩⟩⟩, ⟨rfl, trivial⟩, rfl⟩
  ·
   have h5' := of_decide_eq_false h5
   refine t_exit rfl ?_
   refine t_seq ?_
   refine tsr ?_
   refine r_op oM ?_
   refine r_op oM ?_
   refine r_op (o_leno rfl rfl rfl rfl) ?_
   refine r_op oB ?_
   refine r_op oM ?_
   refine r_guard rfl rfl rfl (fun g6 => ?_) (fun g6 => ?_)
   ·
    have g6' := of_decide_eq_true g6
    refine r_op oM ?_
    refine r_guard rfl rfl rfl (fun _ => ?_) (nc g6)
    refine r_op oM ?_
    refine r_guard rfl rfl rfl (fun _ => ?_) (nc g6)
    refine r_op (o_indexo rfl (by kernel_rfl) rfl rfl rfl b4 (at_lt b4 hz3)) ?_
    refine r_guard rfl rfl rfl (fun _ => ?_) (nc g6)
    refine r_op (o_load1o rfl (by kernel_rfl) rfl rfl rfl hz3) ?_
    refine r_guard rfl rfl rfl (fun _ => ?_) (nc g6)
    refine r_op oM ?_
    refine r_guard rfl rfl rfl (fun _ => ?_) (nc g6)
    refine r_op oB ?_
    refine r_op (o_pickT rfl rfl g6 rfl) ?_
    refine r_end ?_
    refine t_cond rfl (fun h7 => ?_) (fun h7 => ?_)
    ·
     have h7' := of_decide_eq_true h7
     refine tsr ?_
     refine r_op oM ?_
     refine r_op oA ?_
     refine r_end ?_
     refine gt_unpin 0 rfl ?_
     refine t_ret Tryz.func84 (.tmp rfl .nil) rfl fun E S w u hI hd => ?_
     refine postM_mk hI hd ?_ ⟨eqR ?_, trivial⟩ rfl rfl <;> clear hI hd <;> (try clear ih0)
     all_goals first | rfl | ((rw [putI_there i2 (by assumption) (by omega)]; done))
    ·
     have h7' := of_decide_eq_false h7
     refine t_skip ?_
     refine tsr ?_
     refine r_op oM ?_
     refine r_op (o_lit1 1 (e := 3) (sz := 1) (zs := [.int .i64 (0)]) (enc := encI) (x) rfl rfl (by kernel_rfl) rfl rfl rfl rfl rfl rfl (.cons .sc .nil)) ?_
     refine r_op oM ?_
     refine r_op oM ?_
     refine r_op (o_subo rfl (by kernel_rfl) rfl rfl (.l rfl (by omega) (by omega))) ?_
     refine r_op (o_appendS 1 (e := 3) (sz := 1) (by' := 8) rfl (by kernel_rfl) rfl rfl rfl rfl (fun _ _ => ⟨_, rfl⟩) (by (simp only [List.length_append, List.length_take, List.length_drop, List.length_cons, List.length_nil]; omega)) (by (simp only [List.length_append, List.length_take, List.length_drop, List.length_cons, List.length_nil]; omega))) ?_
     refine r_op oA ?_
     refine etr ?_
     refine r_op (o_lit0 2 (e := 3) (sz := 1) (zs := [.int .i64 (0)]) encI rfl rfl (by kernel_rfl) rfl) ?_
     refine r_op oM ?_
     refine r_op oM ?_
     refine r_op (o_subo rfl (by kernel_rfl) rfl rfl (.h rfl (by omega) (by omega))) ?_
     refine r_op (o_appendS 2 (e := 3) (sz := 1) (by' := 8) rfl (by kernel_rfl) rfl rfl rfl rfl (fun _ _ => ⟨_, rfl⟩) (by (simp only [List.length_append, List.length_take, List.length_drop, List.length_cons, List.length_nil]; omega)) (by (simp only [List.length_append, List.length_take, List.length_drop, List.length_cons, List.length_nil]; omega))) ?_
     refine r_op oM ?_
     refine r_op (o_appendO 2 (e := 3) (sz := 1) (by' := 8) rfl (by kernel_rfl) rfl rfl rfl rfl rfl (by decide) (fun _ _ => ⟨_, rfl⟩) (by (simp only [List.length_append, List.length_take, List.length_drop, List.length_cons, List.length_nil]; omega)) (by (simp only [List.length_append, List.length_take, List.length_drop, List.length_cons, List.length_nil]; omega))) ?_
     refine r_op oA ?_
     refine r_end ?_
     refine gt_as0 4 2 rfl rfl ?_
     refine t_ret Tryz.func84 (.tmp rfl .nil) rfl fun E S w u hI hd => ?_
     refine postM_mk hI hd ?_ ⟨eqR ?_, trivial⟩ rfl rfl <;> clear hI hd <;> (try clear ih0)
     all_goals first | rfl | ((rw [putI_new i2 i1 (fun y hy => by (have e7 := Option.some.inj (hy.symm.trans hz3); omega))]; simp))
   ·
    have g6' := of_decide_eq_false g6
    refine r_guard rfl rfl rfl (ncf g6) (fun _ => ?_)
    refine r_guard rfl rfl rfl (ncf g6) (fun _ => ?_)
    refine r_guard rfl rfl rfl (ncf g6) (fun _ => ?_)
    refine r_guard rfl rfl rfl (ncf g6) (fun _ => ?_)
    refine r_guard rfl rfl rfl (ncf g6) (fun _ => ?_)
    refine r_op (o_pickF rfl rfl g6 rfl) ?_
    refine r_end ?_
    refine t_cond rfl (ncf rfl) (fun _ => ?_)
    refine t_skip ?_
    refine tsr ?_
    refine r_op oM ?_
    refine r_op (o_lit1 1 (e := 3) (sz := 1) (zs := [.int .i64 (0)]) (enc := encI) (x) rfl rfl (by kernel_rfl) rfl rfl rfl rfl rfl rfl (.cons .sc .nil)) ?_
    refine r_op oM ?_
    refine r_op oM ?_
    refine r_op (o_subo rfl (by kernel_rfl) rfl rfl (.l rfl (by omega) (by omega))) ?_
    refine r_op (o_appendS 1 (e := 3) (sz := 1) (by' := 8) rfl (by kernel_rfl) rfl rfl rfl rfl (fun _ _ => ⟨_, rfl⟩) (by omega) (by omega)) ?_
    refine r_op oA ?_
    refine etr ?_
    refine r_op (o_lit0 2 (e := 3) (sz := 1) (zs := [.int .i64 (0)]) encI rfl rfl (by kernel_rfl) rfl) ?_
    refine r_op oM ?_
    refine r_op oM ?_
    refine r_op (o_subo rfl (by kernel_rfl) rfl rfl (.h rfl (by omega) (by omega))) ?_
    refine r_op (o_appendS 2 (e := 3) (sz := 1) (by' := 8) rfl (by kernel_rfl) rfl rfl rfl rfl (fun _ _ => ⟨_, rfl⟩) (by omega) (by omega)) ?_
    refine r_op oM ?_
    refine r_op (o_appendO 2 (e := 3) (sz := 1) (by' := 8) rfl (by kernel_rfl) rfl rfl rfl rfl rfl (by decide) (fun _ _ => ⟨_, rfl⟩) (by omega) (by omega)) ?_
    refine r_op oA ?_
    refine r_end ?_
    refine gt_as0 4 2 rfl rfl ?_
    refine t_ret Tryz.func84 (.tmp rfl .nil) rfl fun E S w u hI hd => ?_
    refine postM_mk hI hd ?_ ⟨eqR ?_, trivial⟩ rfl rfl <;> clear hI hd <;> (try clear ih0)
    all_goals first | rfl | ((rw [putI_new i2 i1 (fun y hy => by (have e7 := Option.some.inj (hy.symm.trans hz3); omega))]; simp))
 ·
  have g1' := of_decide_eq_false g1
  refine r_guard rfl rfl rfl (ncf g1) (fun _ => ?_)
  refine r_guard rfl rfl rfl (ncf g1) (fun _ => ?_)
  refine r_guard rfl rfl rfl (ncf g1) (fun _ => ?_)
  refine r_guard rfl rfl rfl (ncf g1) (fun _ => ?_)
  refine r_guard rfl rfl rfl (ncf g1) (fun _ => ?_)
  refine r_op (o_pickF rfl rfl g1 rfl) ?_
  refine r_end ?_
  refine t_cond rfl (ncf rfl) (fun _ => ?_)
  refine t_exit rfl ?_
  refine t_seq ?_
  refine tsr ?_
  refine r_op oM ?_
  refine r_op oM ?_
  refine r_op (o_leno rfl rfl rfl rfl) ?_
  refine r_op oB ?_
  refine r_op oM ?_
  refine r_guard rfl rfl rfl (fun g8 => ?_) (fun g8 => ?_)
  ·
   have g8' := of_decide_eq_true g8
   refine r_op oM ?_
   refine r_guard rfl rfl rfl (fun _ => ?_) (nc g8)
   refine r_op oM ?_
   refine r_guard rfl rfl rfl (fun _ => ?_) (nc g8)
   obtain ⟨z9, hz10, b11⟩ := at_get (xs := l) (n := (m : Int)) (by omega) (by omega)
   refine r_op (o_indexo rfl (by kernel_rfl) rfl rfl rfl b11 (at_lt b11 hz10)) ?_
   refine r_guard rfl rfl rfl (fun _ => ?_) (nc g8)
   refine r_op (o_load1o rfl (by kernel_rfl) rfl rfl rfl hz10) ?_
   refine r_guard rfl rfl rfl (fun _ => ?_) (nc g8)
   refine r_op oM ?_
   refine r_guard rfl rfl rfl (fun _ => ?_) (nc g8)
   refine r_op oB ?_
   refine r_op (o_pickT rfl rfl g8 rfl) ?_
   refine r_end ?_
   refine t_cond rfl (fun h12 => ?_) (fun h12 => ?_)
   ·
    have h12' := of_decide_eq_true h12
    refine tsr ?_
    refine r_op oM ?_
    refine r_op oA ?_
    refine r_end ?_
    refine gt_unpin 0 rfl ?_
    refine t_ret Tryz.func84 (.tmp rfl .nil) rfl fun E S w u hI hd => ?_
    refine postM_mk hI hd ?_ ⟨eqR ?_, trivial⟩ rfl rfl <;> clear hI hd <;> (try clear ih0)
    all_goals first | rfl | ((rw [putI_there i2 (by assumption) (by omega)]; done))
   ·
    have h12' := of_decide_eq_false h12
    refine t_skip ?_
    refine tsr ?_
    refine r_op oM ?_
    refine r_op (o_lit1 1 (e := 3) (sz := 1) (zs := [.int .i64 (0)]) (enc := encI) (x) rfl rfl (by kernel_rfl) rfl rfl rfl rfl rfl rfl (.cons .sc .nil)) ?_
    refine r_op oM ?_
    refine r_op oM ?_
    refine r_op (o_subo rfl (by kernel_rfl) rfl rfl (.l rfl (by omega) (by omega))) ?_
    refine r_op (o_appendS 1 (e := 3) (sz := 1) (by' := 8) rfl (by kernel_rfl) rfl rfl rfl rfl (fun _ _ => ⟨_, rfl⟩) (by omega) (by omega)) ?_
    refine r_op oA ?_
    refine etr ?_
    refine r_op (o_lit0 2 (e := 3) (sz := 1) (zs := [.int .i64 (0)]) encI rfl rfl (by kernel_rfl) rfl) ?_
    refine r_op oM ?_
    refine r_op oM ?_
    refine r_op (o_subo rfl (by kernel_rfl) rfl rfl (.h rfl (by omega) (by omega))) ?_
    refine r_op (o_appendS 2 (e := 3) (sz := 1) (by' := 8) rfl (by kernel_rfl) rfl rfl rfl rfl (fun _ _ => ⟨_, rfl⟩) (by omega) (by omega)) ?_
    refine r_op oM ?_
    refine r_op (o_appendO 2 (e := 3) (sz := 1) (by' := 8) rfl (by kernel_rfl) rfl rfl rfl rfl rfl (by decide) (fun _ _ => ⟨_, rfl⟩) (by omega) (by omega)) ?_
    refine r_op oA ?_
    refine r_end ?_
    refine gt_as0 4 2 rfl rfl ?_
    refine t_ret Tryz.func84 (.tmp rfl .nil) rfl fun E S w u hI hd => ?_
    refine postM_mk hI hd ?_ ⟨eqR ?_, trivial⟩ rfl rfl <;> clear hI hd <;> (try clear ih0)
    all_goals first | rfl | ((rw [putI_new i2 i1 (fun y hy => by (have e7 := Option.some.inj (hy.symm.trans hz10); omega))]; simp))
  ·
   have g8' := of_decide_eq_false g8
   refine r_guard rfl rfl rfl (ncf g8) (fun _ => ?_)
   refine r_guard rfl rfl rfl (ncf g8) (fun _ => ?_)
   refine r_guard rfl rfl rfl (ncf g8) (fun _ => ?_)
   refine r_guard rfl rfl rfl (ncf g8) (fun _ => ?_)
   refine r_guard rfl rfl rfl (ncf g8) (fun _ => ?_)
   refine r_op (o_pickF rfl rfl g8 rfl) ?_
   refine r_end ?_
   refine t_cond rfl (ncf rfl) (fun _ => ?_)
   refine t_skip ?_
   refine tsr ?_
   refine r_op oM ?_
   refine r_op (o_lit1 1 (e := 3) (sz := 1) (zs := [.int .i64 (0)]) (enc := encI) (x) rfl rfl (by kernel_rfl) rfl rfl rfl rfl rfl rfl (.cons .sc .nil)) ?_
   refine r_op oM ?_
   refine r_op oM ?_
   refine r_op (o_subo rfl (by kernel_rfl) rfl rfl (.l rfl (by omega) (by omega))) ?_
   refine r_op (o_appendS 1 (e := 3) (sz := 1) (by' := 8) rfl (by kernel_rfl) rfl rfl rfl rfl (fun _ _ => ⟨_, rfl⟩) (by (simp only [List.length_append, List.length_take, List.length_drop, List.length_cons, List.length_nil]; omega)) (by (simp only [List.length_append, List.length_take, List.length_drop, List.length_cons, List.length_nil]; omega))) ?_
   refine r_op oA ?_
   refine etr ?_
   refine r_op (o_lit0 2 (e := 3) (sz := 1) (zs := [.int .i64 (0)]) encI rfl rfl (by kernel_rfl) rfl) ?_
   refine r_op oM ?_
   refine r_op oM ?_
   refine r_op (o_subo rfl (by kernel_rfl) rfl rfl (.h rfl (by omega) (by omega))) ?_
   refine r_op (o_appendS 2 (e := 3) (sz := 1) (by' := 8) rfl (by kernel_rfl) rfl rfl rfl rfl (fun _ _ => ⟨_, rfl⟩) (by (simp only [List.length_append, List.length_take, List.length_drop, List.length_cons, List.length_nil]; omega)) (by (simp only [List.length_append, List.length_take, List.length_drop, List.length_cons, List.length_nil]; omega))) ?_
   refine r_op oM ?_
   refine r_op (o_appendO 2 (e := 3) (sz := 1) (by' := 8) rfl (by kernel_rfl) rfl rfl rfl rfl rfl (by decide) (fun _ _ => ⟨_, rfl⟩) (by (simp only [List.length_append, List.length_take, List.length_drop, List.length_cons, List.length_nil]; omega)) (by (simp only [List.length_append, List.length_take, List.length_drop, List.length_cons, List.length_nil]; omega))) ?_
   refine r_op oA ?_
   refine r_end ?_
   refine gt_as0 4 2 rfl rfl ?_
   refine t_ret Tryz.func84 (.tmp rfl .nil) rfl fun E S w u hI hd => ?_
   refine postM_mk hI hd ?_ ⟨eqR ?_, trivial⟩ rfl rfl <;> clear hI hd <;> (try clear ih0)
   all_goals first | rfl | ((rw [putI_new i2 i1 (fun y hy => by (have e7 := (List.getElem?_eq_some_iff.1 hy).1; omega))]; simp))
set_option maxHeartbeats 1000000 in
set_option maxRecDepth 10000 in
theorem c_spec_Variables (l : List (Int × List Int)) (hl : szS (fun (x : Int × (List (Int))) => (x.2).length) l ≤ 1048600) : Pu Tryz.prog 59 [.c (.t none (.sl 2 (enS2 encI (enSl 1 encI)) (l)))] [(0, some (.row none 3 true 1 encI (setI (varsL l))))] 1 (.c (.own 0)) := by
 refine pu_enter Tryz.func59 rfl (Nat.le_of_ble_eq_true rfl) fun w S => ?_
 have gl := sz_len (f := (fun (x : Int × (List (Int))) => (x.2).length)) (l := l); have gv := varsL_size l
 refine tsr ?_
 refine r_op oA ?_
 refine etr ?_
 refine r_op (o_lit0 0 (e := 3) (sz := 1) (zs := [.int .i64 (0)]) encI rfl rfl (by kernel_rfl) rfl) ?_
 refine r_op oA ?_
 refine r_end ?_
 refine t_seq ?_
 refine tsr ?_
 refine r_op oA ?_
 refine r_end ?_
 refine t_block ?_
 refine t_loopL (fun m => ⟨[(0, some (.c (.t none (.sl 2 (enS2 encI (enSl 1 encI)) (l))))), (2, some (.c (.t none (.v (.slice none 0 0))))), (3, some (.c (.own 0))), (4, some (.c (.t none (.v (.int .i64 ((m : Int)))))))], [(0, some (.row none 3 true 1 encI (setI (varsL (l.take m)))))], 1⟩ : Nat → St) (fun m => m ≤ l.length) (fun m => l.length - m) 0 ⟨⟨rfl, ⟨rfl, ⟨rfl, ⟨rfl, trivial⟩⟩⟩⟩, ⟨rfl, trivial⟩, rfl⟩ (by exact Nat.zero_le _) ?_
 rintro m hI ih0
 try dsimp only at hI ih0
 have i1 := hI
 refine t_seq ?_
 refine tsr ?_
 refine r_op oM ?_
 refine r_op oM ?_
 refine r_op (o_len rfl rfl rfl) ?_
 refine r_op oB ?_
 refine r_end ?_
 refine t_cond rfl (fun h1 => ?_) (fun h1 => ?_)
 ·
  have h1' := of_decide_eq_true h1
  refine t_skip ?_
  refine t_seq ?_
  refine t_block ?_
  refine tsr ?_
  refine r_op oA ?_
  refine r_end ?_
  refine t_block ?_
  refine t_loopL (fun n => ⟨[(0, some (.c (.t none (.sl 2 (enS2 encI (enSl 1 encI)) (l))))), (2, some (.c (.t none (.v (.slice none 0 0))))), (3, some (.c (.own 0))), (4, some (.c (.t none (.v (.int .i64 ((m : Int))))))), (5, some (.c (.t none (.v (.int .i64 ((n : Int)))))))], [(0, some (.row none 3 true 1 encI (setI (varsL (l.take m) ++ nonneg ((l.getD m (0, [])).2.take n)))))], 1⟩ : Nat → St) (fun n => n ≤ (l.getD m (0, [])).2.length) (fun n => (l.getD m (0, [])).2.length - n) 0 ⟨⟨rfl, ⟨rfl, ⟨rfl, ⟨rfl, ⟨rfl, trivial⟩⟩⟩⟩⟩, ⟨(eqR (by rw [nonneg_zero, List.append_nil])), trivial⟩, rfl⟩ (by exact Nat.zero_le _) ?_
  rintro n hI ih1
  try dsimp only at hI ih1
  have j1 := hI; have hzv := getA_get (l := l) (m := m) (by omega); have vp := varsL_part (n := n) hzv; (have e1 := sz_at (f := (fun (x : Int × (List (Int))) => (x.2).length)) (l := l) (m := m) hzv; (try dsimp only at e1)); have sl := setI_len (varsL (l.take m) ++ nonneg ((l.getD m (0, [])).2.take n)); rw [List.length_append] at sl
  refine t_seq ?_
  refine tsr ?_
  refine r_op oM ?_
  refine r_op oM ?_
  refine r_op oM ?_
  obtain ⟨z2, hz3, b4⟩ := at_get (xs := l) (n := (m : Int)) (by omega) (by omega)
  refine r_op (o_index rfl (by kernel_rfl) rfl rfl b4 hz3) ?_
  refine r_op (o_field rfl (off := 1) (by kernel_rfl) rfl) ?_
  refine r_op (o_load1 rfl (by kernel_rfl) rfl rfl) ?_
  refine r_op (o_len rfl rfl rfl) ?_
  refine r_op oB ?_
  refine r_end ?_
  refine t_cond rfl (fun h5 => ?_) (fun h5 => ?_)
  ·
   have h5' := of_decide_eq_true h5
   refine t_skip ?_
   refine t_seq ?_
   refine t_block ?_
   refine tsr ?_
   refine r_op oM ?_
   refine r_op oM ?_
   refine r_op (o_index rfl (by kernel_rfl) rfl rfl b4 hz3) ?_
   refine r_op (o_field rfl (off := 1) (by kernel_rfl) rfl) ?_
   refine r_op (o_load1 rfl (by kernel_rfl) rfl rfl) ?_
   refine r_op oM ?_
   obtain ⟨z6, hz7, b8⟩ := at_get (xs := z2.2) (n := (n : Int)) (by omega) (by omega)
   refine r_op (o_index rfl (by kernel_rfl) rfl rfl b8 hz7) ?_
   refine r_op (o_load1 rfl (by kernel_rfl) rfl rfl) ?_
   refine r_op oB ?_
   refine r_end ?_
   refine t_cond rfl (fun h9 => ?_) (fun h9 => ?_)
   ·
    have h9' := of_decide_eq_true h9
    refine t_region ?_
    refine r_op oM ?_
    refine r_op oM ?_
    refine r_op oM ?_
    refine r_op (o_index rfl (by kernel_rfl) rfl rfl b4 hz3) ?_
    refine r_op (o_field rfl (off := 1) (by kernel_rfl) rfl) ?_
    refine r_op (o_load1 rfl (by kernel_rfl) rfl rfl) ?_
    refine r_op oM ?_
    refine r_op (o_index rfl (by kernel_rfl) rfl rfl b8 hz7) ?_
    refine r_op (o_load1 rfl (by kernel_rfl) rfl rfl) ?_
    refine r_op (o_callC 0 (l' := putI (setI (varsL (l.take m) ++ nonneg ((l.getD m (0, [])).2.take n))) (z6)) (Go.Proofs.enters_of Tryz.func84 (by kernel_rfl) rfl) (fun U => c_spec_l4Put U  (setI (varsL (l.take m) ++ nonneg ((l.getD m (0, [])).2.take n))) (z6) (by omega)) rfl rfl (.cons rfl (.own rfl) (.cons rfl .t0 .nil))) ?_
    refine r_op oA ?_
    refine r_end ?_
    refine t_endblock ?_
    refine t_region ?_
    refine r_op oM ?_
    refine r_op oB ?_
    refine r_op oA ?_
    refine r_end ?_
    have gd3 := Option.some.inj (hzv.symm.trans hz3); have gd4 := congrArg (fun q => q.2.length) gd3; (try dsimp only at gd4); have hx9 : (l.getD m (0, [])).2[n]? = some z6 := by rw [gd3]; exact hz7
    refine t_le ?_ (ih1 (n + 1) (by (try dsimp only); omega) (by (try dsimp only); omega))
    exact ⟨⟨rfl, ⟨rfl, ⟨rfl, ⟨rfl, ⟨(eqI (wr64 (by omega) (by omega))), trivial⟩⟩⟩⟩⟩, ⟨(eqR (by (rw [nonneg_more hx9 (by omega), ← List.append_assoc, setI_snoc]; done))), trivial⟩, rfl⟩
   ·
    have h9' := of_decide_eq_false h9
    refine t_skip ?_
    refine t_endblock ?_
    refine t_region ?_
    refine r_op oM ?_
    refine r_op oB ?_
    refine r_op oA ?_
    refine r_end ?_
    have gd3 := Option.some.inj (hzv.symm.trans hz3); have gd4 := congrArg (fun q => q.2.length) gd3; (try dsimp only at gd4); have hx9 : (l.getD m (0, [])).2[n]? = some z6 := by rw [gd3]; exact hz7
    refine t_le ?_ (ih1 (n + 1) (by (try dsimp only); omega) (by (try dsimp only); omega))
    exact ⟨⟨rfl, ⟨rfl, ⟨rfl, ⟨rfl, ⟨(eqI (wr64 (by omega) (by omega))), trivial⟩⟩⟩⟩⟩, ⟨(eqR (by (rw [nonneg_same hx9 (by omega)]; done))), trivial⟩, rfl⟩
  ·
   have h5' := of_decide_eq_false h5
   refine t_exit rfl ?_
   refine t_endblock ?_
   refine t_region ?_
   refine r_op oM ?_
   refine r_op oB ?_
   refine r_op oA ?_
   refine r_end ?_
   have gd3 := Option.some.inj (hzv.symm.trans hz3)
   refine t_le ?_ (ih0 (m + 1) (by (try dsimp only); omega) (by (try dsimp only); omega))
   exact ⟨⟨rfl, ⟨rfl, ⟨rfl, ⟨(eqI (wr64 (by omega) (by omega))), trivial⟩⟩⟩⟩, ⟨(eqR (by rw [varsL_step hzv, gd3]; congr 3; exact List.take_of_length_le (by rw [gd3] at j1; omega))), trivial⟩, rfl⟩
 ·
  have h1' := of_decide_eq_false h1
  refine t_exit rfl ?_
  refine tsr ?_
  refine r_op oM ?_
  refine r_op oA ?_
  refine r_end ?_
  refine t_ret Tryz.func59 (.tmp rfl .nil) rfl fun E S w u hI hd => ?_
  refine post_mk hI hd ?_ ⟨eqR ?_, trivial⟩ rfl rfl rfl <;> clear hI hd <;> (try clear ih0) <;> (try clear ih1)
  all_goals first | rfl | ((rw [varsL_end (by omega)]))
set_option maxHeartbeats 1000000 in
set_option maxRecDepth 10000 in
theorem c_spec_l4Has (l : List Int) (v : Int) (hl : l.length ≤ 4611686018427387904) : Pu Tryz.prog 60 [.c (.t none (.sl 1 encI (l))), .c (.t none (.v (.int .i64 (v))))] [] 0 (.c (.t none (.v (.bool (hasI l v))))) := by
 refine pu_enter Tryz.func60 rfl (Nat.le_of_ble_eq_true rfl) fun w S => ?_
 refine tsr ?_
 refine r_op oA ?_
 refine r_end ?_
 refine t_seq ?_
 refine tsr ?_
 refine r_op oA ?_
 refine r_end ?_
 refine t_block ?_
 refine t_loopL (fun m => ⟨[(0, some (.c (.t none (.sl 1 encI (l))))), (1, some (.c (.t none (.v (.int .i64 (v)))))), (5, some (.c (.t none (.v (.int .i64 ((m : Int)))))))], [], 0⟩ : Nat → St) (fun m => m ≤ l.length ∧ ∀ j z, j < m → l[j]? = some z → (fun y => decide (y = v)) z = false) (fun m => l.length - m) 0 ⟨⟨rfl, ⟨rfl, ⟨rfl, trivial⟩⟩⟩, trivial, rfl⟩ (by exact ⟨Nat.zero_le _, fun j z h => by omega⟩) ?_
 rintro m hI ih0
 try dsimp only at hI ih0
 obtain ⟨i1, i2⟩ := hI
 refine t_seq ?_
 refine tsr ?_
 refine r_op oM ?_
 refine r_op oM ?_
 refine r_op (o_len rfl rfl rfl) ?_
 refine r_op oB ?_
 refine r_end ?_
 refine t_cond rfl (fun h1 => ?_) (fun h1 => ?_)
 ·
  have h1' := of_decide_eq_true h1
  refine t_skip ?_
  refine t_seq ?_
  refine t_block ?_
  refine tsr ?_
  refine r_op oM ?_
  refine r_op oM ?_
  obtain ⟨z2, hz3, b4⟩ := at_get (xs := l) (n := (m : Int)) (by omega) (by omega)
  refine r_op (o_index rfl (by kernel_rfl) rfl rfl b4 hz3) ?_
  refine r_op (o_load1 rfl (by kernel_rfl) rfl rfl) ?_
  refine r_op oM ?_
  refine r_op oB ?_
  refine r_end ?_
  refine t_cond rfl (fun h5 => ?_) (fun h5 => ?_)
  ·
   have h5' := of_decide_eq_true h5
   refine tsr ?_
   refine r_op oA ?_
   refine r_end ?_
   refine t_ret Tryz.func60 (.tmp rfl .nil) rfl fun E S w u hI hd => ?_
   refine post_mk hI hd ?_ trivial rfl rfl rfl <;> clear hI hd <;> (try clear ih0)
   all_goals (refine scB ?_; exact (any_true (p := fun y => decide (y = v)) (by assumption) (decide_eq_true (by omega))).symm)
  ·
   have h5' := of_decide_eq_false h5
   refine t_skip ?_
   refine t_endblock ?_
   refine t_region ?_
   refine r_op oM ?_
   refine r_op oB ?_
   refine r_op oA ?_
   refine r_end ?_
   refine t_le ?_ (ih0 (m + 1) (by (try dsimp only); omega) (by (try dsimp only); exact ⟨by omega, no_step i2 (by assumption) rfl (decide_eq_false (by omega))⟩))
   exact ⟨⟨rfl, ⟨rfl, ⟨(eqI (wr64 (by omega) (by omega))), trivial⟩⟩⟩, trivial, rfl⟩
 ·
  have h1' := of_decide_eq_false h1
  refine t_exit rfl ?_
  refine tsr ?_
  refine r_op oA ?_
  refine r_end ?_
  refine t_ret Tryz.func60 (.tmp rfl .nil) rfl fun E S w u hI hd => ?_
  refine post_mk hI hd ?_ trivial rfl rfl rfl <;> clear hI hd <;> (try clear ih0)
  all_goals (refine scB ?_; exact (any_false (p := fun y => decide (y = v)) i2 (by omega)).symm)
set_option maxHeartbeats 1000000 in
set_option maxRecDepth 10000 in
theorem c_spec_IsValidDependency (rs : Rels) (a0 : List (Int × (List (Int)))) (a1 : List (Int × (List (Int)))) (a2 : Bool) (a3 : Int) (a4 : Int) (hrs : rs.length ≤ 4611686018427387904) (hs : szS (fun (x : Int × (List (Int))) => (x.2).length) a0 + szS (fun (x : Int × (List (Int))) => (x.2).length) a1 ≤ 1048600) : Pu Tryz.prog 40 [.c (.t none (.sl 3 (enS3 encS encI encB) (rs))), .agg [.t none (.sl 2 (enS2 encI (enSl 1 encI)) (a0)), .t none (.sl 2 (enS2 encI (enSl 1 encI)) (a1)), .t none (.v (.bool (a2))), .t none (.v (.int .i64 (a3))), .t none (.v (.int .i64 (a4)))]] [] 0 (.c (.t none (.v (.bool (depOk rs a0 a1 a2 a3 a4))))) := by
 refine pu_enter Tryz.func40 rfl (Nat.le_of_ble_eq_true rfl) fun w S => ?_
 have g0 := sz_len (f := (fun (x : Int × (List (Int))) => (x.2).length)) (l := a0); have g1 := sz_len (f := (fun (x : Int × (List (Int))) => (x.2).length)) (l := a1); have v0 := setI_len (varsL a0); have v1 := varsL_size a0
 refine tsr ?_
 refine r_op (o_box 0 rfl rfl rfl rfl) ?_
 refine r_op oA ?_
 refine r_end ?_
 refine t_seq ?_
 refine tsr ?_
 refine r_op (oF 0) ?_
 refine r_op oL ?_
 refine r_op (o_len rfl rfl rfl) ?_
 refine r_op (o_call 1 1 false (Go.Proofs.enters_of Tryz.func56 (by kernel_rfl) rfl) (c_spec_l1In (((a0).length : Int)) (1) (2)) rfl (.cons rfl (.c .t0) (.cons rfl (.c .t0) (.cons rfl (.c .t0) .nil))) rfl rfl rfl) ?_
 refine r_op (o_not rfl rfl) ?_
 refine r_end ?_
 refine t_cond rfl (fun h1 => ?_) (fun h1 => ?_)
 ·
  have h1' := of_decide_eq_false (bnt h1)
  refine tsr ?_
  refine r_op oA ?_
  refine r_end ?_
  refine t_ret Tryz.func40 (.tmp rfl .nil) rfl fun E S w u hI hd => ?_
  refine post_mk hI hd ?_ trivial rfl rfl rfl <;> clear hI hd <;> (try clear ih0) <;> (try clear ih1)
  all_goals (refine scB ?_; (try (have qA := iA (by omega))); (try (have qK := kA (by omega))); (try (have qB := any_true (p := badA rs) (l := a0) (m := m) (by assumption) (by unfold badA; grind))); (try (have qC := any_true (p := badA rs) (l := a1) (m := n) (by assumption) (by unfold badA; grind))); (try (have qS := srcA_at (rs := rs) (r := (by assumption).1) (ts := (by assumption).2) (by assumption); have qD := any_true (p := srcA rs) (l := a1) (m := n) (by assumption) (by grind))); clear hs g0 g1 v0 v1; unfold depOk atomsOk; grind)
 ·
  have h1' := of_decide_eq_true (bnf h1)
  refine t_skip ?_
  refine t_seq ?_
  refine tsr ?_
  refine r_op oA ?_
  refine r_end ?_
  refine t_block ?_
  refine t_loopL (fun m => ⟨[(0, some (.c (.t none (.sl 3 (enS3 encS encI encB) (rs))))), (3, some (.c (.ptr 0 0))), (5, some (.c (.t none (.v (.int .i64 ((m : Int)))))))], [(0, some (.box [.t none (.sl 2 (enS2 encI (enSl 1 encI)) (a0)), .t none (.sl 2 (enS2 encI (enSl 1 encI)) (a1)), .t none (.v (.bool (a2))), .t none (.v (.int .i64 (a3))), .t none (.v (.int .i64 (a4)))]))], 1⟩ : Nat → St) (fun m => m ≤ a0.length ∧ ∀ j z, j < m → a0[j]? = some z → badA rs z = false) (fun m => a0.length - m) 0 ⟨⟨rfl, ⟨rfl, ⟨rfl, trivial⟩⟩⟩, ⟨rfl, trivial⟩, rfl⟩ (by exact ⟨Nat.zero_le _, fun j z h => by omega⟩) ?_
  rintro m hI ih0
  try dsimp only at hI ih0
  obtain ⟨i1, i2⟩ := hI; have iA : a0.length ≤ m → a0.any (badA rs) = false := fun e => any_false i2 e
  refine t_seq ?_
  refine tsr ?_
  refine r_op oM ?_
  refine r_op (oF 0) ?_
  refine r_op oL ?_
  refine r_op (o_len rfl rfl rfl) ?_
  refine r_op oB ?_
  refine r_end ?_
  refine t_cond rfl (fun h2 => ?_) (fun h2 => ?_)
  ·
   have h2' := of_decide_eq_true h2
   refine t_skip ?_
   refine t_seq ?_
   refine t_block ?_
   refine tsr ?_
   refine r_op oM ?_
   refine r_op (oF 0) ?_
   refine r_op oL ?_
   refine r_op oM ?_
   obtain ⟨z3, hz4, b5⟩ := at_get (xs := a0) (n := (m : Int)) (by omega) (by omega)
   refine r_op (o_index rfl (by kernel_rfl) rfl rfl b5 hz4) ?_
   refine r_op (o_loadA rfl (n := 2) (by kernel_rfl) (by kernel_rfl) rfl rfl) ?_
   refine r_op (o_call 1 1 false (Go.Proofs.enters_of Tryz.func58 (by kernel_rfl) rfl) (c_spec_IsValidAtom (rs) (z3.1) (z3.2) (by omega) (by (have e1 := sz_at (f := (fun (x : Int × (List (Int))) => (x.2).length)) (l := a0) (m := m) (by assumption); (try dsimp only at e1); omega))) rfl (.cons rfl (.c .t0) (.cons rfl (.agg (.cons .t0 (.cons .t0 .nil))) .nil)) rfl rfl rfl) ?_
   refine r_op (o_not rfl rfl) ?_
   refine r_end ?_
   refine t_cond rfl (fun h6 => ?_) (fun h6 => ?_)
   ·
    have h6' := (bnt h6)
    refine tsr ?_
    refine r_op oA ?_
    refine r_end ?_
    refine t_ret Tryz.func40 (.tmp rfl .nil) rfl fun E S w u hI hd => ?_
    refine post_mk hI hd ?_ trivial rfl rfl rfl <;> clear hI hd <;> (try clear ih0) <;> (try clear ih1)
    all_goals (refine scB ?_; (try (have qA := iA (by omega))); (try (have qK := kA (by omega))); (try (have qB := any_true (p := badA rs) (l := a0) (m := m) hz4 (by unfold badA; grind))); (try (have qC := any_true (p := badA rs) (l := a1) (m := n) hz4 (by unfold badA; grind))); (try (have qS := srcA_at (rs := rs) (r := z3.1) (ts := z3.2) (by assumption); have qD := any_true (p := srcA rs) (l := a1) (m := n) hz4 (by grind))); clear hs g0 g1 v0 v1; unfold depOk atomsOk; grind)
   ·
    have h6' := (bnf h6)
    refine t_skip ?_
    refine t_endblock ?_
    refine t_region ?_
    refine r_op oM ?_
    refine r_op oB ?_
    refine r_op oA ?_
    refine r_end ?_
    refine t_le ?_ (ih0 (m + 1) (by (try dsimp only); omega) (by (try dsimp only); exact ⟨by omega, no_step i2 (by assumption) rfl (by unfold badA; grind)⟩))
    exact ⟨⟨rfl, ⟨rfl, ⟨(eqI (wr64 (by omega) (by omega))), trivial⟩⟩⟩, ⟨rfl, trivial⟩, rfl⟩
  ·
   have h2' := of_decide_eq_false h2
   refine t_exit rfl ?_
   refine t_seq ?_
   refine tsr ?_
   refine r_op (oF 2) ?_
   refine r_op oL ?_
   refine r_end ?_
   refine t_cond rfl (fun h7 => ?_) (fun h7 => ?_)
   ·
    have h7' := h7
    refine tsr ?_
    refine r_op (oF 0) ?_
    refine r_op oL ?_
    refine r_op (o_call 1 2 false (Go.Proofs.enters_of Tryz.func59 (by kernel_rfl) rfl) (c_spec_Variables (a0) (by omega)) rfl (.cons rfl (.c .t0) .nil) rfl rfl rfl) ?_
    refine r_op oA ?_
    refine etr ?_
    refine r_op (oF 1) ?_
    refine r_op oL ?_
    refine r_op (o_len rfl rfl rfl) ?_
    refine r_op oB ?_
    refine r_op oM ?_
    refine r_guard rfl rfl rfl (fun g8 => ?_) (fun g8 => ?_)
    ·
     have g8' := of_decide_eq_true g8
     refine r_op oM ?_
     refine r_guard rfl rfl rfl (fun _ => ?_) (nc g8)
     refine r_op (oF 3) ?_
     refine r_guard rfl rfl rfl (fun _ => ?_) (nc g8)
     refine r_op oL ?_
     refine r_guard rfl rfl rfl (fun _ => ?_) (nc g8)
     refine r_op (o_call 2 2 false (Go.Proofs.enters_of Tryz.func60 (by kernel_rfl) rfl) (c_spec_l4Has (setI (varsL (a0))) (a3) (by omega)) rfl (.cons rfl (.c (.own rfl)) (.cons rfl (.c .t0) .nil)) rfl rfl rfl) ?_
     refine r_op (o_pickT rfl rfl g8 rfl) ?_
     refine r_op oM ?_
     refine r_guard rfl rfl rfl (fun g9 => ?_) (fun g9 => ?_)
     ·
      have g9' := g9
      refine r_op oM ?_
      refine r_guard rfl rfl rfl (fun _ => ?_) (nc g9)
      refine r_op (oF 4) ?_
      refine r_guard rfl rfl rfl (fun _ => ?_) (nc g9)
      refine r_op oL ?_
      refine r_guard rfl rfl rfl (fun _ => ?_) (nc g9)
      refine r_op (o_call 2 2 false (Go.Proofs.enters_of Tryz.func60 (by kernel_rfl) rfl) (c_spec_l4Has (setI (varsL (a0))) (a4) (by omega)) rfl (.cons rfl (.c (.own rfl)) (.cons rfl (.c .t0) .nil)) rfl rfl rfl) ?_
      refine r_op (o_pickT rfl rfl g9 rfl) ?_
      refine r_op oM ?_
      refine r_guard rfl rfl rfl (fun g10 => ?_) (fun g10 => ?_)
      ·
       have g10' := g10
       refine r_op (oF 3) ?_
       refine r_guard rfl rfl rfl (fun _ => ?_) (nc g10)
       refine r_op oL ?_
       refine r_guard rfl rfl rfl (fun _ => ?_) (nc g10)
       refine r_op (oF 4) ?_
       refine r_guard rfl rfl rfl (fun _ => ?_) (nc g10)
       refine r_op oL ?_
       refine r_guard rfl rfl rfl (fun _ => ?_) (nc g10)
       refine r_op oB ?_
       refine r_op (o_pickT rfl rfl g10 rfl) ?_
       refine r_op oA ?_
       refine r_end ?_
       refine t_ret Tryz.func40 (.tmp rfl .nil) rfl fun E S w u hI hd => ?_
       refine post_mk hI hd ?_ trivial rfl rfl rfl <;> clear hI hd <;> (try clear ih0) <;> (try clear ih1)
       all_goals (refine scB ?_; (try (have qA := iA (by omega))); (try (have qK := kA (by omega))); (try (have qB := any_true (p := badA rs) (l := a0) (m := m) (by assumption) (by unfold badA; grind))); (try (have qC := any_true (p := badA rs) (l := a1) (m := n) (by assumption) (by unfold badA; grind))); (try (have qS := srcA_at (rs := rs) (r := (by assumption).1) (ts := (by assumption).2) (by assumption); have qD := any_true (p := srcA rs) (l := a1) (m := n) (by assumption) (by grind))); clear hs g0 g1 v0 v1; unfold depOk atomsOk; grind)
      ·
       have g10' := g10
       refine r_guard rfl rfl rfl (ncf g10) (fun _ => ?_)
       refine r_guard rfl rfl rfl (ncf g10) (fun _ => ?_)
       refine r_guard rfl rfl rfl (ncf g10) (fun _ => ?_)
       refine r_guard rfl rfl rfl (ncf g10) (fun _ => ?_)
       refine r_op (o_pickF rfl rfl g10 rfl) ?_
       refine r_op oA ?_
       refine r_end ?_
       refine t_ret Tryz.func40 (.tmp rfl .nil) rfl fun E S w u hI hd => ?_
       refine post_mk hI hd ?_ trivial rfl rfl rfl <;> clear hI hd <;> (try clear ih0) <;> (try clear ih1)
       all_goals (refine scB ?_; (try (have qA := iA (by omega))); (try (have qK := kA (by omega))); (try (have qB := any_true (p := badA rs) (l := a0) (m := m) (by assumption) (by unfold badA; grind))); (try (have qC := any_true (p := badA rs) (l := a1) (m := n) (by assumption) (by unfold badA; grind))); (try (have qS := srcA_at (rs := rs) (r := (by assumption).1) (ts := (by assumption).2) (by assumption); have qD := any_true (p := srcA rs) (l := a1) (m := n) (by assumption) (by grind))); clear hs g0 g1 v0 v1; unfold depOk atomsOk; grind)
     ·
      have g9' := g9
      refine r_guard rfl rfl rfl (ncf g9) (fun _ => ?_)
      refine r_guard rfl rfl rfl (ncf g9) (fun _ => ?_)
      refine r_guard rfl rfl rfl (ncf g9) (fun _ => ?_)
      refine r_op (o_pickF rfl rfl g9 rfl) ?_
      refine r_op oM ?_
      refine r_guard rfl rfl rfl (ncf rfl) (fun _ => ?_)
      refine r_guard rfl rfl rfl (ncf rfl) (fun _ => ?_)
      refine r_guard rfl rfl rfl (ncf rfl) (fun _ => ?_)
      refine r_guard rfl rfl rfl (ncf rfl) (fun _ => ?_)
      refine r_guard rfl rfl rfl (ncf rfl) (fun _ => ?_)
      refine r_op (o_pickF rfl rfl rfl rfl) ?_
      refine r_op oA ?_
      refine r_end ?_
      refine t_ret Tryz.func40 (.tmp rfl .nil) rfl fun E S w u hI hd => ?_
      refine post_mk hI hd ?_ trivial rfl rfl rfl <;> clear hI hd <;> (try clear ih0) <;> (try clear ih1)
      all_goals (refine scB ?_; (try (have qA := iA (by omega))); (try (have qK := kA (by omega))); (try (have qB := any_true (p := badA rs) (l := a0) (m := m) (by assumption) (by unfold badA; grind))); (try (have qC := any_true (p := badA rs) (l := a1) (m := n) (by assumption) (by unfold badA; grind))); (try (have qS := srcA_at (rs := rs) (r := (by assumption).1) (ts := (by assumption).2) (by assumption); have qD := any_true (p := srcA rs) (l := a1) (m := n) (by assumption) (by grind))); clear hs g0 g1 v0 v1; unfold depOk atomsOk; grind)
    ·
     have g8' := of_decide_eq_false g8
     refine r_guard rfl rfl rfl (ncf g8) (fun _ => ?_)
     refine r_guard rfl rfl rfl (ncf g8) (fun _ => ?_)
     refine r_guard rfl rfl rfl (ncf g8) (fun _ => ?_)
     refine r_op (o_pickF rfl rfl g8 rfl) ?_
     refine r_op oM ?_
     refine r_guard rfl rfl rfl (ncf rfl) (fun _ => ?_)
     refine r_guard rfl rfl rfl (ncf rfl) (fun _ => ?_)
     refine r_guard rfl rfl rfl (ncf rfl) (fun _ => ?_)
     refine r_guard rfl rfl rfl (ncf rfl) (fun _ => ?_)
     refine r_op (o_pickF rfl rfl rfl rfl) ?_
     refine r_op oM ?_
     refine r_guard rfl rfl rfl (ncf rfl) (fun _ => ?_)
     refine r_guard rfl rfl rfl (ncf rfl) (fun _ => ?_)
     refine r_guard rfl rfl rfl (ncf rfl) (fun _ => ?_)
     refine r_guard rfl rfl rfl (ncf rfl) (fun _ => ?_)
     refine r_guard rfl rfl rfl (ncf rfl) (fun _ => ?_)
     refine r_op (o_pickF rfl rfl rfl rfl) ?_
     refine r_op oA ?_
     refine r_end ?_
     refine t_ret Tryz.func40 (.tmp rfl .nil) rfl fun E S w u hI hd => ?_
     refine post_mk hI hd ?_ trivial rfl rfl rfl <;> clear hI hd <;> (try clear ih0) <;> (try clear ih1)
     all_goals (refine scB ?_; (try (have qA := iA (by omega))); (try (have qK := kA (by omega))); (try (have qB := any_true (p := badA rs) (l := a0) (m := m) (by assumption) (by unfold badA; grind))); (try (have qC := any_true (p := badA rs) (l := a1) (m := n) (by assumption) (by unfold badA; grind))); (try (have qS := srcA_at (rs := rs) (r := (by assumption).1) (ts := (by assumption).2) (by assumption); have qD := any_true (p := srcA rs) (l := a1) (m := n) (by assumption) (by grind))); clear hs g0 g1 v0 v1; unfold depOk atomsOk; grind)
   ·
    have h7' := h7
    refine t_skip ?_
    refine t_seq ?_
    refine tsr ?_
    refine r_op oA ?_
    refine r_end ?_
    refine t_block ?_
    refine t_loopL (fun n => ⟨[(0, some (.c (.t none (.sl 3 (enS3 encS encI encB) (rs))))), (3, some (.c (.ptr 0 0))), (7, some (.c (.t none (.v (.int .i64 ((n : Int)))))))], [(0, some (.box [.t none (.sl 2 (enS2 encI (enSl 1 encI)) (a0)), .t none (.sl 2 (enS2 encI (enSl 1 encI)) (a1)), .t none (.v (.bool (a2))), .t none (.v (.int .i64 (a3))), .t none (.v (.int .i64 (a4)))]))], 1⟩ : Nat → St) (fun n => n ≤ a1.length ∧ ∀ j z, j < n → a1[j]? = some z → (badA rs z || srcA rs z) = false) (fun n => a1.length - n) 0 ⟨⟨rfl, ⟨rfl, ⟨rfl, trivial⟩⟩⟩, ⟨rfl, trivial⟩, rfl⟩ (by exact ⟨Nat.zero_le _, fun j z h => by omega⟩) ?_
    rintro n hI ih1
    try dsimp only at hI ih1
    obtain ⟨k1, k2⟩ := hI; (have kA : a1.length ≤ n → a1.any (badA rs) = false ∧ a1.any (srcA rs) = false := fun e => ⟨any_false (fun j z h h2 => by have := k2 j z h h2; simp_all) e, any_false (fun j z h h2 => by have := k2 j z h h2; simp_all) e⟩)
    refine t_seq ?_
    refine tsr ?_
    refine r_op oM ?_
    refine r_op (oF 1) ?_
    refine r_op oL ?_
    refine r_op (o_len rfl rfl rfl) ?_
    refine r_op oB ?_
    refine r_end ?_
    refine t_cond rfl (fun h11 => ?_) (fun h11 => ?_)
    ·
     have h11' := of_decide_eq_true h11
     refine t_skip ?_
     refine t_seq ?_
     refine t_block ?_
     refine tsr ?_
     refine r_op oM ?_
     refine r_op (oF 1) ?_
     refine r_op oL ?_
     refine r_op oM ?_
     obtain ⟨z12, hz13, b14⟩ := at_get (xs := a1) (n := (n : Int)) (by omega) (by omega)
     refine r_op (o_index rfl (by kernel_rfl) rfl rfl b14 hz13) ?_
     refine r_op (o_loadA rfl (n := 2) (by kernel_rfl) (by kernel_rfl) rfl rfl) ?_
     refine r_op (o_call 1 1 false (Go.Proofs.enters_of Tryz.func58 (by kernel_rfl) rfl) (c_spec_IsValidAtom (rs) (z12.1) (z12.2) (by omega) (by (have e1 := sz_at (f := (fun (x : Int × (List (Int))) => (x.2).length)) (l := a1) (m := n) (by assumption); (try dsimp only at e1); omega))) rfl (.cons rfl (.c .t0) (.cons rfl (.agg (.cons .t0 (.cons .t0 .nil))) .nil)) rfl rfl rfl) ?_
     refine r_op (o_not rfl rfl) ?_
     refine r_op oM ?_
     refine r_guard rfl rfl rfl (fun g15 => ?_) (fun g15 => ?_)
     ·
      have g15' := (bnf g15)
      refine r_op oM ?_
      refine r_guard rfl rfl rfl (fun _ => ?_) (ncf g15)
      refine r_op (oF 1) ?_
      refine r_guard rfl rfl rfl (fun _ => ?_) (ncf g15)
      refine r_op oL ?_
      refine r_guard rfl rfl rfl (fun _ => ?_) (ncf g15)
      refine r_op oM ?_
      refine r_guard rfl rfl rfl (fun _ => ?_) (ncf g15)
      refine r_op (o_index rfl (by kernel_rfl) rfl rfl b14 hz13) ?_
      refine r_guard rfl rfl rfl (fun _ => ?_) (ncf g15)
      refine r_op (o_field rfl (off := 0) (by kernel_rfl) rfl) ?_
      refine r_guard rfl rfl rfl (fun _ => ?_) (ncf g15)
      refine r_op (o_load1 rfl (by kernel_rfl) rfl rfl) ?_
      refine r_guard rfl rfl rfl (fun _ => ?_) (ncf g15)
      obtain ⟨z16, hz17, b18⟩ := at_get (xs := rs) (n := z12.1) (by exact (atom_idx (by assumption)).1) (by exact (atom_idx (by assumption)).2)
      refine r_op (o_index rfl (by kernel_rfl) rfl rfl b18 hz17) ?_
      refine r_guard rfl rfl rfl (fun _ => ?_) (ncf g15)
      refine r_op (o_field rfl (off := 2) (by kernel_rfl) rfl) ?_
      refine r_guard rfl rfl rfl (fun _ => ?_) (ncf g15)
      refine r_op (o_load1 rfl (by kernel_rfl) rfl rfl) ?_
      refine r_op (o_pickF rfl rfl g15 rfl) ?_
      refine r_end ?_
      refine t_cond rfl (fun h19 => ?_) (fun h19 => ?_)
      ·
       have h19' := h19
       refine tsr ?_
       refine r_op oA ?_
       refine r_end ?_
       refine t_ret Tryz.func40 (.tmp rfl .nil) rfl fun E S w u hI hd => ?_
       refine post_mk hI hd ?_ trivial rfl rfl rfl <;> clear hI hd <;> (try clear ih0) <;> (try clear ih1)
       all_goals (refine scB ?_; (try (have qA := iA (by omega))); (try (have qK := kA (by omega))); (try (have qB := any_true (p := badA rs) (l := a0) (m := m) hz13 (by unfold badA; grind))); (try (have qC := any_true (p := badA rs) (l := a1) (m := n) hz13 (by unfold badA; grind))); (try (have qS := srcA_at (rs := rs) (r := z12.1) (ts := z12.2) hz17; have qD := any_true (p := srcA rs) (l := a1) (m := n) hz13 (by grind))); clear hs g0 g1 v0 v1; unfold depOk atomsOk; grind)
      ·
       have h19' := h19
       refine t_skip ?_
       refine t_endblock ?_
       refine t_region ?_
       refine r_op oM ?_
       refine r_op oB ?_
       refine r_op oA ?_
       refine r_end ?_
       refine t_le ?_ (ih1 (n + 1) (by (try dsimp only); omega) (by (try dsimp only); exact ⟨by omega, no_step (p := fun z => badA rs z || srcA rs z) k2 (by assumption) rfl (by have q1 := srcA_at (rs := rs) (r := z12.1) (ts := z12.2) hz17; unfold badA; grind)⟩))
       exact ⟨⟨rfl, ⟨rfl, ⟨(eqI (wr64 (by omega) (by omega))), trivial⟩⟩⟩, ⟨rfl, trivial⟩, rfl⟩
     ·
      have g15' := (bnt g15)
      refine r_guard rfl rfl rfl (nc g15) (fun _ => ?_)
      refine r_guard rfl rfl rfl (nc g15) (fun _ => ?_)
      refine r_guard rfl rfl rfl (nc g15) (fun _ => ?_)
      refine r_guard rfl rfl rfl (nc g15) (fun _ => ?_)
      refine r_guard rfl rfl rfl (nc g15) (fun _ => ?_)
      refine r_guard rfl rfl rfl (nc g15) (fun _ => ?_)
      refine r_guard rfl rfl rfl (nc g15) (fun _ => ?_)
      refine r_guard rfl rfl rfl (nc g15) (fun _ => ?_)
      refine r_guard rfl rfl rfl (nc g15) (fun _ => ?_)
      refine r_op (o_pickT rfl rfl g15 rfl) ?_
      refine r_end ?_
      refine t_cond rfl (fun _ => ?_) (nc rfl)
      refine tsr ?_
      refine r_op oA ?_
      refine r_end ?_
      refine t_ret Tryz.func40 (.tmp rfl .nil) rfl fun E S w u hI hd => ?_
      refine post_mk hI hd ?_ trivial rfl rfl rfl <;> clear hI hd <;> (try clear ih0) <;> (try clear ih1)
      all_goals (refine scB ?_; (try (have qA := iA (by omega))); (try (have qK := kA (by omega))); (try (have qB := any_true (p := badA rs) (l := a0) (m := m) hz13 (by unfold badA; grind))); (try (have qC := any_true (p := badA rs) (l := a1) (m := n) hz13 (by unfold badA; grind))); (try (have qS := srcA_at (rs := rs) (r := z12.1) (ts := z12.2) (by assumption); have qD := any_true (p := srcA rs) (l := a1) (m := n) hz13 (by grind))); clear hs g0 g1 v0 v1; unfold depOk atomsOk; grind)
    ·
     have h11' := of_decide_eq_false h11
     refine t_exit rfl ?_
     refine tsr ?_
     refine r_op (oF 1) ?_
     refine r_op oL ?_
     refine r_op (o_len rfl rfl rfl) ?_
     refine r_op (o_call 1 1 false (Go.Proofs.enters_of Tryz.func56 (by kernel_rfl) rfl) (c_spec_l1In (((a1).length : Int)) (1) (2)) rfl (.cons rfl (.c .t0) (.cons rfl (.c .t0) (.cons rfl (.c .t0) .nil))) rfl rfl rfl) ?_
     refine r_op oM ?_
     refine r_guard rfl rfl rfl (fun g20 => ?_) (fun g20 => ?_)
     ·
      have g20' := of_decide_eq_true g20
      refine r_op (oF 3) ?_
      refine r_guard rfl rfl rfl (fun _ => ?_) (nc g20)
      refine r_op oL ?_
      refine r_guard rfl rfl rfl (fun _ => ?_) (nc g20)
      refine r_op oB ?_
      refine r_op (o_pickT rfl rfl g20 rfl) ?_
      refine r_op oM ?_
      refine r_guard rfl rfl rfl (fun g21 => ?_) (fun g21 => ?_)
      ·
       have g21' := of_decide_eq_true g21
       refine r_op (oF 4) ?_
       refine r_guard rfl rfl rfl (fun _ => ?_) (nc g21)
       refine r_op oL ?_
       refine r_guard rfl rfl rfl (fun _ => ?_) (nc g21)
       refine r_op oB ?_
       refine r_op (o_pickT rfl rfl g21 rfl) ?_
       refine r_op oA ?_
       refine r_end ?_
       refine t_ret Tryz.func40 (.tmp rfl .nil) rfl fun E S w u hI hd => ?_
       refine post_mk hI hd ?_ trivial rfl rfl rfl <;> clear hI hd <;> (try clear ih0) <;> (try clear ih1)
       all_goals (refine scB ?_; (try (have qA := iA (by omega))); (try (have qK := kA (by omega))); (try (have qB := any_true (p := badA rs) (l := a0) (m := m) (by assumption) (by unfold badA; grind))); (try (have qC := any_true (p := badA rs) (l := a1) (m := n) (by assumption) (by unfold badA; grind))); (try (have qS := srcA_at (rs := rs) (r := (by assumption).1) (ts := (by assumption).2) (by assumption); have qD := any_true (p := srcA rs) (l := a1) (m := n) (by assumption) (by grind))); clear hs g0 g1 v0 v1; unfold depOk atomsOk; grind)
      ·
       have g21' := of_decide_eq_false g21
       refine r_guard rfl rfl rfl (ncf g21) (fun _ => ?_)
       refine r_guard rfl rfl rfl (ncf g21) (fun _ => ?_)
       refine r_op (o_pickF rfl rfl g21 rfl) ?_
       refine r_op oA ?_
       refine r_end ?_
       refine t_ret Tryz.func40 (.tmp rfl .nil) rfl fun E S w u hI hd => ?_
       refine post_mk hI hd ?_ trivial rfl rfl rfl <;> clear hI hd <;> (try clear ih0) <;> (try clear ih1)
       all_goals (refine scB ?_; (try (have qA := iA (by omega))); (try (have qK := kA (by omega))); (try (have qB := any_true (p := badA rs) (l := a0) (m := m) (by assumption) (by unfold badA; grind))); (try (have qC := any_true (p := badA rs) (l := a1) (m := n) (by assumption) (by unfold badA; grind))); (try (have qS := srcA_at (rs := rs) (r := (by assumption).1) (ts := (by assumption).2) (by assumption); have qD := any_true (p := srcA rs) (l := a1) (m := n) (by assumption) (by grind))); clear hs g0 g1 v0 v1; unfold depOk atomsOk; grind)
     ·
      have g20' := of_decide_eq_false g20
      refine r_guard rfl rfl rfl (ncf g20) (fun _ => ?_)
      refine r_guard rfl rfl rfl (ncf g20) (fun _ => ?_)
      refine r_op (o_pickF rfl rfl g20 rfl) ?_
      refine r_op oM ?_
      refine r_guard rfl rfl rfl (ncf rfl) (fun _ => ?_)
      refine r_guard rfl rfl rfl (ncf rfl) (fun _ => ?_)
      refine r_guard rfl rfl rfl (ncf rfl) (fun _ => ?_)
      refine r_op (o_pickF rfl rfl rfl rfl) ?_
      refine r_op oA ?_
      refine r_end ?_
      refine t_ret Tryz.func40 (.tmp rfl .nil) rfl fun E S w u hI hd => ?_
      refine post_mk hI hd ?_ trivial rfl rfl rfl <;> clear hI hd <;> (try clear ih0) <;> (try clear ih1)
      all_goals (refine scB ?_; (try (have qA := iA (by omega))); (try (have qK := kA (by omega))); (try (have qB := any_true (p := badA rs) (l := a0) (m := m) (by assumption) (by unfold badA; grind))); (try (have qC := any_true (p := badA rs) (l := a1) (m := n) (by assumption) (by unfold badA; grind))); (try (have qS := srcA_at (rs := rs) (r := (by assumption).1) (ts := (by assumption).2) (by assumption); have qD := any_true (p := srcA rs) (l := a1) (m := n) (by assumption) (by grind))); clear hs g0 g1 v0 v1; unfold depOk atomsOk; grind)
set_option maxHeartbeats 1000000 in
set_option maxRecDepth 10000 in
theorem c_spec_FormatAtom (rs : List (List UInt8 × Int × Bool)) (r : Int) (ts : List Int) (hrs : rs.length ≤ 4611686018427387904) (hts : ts.length ≤ 4611686018427387904) (ho : ∀ x ∈ ts, okI x) : Pu Tryz.prog 61 [.c (.t none (.sl 3 (enS3 encS encI encB) (rs))), .agg [.t none (.v (.int .i64 (r))), .t none (.sl 1 encI (ts))]] [] 0 (.c (.t none (.v (.string (mkS (fmtA rs (r, ts))))))) := by
 refine pu_enter Tryz.func61 rfl (Nat.le_of_ble_eq_true rfl) fun w S => ?_
 have ar := @atomOk_rels rs r ts
 refine tsr ?_
 refine r_op (o_box 0 rfl rfl rfl rfl) ?_
 refine r_op oA ?_
 refine r_end ?_
 refine t_seq ?_
 refine tsr ?_
 refine r_op oM ?_
 refine r_op (oC 2) ?_
 refine r_op (o_call 1 1 false (Go.Proofs.enters_of Tryz.func58 (by kernel_rfl) rfl) (c_spec_IsValidAtom (rs) (r) (ts) (by omega) (by omega)) rfl (.cons rfl (.c .t0) (.cons rfl (.agg (.cons .t0 (.cons .t0 .nil))) .nil)) rfl rfl rfl) ?_
 refine r_op (o_not rfl rfl) ?_
 refine r_end ?_
 refine t_cond rfl (fun h1 => ?_) (fun h1 => ?_)
 ·
  have h1' := (bnt h1)
  refine tsr ?_
  refine r_op oA ?_
  refine r_end ?_
  refine t_ret Tryz.func61 (.tmp rfl .nil) rfl fun E S w u hI hd => ?_
  refine post_mk hI hd ?_ trivial rfl rfl rfl <;> clear hI hd <;> (try clear ih0)
  all_goals (refine scS ?_; (exact fmtA_no (by assumption)))
 ·
  have h1' := (bnf h1)
  refine t_skip ?_
  refine tsr ?_
  refine r_op oM ?_
  refine r_op (oF 0) ?_
  refine r_op oL ?_
  obtain ⟨z2, hz3, b4⟩ := at_get (xs := rs) (n := r) (by (have q := ar (by assumption); omega)) (by (have q := ar (by assumption); omega))
  refine r_op (o_index rfl (by kernel_rfl) rfl rfl b4 hz3) ?_
  refine r_op (o_field rfl (off := 0) (by kernel_rfl) rfl) ?_
  refine r_op (o_load1 rfl (by kernel_rfl) rfl rfl) ?_
  refine r_op oA ?_
  refine r_end ?_
  refine t_seq ?_
  refine tsr ?_
  refine r_op oA ?_
  refine r_end ?_
  refine t_block ?_
  refine t_loopL (fun m => ⟨[(3, some (.c (.ptr 0 0))), (4, some (.c (.t none (.v (.string (mkS (([] : List UInt8)))))))), (5, some (.c (.t none (.v (.string (mkS (z2.1 ++ (ts.take m).flatMap fmtT))))))), (6, some (.c (.t none (.v (.int .i64 ((m : Int)))))))], [(0, some (.box [.t none (.v (.int .i64 (r))), .t none (.sl 1 encI (ts))]))], 1⟩ : Nat → St) (fun m => m ≤ ts.length) (fun m => ts.length - m) 0 ⟨⟨rfl, ⟨rfl, ⟨(eqS (by simp)), ⟨rfl, trivial⟩⟩⟩⟩, ⟨rfl, trivial⟩, rfl⟩ (by exact Nat.zero_le _) ?_
  rintro m hI ih0
  try dsimp only at hI ih0
  have i1 := hI; have a1 := ar (by assumption); have nl := name_len a1.1 hz3; have fl := flatT_len (ts.take m); have tl : (ts.take m).length ≤ 3 := (by rw [List.length_take]; omega); have cl : (z2.1 ++ (ts.take m).flatMap fmtT).length ≤ 7 := (by rw [List.length_append]; omega)
  refine t_seq ?_
  refine tsr ?_
  refine r_op oM ?_
  refine r_op (oF 1) ?_
  refine r_op oL ?_
  refine r_op (o_len rfl rfl rfl) ?_
  refine r_op oB ?_
  refine r_end ?_
  refine t_cond rfl (fun h5 => ?_) (fun h5 => ?_)
  ·
   have h5' := of_decide_eq_true h5
   refine t_skip ?_
   refine t_seq ?_
   refine t_block ?_
   refine t_region ?_
   refine r_op oM ?_
   refine r_op (oF 1) ?_
   refine r_op oL ?_
   refine r_op oM ?_
   obtain ⟨z6, hz7, b8⟩ := at_get (xs := ts) (n := (m : Int)) (by omega) (by omega)
   refine r_op (o_index rfl (by kernel_rfl) rfl rfl b8 hz7) ?_
   refine r_op (o_load1 rfl (by kernel_rfl) rfl rfl) ?_
   refine r_op (o_call 1 1 false (Go.Proofs.enters_of Tryz.func39 (by kernel_rfl) rfl) (c_spec_FormatTerm (z6) (by exact ho _ (List.mem_of_getElem? (by assumption)))) rfl (.cons rfl (.c .t0) .nil) rfl rfl rfl) ?_
   refine r_op (o_cat rfl rfl rfl (by exact Nat.le_trans (Nat.add_le_add cl (fmtT_len _)) (by decide))) ?_
   refine r_op oA ?_
   refine r_end ?_
   refine t_endblock ?_
   refine t_region ?_
   refine r_op oM ?_
   refine r_op oB ?_
   refine r_op oA ?_
   refine r_end ?_
   refine t_le ?_ (ih0 (m + 1) (by (try dsimp only); omega) (by (try dsimp only); omega))
   exact ⟨⟨rfl, ⟨rfl, ⟨(eqS (by rw [List.append_assoc, fmtF_step (m := m) hz7])), ⟨(eqI (wr64 (by omega) (by omega))), trivial⟩⟩⟩⟩, ⟨rfl, trivial⟩, rfl⟩
  ·
   have h5' := of_decide_eq_false h5
   refine t_exit rfl ?_
   refine tsr ?_
   refine r_op oM ?_
   refine r_op oA ?_
   refine r_end ?_
   refine t_ret Tryz.func61 (.tmp rfl .nil) rfl fun E S w u hI hd => ?_
   refine post_mk hI hd ?_ trivial rfl rfl rfl <;> clear hI hd <;> (try clear ih0)
   all_goals (refine scS ?_; (exact fmtA_yes (by assumption) (by assumption) (by omega)))
set_option maxHeartbeats 1000000 in
set_option maxRecDepth 10000 in
theorem c_spec_l10Atoms (rs : Rels) (l : Atoms) (hrs : rs.length ≤ 4611686018427387904) (hs : szS (fun (x : Int × (List (Int))) => (x.2).length) l ≤ 1048600) (hoa : ∀ z ∈ l, ∀ x ∈ z.2, okI x) : Pu Tryz.prog 41 [.c (.t none (.sl 3 (enS3 encS encI encB) (rs))), .c (.t none (.sl 2 (enS2 encI (enSl 1 encI)) (l)))] [] 0 (.c (.t none (.v (.string (mkS (fmtAs rs l)))))) := by
 refine pu_enter Tryz.func41 rfl (Nat.le_of_ble_eq_true rfl) fun w S => ?_
 have gl := sz_len (f := (fun (x : Int × (List (Int))) => (x.2).length)) (l := l)
 refine tsr ?_
 refine r_op oA ?_
 refine etr ?_
 refine r_op oA ?_
 refine r_end ?_
 refine t_seq ?_
 refine tsr ?_
 refine r_op oA ?_
 refine r_end ?_
 refine t_block ?_
 refine t_loopL (fun m => ⟨[(0, some (.c (.t none (.sl 3 (enS3 encS encI encB) (rs))))), (1, some (.c (.t none (.sl 2 (enS2 encI (enSl 1 encI)) (l))))), (4, some (.c (.t none (.v (.string (mkS (([] : List UInt8)))))))), (5, some (.c (.t none (.v (.string (mkS (Lib.join ((l.take m).map (fmtA rs)) [32]))))))), (6, some (.c (.t none (.v (.int .i64 ((m : Int)))))))], [], 0⟩ : Nat → St) (fun m => m ≤ l.length) (fun m => l.length - m) 0 ⟨⟨rfl, ⟨rfl, ⟨rfl, ⟨(eqS rfl), ⟨rfl, trivial⟩⟩⟩⟩⟩, trivial, rfl⟩ (by exact Nat.zero_le _) ?_
 rintro m hI ih0
 try dsimp only at hI ih0
 have i1 := hI; have ml := mapT_len (f := fmtA rs) (fun a => fmtA_len a) l m [32]; (try simp only [List.length_cons, List.length_nil] at ml); have mm : ((l.take m).map (fmtA rs)).length ≤ l.length := (by rw [List.length_map, List.length_take]; omega)
 refine t_seq ?_
 refine tsr ?_
 refine r_op oM ?_
 refine r_op oM ?_
 refine r_op (o_len rfl rfl rfl) ?_
 refine r_op oB ?_
 refine r_end ?_
 refine t_cond rfl (fun h1 => ?_) (fun h1 => ?_)
 ·
  have h1' := of_decide_eq_true h1
  refine t_skip ?_
  refine t_seq ?_
  refine t_block ?_
  refine t_seq ?_
  refine tsr ?_
  refine r_op oM ?_
  refine r_op oB ?_
  refine r_end ?_
  refine t_cond rfl (fun h2 => ?_) (fun h2 => ?_)
  ·
   have h2' := of_decide_eq_true h2
   refine t_region ?_
   refine r_op oM ?_
   refine r_op (o_cat rfl rfl rfl (by (simp only [List.length_append, List.length_cons, List.length_nil]; omega))) ?_
   refine r_op oA ?_
   refine rtr ?_
   refine r_op oM ?_
   refine r_op oM ?_
   refine r_op oM ?_
   refine r_op oM ?_
   obtain ⟨z3, hz4, b5⟩ := at_get (xs := l) (n := (m : Int)) (by omega) (by omega)
   refine r_op (o_index rfl (by kernel_rfl) rfl rfl b5 hz4) ?_
   refine r_op (o_loadA rfl (n := 2) (by kernel_rfl) (by kernel_rfl) rfl rfl) ?_
   refine r_op (o_call 0 0 false (Go.Proofs.enters_of Tryz.func61 (by kernel_rfl) rfl) (c_spec_FormatAtom (rs) (z3.1) (z3.2) (by omega) (by (have e1 := sz_at (f := (fun (x : Int × (List (Int))) => (x.2).length)) (l := l) (m := m) (by assumption); (try dsimp only at e1); omega)) (by exact hoa _ (List.mem_of_getElem? (by assumption)))) rfl (.cons rfl (.c .t0) (.cons rfl (.agg (.cons .t0 (.cons .t0 .nil))) .nil)) rfl rfl rfl) ?_
   refine r_op (o_cat rfl rfl rfl (by (refine Nat.le_trans (Nat.add_le_add (Nat.le_of_eq (List.length_append ..)) (fmtA_len _)) ?_; simp only [List.length_cons, List.length_nil]; omega))) ?_
   refine r_op oA ?_
   refine r_end ?_
   refine t_endblock ?_
   refine t_region ?_
   refine r_op oM ?_
   refine r_op oB ?_
   refine r_op oA ?_
   refine r_end ?_
   refine t_le ?_ (ih0 (m + 1) (by (try dsimp only); omega) (by (try dsimp only); omega))
   exact ⟨⟨rfl, ⟨rfl, ⟨rfl, ⟨(eqS (by exact joinT_step hz4 (by omega))), ⟨(eqI (wr64 (by omega) (by omega))), trivial⟩⟩⟩⟩⟩, trivial, rfl⟩
  ·
   have h2' := of_decide_eq_false h2
   refine t_skip ?_
   refine t_region ?_
   refine r_op oM ?_
   refine r_op oM ?_
   refine r_op oM ?_
   refine r_op oM ?_
   obtain ⟨z6, hz7, b8⟩ := at_get (xs := l) (n := (m : Int)) (by omega) (by omega)
   refine r_op (o_index rfl (by kernel_rfl) rfl rfl b8 hz7) ?_
   refine r_op (o_loadA rfl (n := 2) (by kernel_rfl) (by kernel_rfl) rfl rfl) ?_
   refine r_op (o_call 0 0 false (Go.Proofs.enters_of Tryz.func61 (by kernel_rfl) rfl) (c_spec_FormatAtom (rs) (z6.1) (z6.2) (by omega) (by (have e1 := sz_at (f := (fun (x : Int × (List (Int))) => (x.2).length)) (l := l) (m := m) (by assumption); (try dsimp only at e1); omega)) (by exact hoa _ (List.mem_of_getElem? (by assumption)))) rfl (.cons rfl (.c .t0) (.cons rfl (.agg (.cons .t0 (.cons .t0 .nil))) .nil)) rfl rfl rfl) ?_
   refine r_op (o_cat rfl rfl rfl (by exact Nat.le_trans (Nat.add_le_add ml (fmtA_len _)) (by omega))) ?_
   refine r_op oA ?_
   refine r_end ?_
   refine t_endblock ?_
   refine t_region ?_
   refine r_op oM ?_
   refine r_op oB ?_
   refine r_op oA ?_
   refine r_end ?_
   refine t_le ?_ (ih0 (m + 1) (by (try dsimp only); omega) (by (try dsimp only); omega))
   exact ⟨⟨rfl, ⟨rfl, ⟨rfl, ⟨(eqS (by exact joinT_step0 hz7 (by omega))), ⟨(eqI (wr64 (by omega) (by omega))), trivial⟩⟩⟩⟩⟩, trivial, rfl⟩
 ·
  have h1' := of_decide_eq_false h1
  refine t_exit rfl ?_
  refine tsr ?_
  refine r_op oM ?_
  refine r_op oA ?_
  refine r_end ?_
  refine t_ret Tryz.func41 (.tmp rfl .nil) rfl fun E S w u hI hd => ?_
  refine post_mk hI hd ?_ trivial rfl rfl rfl <;> clear hI hd <;> (try clear ih0)
  all_goals (refine scS ?_; exact fmtAs_end (by omega))
set_option maxHeartbeats 1000000 in
set_option maxRecDepth 10000 in
theorem c_spec_FormatDependency (rs : Rels) (a0 : List (Int × (List (Int)))) (a1 : List (Int × (List (Int)))) (a2 : Bool) (a3 : Int) (a4 : Int) (hrs : rs.length ≤ 4611686018427387904) (hs : szS (fun (x : Int × (List (Int))) => (x.2).length) a0 + szS (fun (x : Int × (List (Int))) => (x.2).length) a1 ≤ 1048600) (hoa : ∀ z ∈ a0, ∀ x ∈ z.2, okI x) (hob : ∀ z ∈ a1, ∀ x ∈ z.2, okI x) (h3 : okI a3) (h4 : okI a4) : Pu Tryz.prog 23 [.c (.t none (.sl 3 (enS3 encS encI encB) (rs))), .agg [.t none (.sl 2 (enS2 encI (enSl 1 encI)) (a0)), .t none (.sl 2 (enS2 encI (enSl 1 encI)) (a1)), .t none (.v (.bool (a2))), .t none (.v (.int .i64 (a3))), .t none (.v (.int .i64 (a4)))]] [] 0 (.c (.t none (.v (.string (mkS (fmtD rs (a0, a1, a2, a3, a4))))))) := by
 refine pu_enter Tryz.func23 rfl (Nat.le_of_ble_eq_true rfl) fun w S => ?_
 have g0 := sz_len (f := (fun (x : Int × (List (Int))) => (x.2).length)) (l := a0); have g1 := sz_len (f := (fun (x : Int × (List (Int))) => (x.2).length)) (l := a1); have v0 := setI_len (varsL a0); have v1 := varsL_size a0; have k0 := fmtAs_len rs a0; have k1 := fmtAs_len rs a1; have k3 := fmtT_len a3; have k4 := fmtT_len a4
 refine tsr ?_
 refine r_op (o_box 0 rfl rfl rfl rfl) ?_
 refine r_op oA ?_
 refine r_end ?_
 refine t_seq ?_
 refine tsr ?_
 refine r_op oM ?_
 refine r_op (oC 5) ?_
 refine r_op (o_call 1 1 false (Go.Proofs.enters_of Tryz.func40 (by kernel_rfl) rfl) (c_spec_IsValidDependency (rs) (a0) (a1) (a2) (a3) (a4) (by omega) (by omega)) rfl (.cons rfl (.c .t0) (.cons rfl (.agg (.cons .t0 (.cons .t0 (.cons .t0 (.cons .t0 (.cons .t0 .nil)))))) .nil)) rfl rfl rfl) ?_
 refine r_op (o_not rfl rfl) ?_
 refine r_end ?_
 refine t_cond rfl (fun h1 => ?_) (fun h1 => ?_)
 ·
  have h1' := (bnt h1)
  refine tsr ?_
  refine r_op oA ?_
  refine r_end ?_
  refine t_ret Tryz.func23 (.tmp rfl .nil) rfl fun E S w u hI hd => ?_
  refine post_mk hI hd ?_ trivial rfl rfl rfl <;> clear hI hd
  all_goals (refine scS ?_; (exact fmtD_no (by assumption)))
 ·
  have h1' := (bnf h1)
  refine t_skip ?_
  refine t_seq ?_
  refine tsr ?_
  refine r_op (oF 2) ?_
  refine r_op oL ?_
  refine r_end ?_
  refine t_cond rfl (fun h2 => ?_) (fun h2 => ?_)
  ·
   have h2' := h2
   refine t_seq ?_
   refine t_draw (fun _ => true) (by kernel_rfl) ?_
   refine dT 0 rfl pM ?_
   refine dT 1 rfl (pF 0) ?_
   refine dT 2 rfl pL ?_
   refine dT 5 rfl (pF 3) ?_
   refine dT 6 rfl pL ?_
   refine dT 9 rfl (pF 4) ?_
   refine dT 10 rfl pL ?_
   refine dO 3 rfl (o_call 1 1 false (Go.Proofs.enters_of Tryz.func41 (by kernel_rfl) rfl) (c_spec_l10Atoms (rs) (a0) (by omega) (by omega) (by omega)) rfl (.cons rfl (.c .t0) (.cons rfl (.c .t0) .nil)) rfl rfl rfl) ?_
   refine dT 4 rfl (p_cat rfl rfl (by (simp only [List.length_append, List.length_cons, List.length_nil]; omega))) ?_
   refine dO 7 rfl (o_call 1 1 false (Go.Proofs.enters_of Tryz.func39 (by kernel_rfl) rfl) (c_spec_FormatTerm (a3) (by omega)) rfl (.cons rfl (.c .t0) .nil) rfl rfl rfl) ?_
   refine dT 8 rfl (p_cat rfl rfl (by (simp only [List.length_append, List.length_cons, List.length_nil]; omega))) ?_
   refine dO 11 rfl (o_call 1 1 false (Go.Proofs.enters_of Tryz.func39 (by kernel_rfl) rfl) (c_spec_FormatTerm (a4) (by omega)) rfl (.cons rfl (.c .t0) .nil) rfl rfl rfl) ?_
   refine dT 12 rfl (p_cat rfl rfl (by (simp only [List.length_append, List.length_cons, List.length_nil]; omega))) ?_
   refine dT 13 rfl pA ?_
   refine d_end (by kernel_rfl) ?_
   refine t_ret Tryz.func23 (.tmp rfl .nil) rfl fun E S w u hI hd => ?_
   refine post_mk hI hd ?_ trivial rfl rfl rfl <;> clear hI hd
   all_goals (refine scS ?_; (exact fmtD_egd (by assumption) (by assumption)))
  ·
   have h2' := h2
   refine t_skip ?_
   refine t_seq ?_
   refine t_draw (fun _ => true) (by kernel_rfl) ?_
   refine dT 0 rfl pM ?_
   refine dT 1 rfl (pF 0) ?_
   refine dT 2 rfl pL ?_
   refine dT 5 rfl pM ?_
   refine dT 6 rfl (pF 1) ?_
   refine dT 7 rfl pL ?_
   refine dO 3 rfl (o_call 1 1 false (Go.Proofs.enters_of Tryz.func41 (by kernel_rfl) rfl) (c_spec_l10Atoms (rs) (a0) (by omega) (by omega) (by omega)) rfl (.cons rfl (.c .t0) (.cons rfl (.c .t0) .nil)) rfl rfl rfl) ?_
   refine dT 4 rfl (p_cat rfl rfl (by (simp only [List.length_append, List.length_cons, List.length_nil]; omega))) ?_
   refine dO 8 rfl (o_call 1 1 false (Go.Proofs.enters_of Tryz.func41 (by kernel_rfl) rfl) (c_spec_l10Atoms (rs) (a1) (by omega) (by omega) (by omega)) rfl (.cons rfl (.c .t0) (.cons rfl (.c .t0) .nil)) rfl rfl rfl) ?_
   refine dT 9 rfl (p_cat rfl rfl (by (simp only [List.length_append, List.length_cons, List.length_nil]; omega))) ?_
   refine dT 10 rfl pA ?_
   refine d_end (by kernel_rfl) ?_
   refine t_ret Tryz.func23 (.tmp rfl .nil) rfl fun E S w u hI hd => ?_
   refine post_mk hI hd ?_ trivial rfl rfl rfl <;> clear hI hd
   all_goals (refine scS ?_; (exact fmtD_tgd (by assumption) (by assumption)))
set_option maxHeartbeats 1000000 in
set_option maxRecDepth 10000 in
theorem c_spec_ParseDependency (rs : Rels) (s : List UInt8) (hrs : rs.length ≤ 1048576) (hs : s.length ≤ 1048576) : Pu Tryz.prog 6 [.c (.t none (.sl 3 (enS3 encS encI encB) (rs))), .c (.t none (.v (.string (mkS (s)))))] [(4, some (.row none 64 true 2 (enS2 encI (enSl 1 encI)) ((parD (rD rs) rs s).1.1))), (5, some (.row none 64 true 2 (enS2 encI (enSl 1 encI)) ((parD (rD rs) rs s).1.2.1)))] 6 (.tup [(true, [.own 4, .own 5, .t none (.v (.bool ((parD (rD rs) rs s).1.2.2.1))), .t none (.v (.int .i64 ((parD (rD rs) rs s).1.2.2.2.1))), .t none (.v (.int .i64 ((parD (rD rs) rs s).1.2.2.2.2)))]), (false, [.t none (.v (.bool ((parD (rD rs) rs s).2)))])]) := by
 refine pu_enter Tryz.func6 rfl (Nat.le_of_ble_eq_true rfl) fun w S => ?_
 refine tsr ?_
 refine r_op (o_alloc 0 (zs := [.slice none 0 0, .slice none 0 0, .bool (false), .int .i64 (0), .int .i64 (0)]) rfl rfl (by kernel_rfl) rfl) ?_
 refine r_op oA ?_
 refine etr ?_
 refine r_op (o_build rfl (pl := [(0, 1), (1, 1), (2, 1), (3, 1), (4, 1)]) (zs := [.slice none 0 0, .slice none 0 0, .bool (false), .int .i64 (0), .int .i64 (0)]) (by kernel_rfl) (by kernel_rfl) rfl rfl rfl) ?_
 refine r_op (o_alloc 1 (zs := [.slice none 0 0, .slice none 0 0, .bool (false), .int .i64 (0), .int .i64 (0)]) rfl rfl (by kernel_rfl) rfl) ?_
 refine r_op (oS 5) ?_
 refine etr ?_
 refine r_op oM ?_
 refine r_op (o_call 2 3 false (Go.Proofs.enters_of Tryz.func20 (by kernel_rfl) rfl) (c_spec_l3Cut (s) (62) (by omega) (by omega)) rfl (.cons rfl (.c .t0) (.cons rfl (.c .t0) .nil)) rfl rfl rfl) ?_
 refine r_op oA ?_
 refine etr ?_
 refine r_op oM ?_
 refine r_op (o_call 3 4 false (Go.Proofs.enters_of Tryz.func20 (by kernel_rfl) rfl) (c_spec_l3Cut (s) (61) (by omega) (by omega)) rfl (.cons rfl (.c .t0) (.cons rfl (.c .t0) .nil)) rfl rfl rfl) ?_
 refine r_op oA ?_
 refine r_end ?_
 refine t_seq ?_
 refine tsr ?_
 refine r_op oM ?_
 refine r_op (o_leno rfl rfl rfl rfl) ?_
 refine r_op oB ?_
 refine r_op oM ?_
 refine r_guard rfl rfl rfl (fun g1 => ?_) (fun g1 => ?_)
 ·
  have g1' := of_decide_eq_true g1
  refine r_op oM ?_
  refine r_guard rfl rfl rfl (fun _ => ?_) (nc g1)
  obtain ⟨z2, hz3, b4⟩ := at_get (xs := spl (u8 (61)) (s)) (n := 1) (by omega) (by omega)
  refine r_op (o_indexo rfl (by kernel_rfl) rfl rfl rfl b4 (at_lt b4 hz3)) ?_
  refine r_guard rfl rfl rfl (fun _ => ?_) (nc g1)
  refine r_op (o_load1o rfl (by kernel_rfl) rfl rfl rfl hz3) ?_
  refine r_guard rfl rfl rfl (fun _ => ?_) (nc g1)
  refine r_op (o_lenS rfl Tryz.underlying9 rfl) ?_
  refine r_guard rfl rfl rfl (fun _ => ?_) (nc g1)
  refine r_op oB ?_
  refine r_op (o_pickT rfl rfl g1 rfl) ?_
  refine r_end ?_
  refine t_cond rfl (fun h5 => ?_) (fun h5 => ?_)
  ·
   have h5' := of_decide_eq_true h5
   refine t_draw (fun i => !(Nat.beq i 16)) (by kernel_rfl) ?_
   refine dT 0 rfl pM ?_
   refine dT 1 rfl pM ?_
   obtain ⟨z6, hz7, b8⟩ := at_get (xs := spl (u8 (61)) (s)) (n := 0) (by omega) (by omega)
   refine dT 2 rfl (p_indexo (by kernel_rfl) rfl rfl rfl b8 (at_lt b8 hz7)) ?_
   refine dT 3 rfl (p_load1o (by kernel_rfl) rfl rfl rfl hz7) ?_
   refine dT 5 rfl pM ?_
   refine dT 6 rfl (p_indexo (by kernel_rfl) rfl rfl rfl b4 (at_lt b4 hz3)) ?_
   refine dT 7 rfl (p_load1o (by kernel_rfl) rfl rfl rfl hz3) ?_
   refine dT 8 rfl (p_subSh Tryz.underlying9 rfl rfl (by omega) (by omega)) ?_
   refine dT 10 rfl pM ?_
   refine dT 11 rfl (p_indexo (by kernel_rfl) rfl rfl rfl b4 (at_lt b4 hz3)) ?_
   refine dT 12 rfl (p_load1o (by kernel_rfl) rfl rfl rfl hz3) ?_
   refine dT 13 rfl (p_subSl Tryz.underlying9 rfl rfl (by omega) (by omega)) ?_
   refine dO 4 rfl (o_call 4 5 false (Go.Proofs.enters_of Tryz.func21 (by kernel_rfl) rfl) (c_spec_l10Read (rs) (z6) (by omega) (by exact Nat.le_trans (piece_len (by assumption)) (by omega))) rfl (.cons rfl (.c .t0) (.cons rfl (.c .t0) .nil)) rfl rfl rfl) ?_
   refine dO 9 rfl (o_call 5 5 false (Go.Proofs.enters_of Tryz.func22 (by kernel_rfl) rfl) (c_spec_l10Term ((z2).take ((1 : Int)).toNat)) rfl (.cons rfl (.c .t0) .nil) rfl rfl rfl) ?_
   refine dO 14 rfl (o_call 5 5 false (Go.Proofs.enters_of Tryz.func22 (by kernel_rfl) rfl) (c_spec_l10Term ((z2).drop ((1 : Int)).toNat)) rfl (.cons rfl (.c .t0) .nil) rfl rfl rfl) ?_
   refine dT 15 rfl (p_build (pl := [(0, 1), (1, 1), (2, 1), (3, 1), (4, 1)]) (zs := [.slice none 0 0, .slice none 0 0, .bool (false), .int .i64 (0), .int .i64 (0)]) (by kernel_rfl) (by kernel_rfl) rfl rfl rfl) ?_
   refine dO 16 rfl (oS 5) ?_
   refine d_end (by kernel_rfl) ?_
   refine t_seq ?_
   refine tsr ?_
   refine r_op oM ?_
   refine r_op (oC 5) ?_
   refine r_op (o_call 5 5 false (Go.Proofs.enters_of Tryz.func23 (by kernel_rfl) rfl) (c_spec_FormatDependency (rs) (rAs (rs) (z6)) ([]) (true) (tmF ((z2).take ((1 : Int)).toNat)) (tmF ((z2).drop ((1 : Int)).toNat)) (by omega) (by exact Nat.le_trans (Nat.add_le_add (rAs_in (by assumption)) (Nat.le_of_eq szS_nil)) (by omega)) (by exact rAs_ok) (by (simp only [List.not_mem_nil, false_implies, implies_true])) (by exact tmF_okI _) (by exact tmF_okI _)) rfl (.cons rfl (.c .t0) (.cons rfl (.agg (.cons (.own rfl) (.cons .nil (.cons .t0 (.cons .t0 (.cons .t0 .nil)))))) .nil)) rfl rfl rfl) ?_
   refine r_op oM ?_
   refine r_op (o_str rfl rfl rfl rfl) ?_
   refine r_op oM ?_
   refine r_guard rfl rfl rfl (fun g9 => ?_) (fun g9 => ?_)
   ·
    have g9' := of_decide_eq_false g9
    refine r_op oM ?_
    refine r_guard rfl rfl rfl (fun _ => ?_) (ncf g9)
    refine r_op (o_str rfl rfl rfl rfl) ?_
    refine r_op (o_pickF rfl rfl g9 rfl) ?_
    refine r_end ?_
    refine t_cond rfl (fun h10 => ?_) (fun h10 => ?_)
    ·
     have h10' := of_decide_eq_true h10
     refine tsr ?_
     refine r_op (o_build rfl (pl := [(0, 1), (1, 1), (2, 1), (3, 1), (4, 1)]) (zs := [.slice none 0 0, .slice none 0 0, .bool (false), .int .i64 (0), .int .i64 (0)]) (by kernel_rfl) (by kernel_rfl) rfl rfl rfl) ?_
     refine r_op (oS 5) ?_
     refine r_op oA ?_
     refine r_end ?_
     refine gt_nilb 5 (b := 0) (o := 0) (et := 64) (sz := 2) true (enS2 encI (enSl 1 encI)) rfl rfl rfl ?_
     refine gt_nilb 6 (b := 0) (o := 1) (et := 64) (sz := 2) true (enS2 encI (enSl 1 encI)) rfl rfl rfl ?_
     refine gt_mv 4 5 rfl rfl rfl ?_
     refine gt_mv 5 6 rfl rfl rfl ?_
     refine t_ret Tryz.func6 (.cells (n := 5) (by kernel_rfl) (by kernel_rfl) rfl rfl rfl (.tmp rfl .nil)) rfl fun E S w u hI hd => ?_
     refine post_mk hI hd ?_ ⟨eqR ?_, ⟨eqR ?_, trivial⟩⟩ rfl rfl rfl <;> clear hI hd
     all_goals ((have K : rD rs s = _ := (by exact rD_a (by omega) (by assumption) (by assumption) (by omega))); (have K2 := par_is (p := rD rs) (rs := rs) K); (rw [K2.2 (by grind)]; first | done | rfl))
    ·
     have h10' := of_decide_eq_false h10
     refine t_skip ?_
     refine tsr ?_
     refine r_op (oC 5) ?_
     refine r_op (oS 5) ?_
     refine r_op oA ?_
     refine r_end ?_
     refine gt_nilb 5 (b := 0) (o := 1) (et := 64) (sz := 2) true (enS2 encI (enSl 1 encI)) rfl rfl rfl ?_
     refine t_ret Tryz.func6 (.cells (n := 5) (by kernel_rfl) (by kernel_rfl) rfl rfl rfl (.tmp rfl .nil)) rfl fun E S w u hI hd => ?_
     refine post_mk hI hd ?_ ⟨eqR ?_, ⟨eqR ?_, trivial⟩⟩ rfl rfl rfl <;> clear hI hd
     all_goals ((have K : rD rs s = _ := (by exact rD_a (by omega) (by assumption) (by assumption) (by omega))); (have K2 := par_is (p := rD rs) (rs := rs) K); (rw [K2.1 (by grind)]; first | done | rfl))
   ·
    have g9' := of_decide_eq_true g9
    refine r_guard rfl rfl rfl (nc g9) (fun _ => ?_)
    refine r_op (o_pickT rfl rfl g9 rfl) ?_
    refine r_end ?_
    refine t_cond rfl (fun _ => ?_) (nc rfl)
    refine tsr ?_
    refine r_op (o_build rfl (pl := [(0, 1), (1, 1), (2, 1), (3, 1), (4, 1)]) (zs := [.slice none 0 0, .slice none 0 0, .bool (false), .int .i64 (0), .int .i64 (0)]) (by kernel_rfl) (by kernel_rfl) rfl rfl rfl) ?_
    refine r_op (oS 5) ?_
    refine r_op oA ?_
    refine r_end ?_
    refine gt_nilb 5 (b := 0) (o := 0) (et := 64) (sz := 2) true (enS2 encI (enSl 1 encI)) rfl rfl rfl ?_
    refine gt_nilb 6 (b := 0) (o := 1) (et := 64) (sz := 2) true (enS2 encI (enSl 1 encI)) rfl rfl rfl ?_
    refine gt_mv 4 5 rfl rfl rfl ?_
    refine gt_mv 5 6 rfl rfl rfl ?_
    refine t_ret Tryz.func6 (.cells (n := 5) (by kernel_rfl) (by kernel_rfl) rfl rfl rfl (.tmp rfl .nil)) rfl fun E S w u hI hd => ?_
    refine post_mk hI hd ?_ ⟨eqR ?_, ⟨eqR ?_, trivial⟩⟩ rfl rfl rfl <;> clear hI hd
    all_goals ((have K : rD rs s = _ := (by exact rD_a (by omega) (by assumption) (by assumption) (by omega))); (have K2 := par_is (p := rD rs) (rs := rs) K); (rw [K2.2 (by grind)]; first | done | rfl))
  ·
   have h5' := of_decide_eq_false h5
   refine tsr ?_
   refine r_op oM ?_
   refine r_op (o_leno rfl rfl rfl rfl) ?_
   refine r_op oB ?_
   refine r_end ?_
   refine t_cond rfl (fun h11 => ?_) (fun h11 => ?_)
   ·
    have h11' := of_decide_eq_true h11
    refine t_draw (fun i => !(Nat.beq i 11)) (by kernel_rfl) ?_
    refine dT 0 rfl pM ?_
    refine dT 1 rfl pM ?_
    obtain ⟨z12, hz13, b14⟩ := at_get (xs := spl (u8 (62)) (s)) (n := 0) (by omega) (by omega)
    refine dT 2 rfl (p_indexo (by kernel_rfl) rfl rfl rfl b14 (at_lt b14 hz13)) ?_
    refine dT 3 rfl (p_load1o (by kernel_rfl) rfl rfl rfl hz13) ?_
    refine dT 5 rfl pM ?_
    refine dT 6 rfl pM ?_
    obtain ⟨z15, hz16, b17⟩ := at_get (xs := spl (u8 (62)) (s)) (n := 1) (by omega) (by omega)
    refine dT 7 rfl (p_indexo (by kernel_rfl) rfl rfl rfl b17 (at_lt b17 hz16)) ?_
    refine dT 8 rfl (p_load1o (by kernel_rfl) rfl rfl rfl hz16) ?_
    refine dO 4 rfl (o_call 4 5 false (Go.Proofs.enters_of Tryz.func21 (by kernel_rfl) rfl) (c_spec_l10Read (rs) (z12) (by omega) (by exact Nat.le_trans (piece_len (by assumption)) (by omega))) rfl (.cons rfl (.c .t0) (.cons rfl (.c .t0) .nil)) rfl rfl rfl) ?_
    refine dO 9 rfl (o_call 5 6 false (Go.Proofs.enters_of Tryz.func21 (by kernel_rfl) rfl) (c_spec_l10Read (rs) (z15) (by omega) (by exact Nat.le_trans (piece_len (by assumption)) (by omega))) rfl (.cons rfl (.c .t0) (.cons rfl (.c .t0) .nil)) rfl rfl rfl) ?_
    refine dT 10 rfl (p_build (pl := [(0, 1), (1, 1), (2, 1), (3, 1), (4, 1)]) (zs := [.slice none 0 0, .slice none 0 0, .bool (false), .int .i64 (0), .int .i64 (0)]) (by kernel_rfl) (by kernel_rfl) rfl rfl rfl) ?_
    refine dO 11 rfl (oS 5) ?_
    refine d_end (by kernel_rfl) ?_
    refine t_seq ?_
    refine tsr ?_
    refine r_op oM ?_
    refine r_op (oC 5) ?_
    refine r_op (o_call 6 6 false (Go.Proofs.enters_of Tryz.func23 (by kernel_rfl) rfl) (c_spec_FormatDependency (rs) (rAs (rs) (z12)) (rAs (rs) (z15)) (false) (0) (0) (by omega) (by exact Nat.le_trans (rAs_two (b := u8 62) (s := s) (by omega) (by assumption) (by assumption)) (by omega)) (by exact rAs_ok) (by exact rAs_ok) (by (unfold okI; omega)) (by (unfold okI; omega))) rfl (.cons rfl (.c .t0) (.cons rfl (.agg (.cons (.own rfl) (.cons (.own rfl) (.cons .t0 (.cons .t0 (.cons .t0 .nil)))))) .nil)) rfl rfl rfl) ?_
    refine r_op oM ?_
    refine r_op (o_str rfl rfl rfl rfl) ?_
    refine r_op oM ?_
    refine r_guard rfl rfl rfl (fun g18 => ?_) (fun g18 => ?_)
    ·
     have g18' := of_decide_eq_false g18
     refine r_op oM ?_
     refine r_guard rfl rfl rfl (fun _ => ?_) (ncf g18)
     refine r_op (o_str rfl rfl rfl rfl) ?_
     refine r_op (o_pickF rfl rfl g18 rfl) ?_
     refine r_end ?_
     refine t_cond rfl (fun h19 => ?_) (fun h19 => ?_)
     ·
      have h19' := of_decide_eq_true h19
      refine tsr ?_
      refine r_op (o_build rfl (pl := [(0, 1), (1, 1), (2, 1), (3, 1), (4, 1)]) (zs := [.slice none 0 0, .slice none 0 0, .bool (false), .int .i64 (0), .int .i64 (0)]) (by kernel_rfl) (by kernel_rfl) rfl rfl rfl) ?_
      refine r_op (oS 5) ?_
      refine r_op oA ?_
      refine r_end ?_
      refine gt_nilb 6 (b := 0) (o := 0) (et := 64) (sz := 2) true (enS2 encI (enSl 1 encI)) rfl rfl rfl ?_
      refine gt_nilb 7 (b := 0) (o := 1) (et := 64) (sz := 2) true (enS2 encI (enSl 1 encI)) rfl rfl rfl ?_
      refine gt_mv 4 6 rfl rfl rfl ?_
      refine gt_mv 5 7 rfl rfl rfl ?_
      refine t_ret Tryz.func6 (.cells (n := 5) (by kernel_rfl) (by kernel_rfl) rfl rfl rfl (.tmp rfl .nil)) rfl fun E S w u hI hd => ?_
      refine post_mk hI hd ?_ ⟨eqR ?_, ⟨eqR ?_, trivial⟩⟩ rfl rfl rfl <;> clear hI hd
      all_goals ((have K : rD rs s = _ := (by exact rD_b (rD_n2 (by assumption) (by omega)) (by omega) (by assumption) (by assumption))); (have K2 := par_is (p := rD rs) (rs := rs) K); (rw [K2.2 (by grind)]; first | done | rfl))
     ·
      have h19' := of_decide_eq_false h19
      refine t_skip ?_
      refine tsr ?_
      refine r_op (oC 5) ?_
      refine r_op (oS 5) ?_
      refine r_op oA ?_
      refine r_end ?_
      refine t_ret Tryz.func6 (.cells (n := 5) (by kernel_rfl) (by kernel_rfl) rfl rfl rfl (.tmp rfl .nil)) rfl fun E S w u hI hd => ?_
      refine post_mk hI hd ?_ ⟨eqR ?_, ⟨eqR ?_, trivial⟩⟩ rfl rfl rfl <;> clear hI hd
      all_goals ((have K : rD rs s = _ := (by exact rD_b (rD_n2 (by assumption) (by omega)) (by omega) (by assumption) (by assumption))); (have K2 := par_is (p := rD rs) (rs := rs) K); (rw [K2.1 (by grind)]; first | done | rfl))
    ·
     have g18' := of_decide_eq_true g18
     refine r_guard rfl rfl rfl (nc g18) (fun _ => ?_)
     refine r_op (o_pickT rfl rfl g18 rfl) ?_
     refine r_end ?_
     refine t_cond rfl (fun _ => ?_) (nc rfl)
     refine tsr ?_
     refine r_op (o_build rfl (pl := [(0, 1), (1, 1), (2, 1), (3, 1), (4, 1)]) (zs := [.slice none 0 0, .slice none 0 0, .bool (false), .int .i64 (0), .int .i64 (0)]) (by kernel_rfl) (by kernel_rfl) rfl rfl rfl) ?_
     refine r_op (oS 5) ?_
     refine r_op oA ?_
     refine r_end ?_
     refine gt_nilb 6 (b := 0) (o := 0) (et := 64) (sz := 2) true (enS2 encI (enSl 1 encI)) rfl rfl rfl ?_
     refine gt_nilb 7 (b := 0) (o := 1) (et := 64) (sz := 2) true (enS2 encI (enSl 1 encI)) rfl rfl rfl ?_
     refine gt_mv 4 6 rfl rfl rfl ?_
     refine gt_mv 5 7 rfl rfl rfl ?_
     refine t_ret Tryz.func6 (.cells (n := 5) (by kernel_rfl) (by kernel_rfl) rfl rfl rfl (.tmp rfl .nil)) rfl fun E S w u hI hd => ?_
     refine post_mk hI hd ?_ ⟨eqR ?_, ⟨eqR ?_, trivial⟩⟩ rfl rfl rfl <;> clear hI hd
     all_goals ((have K : rD rs s = _ := (by exact rD_b (rD_n2 (by assumption) (by omega)) (by omega) (by assumption) (by assumption))); (have K2 := par_is (p := rD rs) (rs := rs) K); (rw [K2.2 (by grind)]; first | done | rfl))
   ·
    have h11' := of_decide_eq_false h11
    refine t_skip ?_
    refine t_seq ?_
    refine tsr ?_
    refine r_op oM ?_
    refine r_op (oC 5) ?_
    refine r_op (o_call 4 4 false (Go.Proofs.enters_of Tryz.func23 (by kernel_rfl) rfl) (c_spec_FormatDependency (rs) ([]) ([]) (false) (0) (0) (by omega) (by (simp [szS]; done)) (by (simp only [List.not_mem_nil, false_implies, implies_true])) (by (simp only [List.not_mem_nil, false_implies, implies_true])) (by (unfold okI; omega)) (by (unfold okI; omega))) rfl (.cons rfl (.c .t0) (.cons rfl (.agg (.cons .nil (.cons .nil (.cons .t0 (.cons .t0 (.cons .t0 .nil)))))) .nil)) rfl rfl rfl) ?_
    refine r_op oM ?_
    refine r_op (o_str rfl rfl rfl rfl) ?_
    refine r_op oM ?_
    refine r_guard rfl rfl rfl (fun g20 => ?_) (fun g20 => ?_)
    ·
     have g20' := of_decide_eq_false g20
     refine r_op oM ?_
     refine r_guard rfl rfl rfl (fun _ => ?_) (ncf g20)
     refine r_op (o_str rfl rfl rfl rfl) ?_
     refine r_op (o_pickF rfl rfl g20 rfl) ?_
     refine r_end ?_
     refine t_cond rfl (fun h21 => ?_) (fun h21 => ?_)
     ·
      have h21' := of_decide_eq_true h21
      refine tsr ?_
      refine r_op (o_build rfl (pl := [(0, 1), (1, 1), (2, 1), (3, 1), (4, 1)]) (zs := [.slice none 0 0, .slice none 0 0, .bool (false), .int .i64 (0), .int .i64 (0)]) (by kernel_rfl) (by kernel_rfl) rfl rfl rfl) ?_
      refine r_op (oS 5) ?_
      refine r_op oA ?_
      refine r_end ?_
      refine gt_nilb 4 (b := 0) (o := 0) (et := 64) (sz := 2) true (enS2 encI (enSl 1 encI)) rfl rfl rfl ?_
      refine gt_nilb 5 (b := 0) (o := 1) (et := 64) (sz := 2) true (enS2 encI (enSl 1 encI)) rfl rfl rfl ?_
      refine t_ret Tryz.func6 (.cells (n := 5) (by kernel_rfl) (by kernel_rfl) rfl rfl rfl (.tmp rfl .nil)) rfl fun E S w u hI hd => ?_
      refine post_mk hI hd ?_ ⟨eqR ?_, ⟨eqR ?_, trivial⟩⟩ rfl rfl rfl <;> clear hI hd
      all_goals ((have K : rD rs s = _ := (by exact rD_c (rD_n2 (by assumption) (by omega)) (by omega))); (have K2 := par_is (p := rD rs) (rs := rs) K); (rw [K2.2 (by grind)]; first | done | rfl))
     ·
      have h21' := of_decide_eq_false h21
      refine t_skip ?_
      refine tsr ?_
      refine r_op (oC 5) ?_
      refine r_op (oS 5) ?_
      refine r_op oA ?_
      refine r_end ?_
      refine gt_nilb 4 (b := 0) (o := 0) (et := 64) (sz := 2) true (enS2 encI (enSl 1 encI)) rfl rfl rfl ?_
      refine gt_nilb 5 (b := 0) (o := 1) (et := 64) (sz := 2) true (enS2 encI (enSl 1 encI)) rfl rfl rfl ?_
      refine t_ret Tryz.func6 (.cells (n := 5) (by kernel_rfl) (by kernel_rfl) rfl rfl rfl (.tmp rfl .nil)) rfl fun E S w u hI hd => ?_
      refine post_mk hI hd ?_ ⟨eqR ?_, ⟨eqR ?_, trivial⟩⟩ rfl rfl rfl <;> clear hI hd
      all_goals ((have K : rD rs s = _ := (by exact rD_c (rD_n2 (by assumption) (by omega)) (by omega))); (have K2 := par_is (p := rD rs) (rs := rs) K); (rw [K2.1 (by grind)]; first | done | rfl))
    ·
     have g20' := of_decide_eq_true g20
     refine r_guard rfl rfl rfl (nc g20) (fun _ => ?_)
     refine r_op (o_pickT rfl rfl g20 rfl) ?_
     refine r_end ?_
     refine t_cond rfl (fun _ => ?_) (nc rfl)
     refine tsr ?_
     refine r_op (o_build rfl (pl := [(0, 1), (1, 1), (2, 1), (3, 1), (4, 1)]) (zs := [.slice none 0 0, .slice none 0 0, .bool (false), .int .i64 (0), .int .i64 (0)]) (by kernel_rfl) (by kernel_rfl) rfl rfl rfl) ?_
     refine r_op (oS 5) ?_
     refine r_op oA ?_
     refine r_end ?_
     refine gt_nilb 4 (b := 0) (o := 0) (et := 64) (sz := 2) true (enS2 encI (enSl 1 encI)) rfl rfl rfl ?_
     refine gt_nilb 5 (b := 0) (o := 1) (et := 64) (sz := 2) true (enS2 encI (enSl 1 encI)) rfl rfl rfl ?_
     refine t_ret Tryz.func6 (.cells (n := 5) (by kernel_rfl) (by kernel_rfl) rfl rfl rfl (.tmp rfl .nil)) rfl fun E S w u hI hd => ?_
     refine post_mk hI hd ?_ ⟨eqR ?_, ⟨eqR ?_, trivial⟩⟩ rfl rfl rfl <;> clear hI hd
     all_goals ((have K : rD rs s = _ := (by exact rD_c (rD_n2 (by assumption) (by omega)) (by omega))); (have K2 := par_is (p := rD rs) (rs := rs) K); (rw [K2.2 (by grind)]; first | done | rfl))
 ·
  have g1' := of_decide_eq_false g1
  refine r_guard rfl rfl rfl (ncf g1) (fun _ => ?_)
  refine r_guard rfl rfl rfl (ncf g1) (fun _ => ?_)
  refine r_guard rfl rfl rfl (ncf g1) (fun _ => ?_)
  refine r_guard rfl rfl rfl (ncf g1) (fun _ => ?_)
  refine r_op (o_pickF rfl rfl g1 rfl) ?_
  refine r_end ?_
  refine t_cond rfl (ncf rfl) (fun _ => ?_)
  refine tsr ?_
  refine r_op oM ?_
  refine r_op (o_leno rfl rfl rfl rfl) ?_
  refine r_op oB ?_
  refine r_end ?_
  refine t_cond rfl (fun h22 => ?_) (fun h22 => ?_)
  ·
   have h22' := of_decide_eq_true h22
   refine t_draw (fun i => !(Nat.beq i 11)) (by kernel_rfl) ?_
   refine dT 0 rfl pM ?_
   refine dT 1 rfl pM ?_
   obtain ⟨z23, hz24, b25⟩ := at_get (xs := spl (u8 (62)) (s)) (n := 0) (by omega) (by omega)
   refine dT 2 rfl (p_indexo (by kernel_rfl) rfl rfl rfl b25 (at_lt b25 hz24)) ?_
   refine dT 3 rfl (p_load1o (by kernel_rfl) rfl rfl rfl hz24) ?_
   refine dT 5 rfl pM ?_
   refine dT 6 rfl pM ?_
   obtain ⟨z26, hz27, b28⟩ := at_get (xs := spl (u8 (62)) (s)) (n := 1) (by omega) (by omega)
   refine dT 7 rfl (p_indexo (by kernel_rfl) rfl rfl rfl b28 (at_lt b28 hz27)) ?_
   refine dT 8 rfl (p_load1o (by kernel_rfl) rfl rfl rfl hz27) ?_
   refine dO 4 rfl (o_call 4 5 false (Go.Proofs.enters_of Tryz.func21 (by kernel_rfl) rfl) (c_spec_l10Read (rs) (z23) (by omega) (by exact Nat.le_trans (piece_len (by assumption)) (by omega))) rfl (.cons rfl (.c .t0) (.cons rfl (.c .t0) .nil)) rfl rfl rfl) ?_
   refine dO 9 rfl (o_call 5 6 false (Go.Proofs.enters_of Tryz.func21 (by kernel_rfl) rfl) (c_spec_l10Read (rs) (z26) (by omega) (by exact Nat.le_trans (piece_len (by assumption)) (by omega))) rfl (.cons rfl (.c .t0) (.cons rfl (.c .t0) .nil)) rfl rfl rfl) ?_
   refine dT 10 rfl (p_build (pl := [(0, 1), (1, 1), (2, 1), (3, 1), (4, 1)]) (zs := [.slice none 0 0, .slice none 0 0, .bool (false), .int .i64 (0), .int .i64 (0)]) (by kernel_rfl) (by kernel_rfl) rfl rfl rfl) ?_
   refine dO 11 rfl (oS 5) ?_
   refine d_end (by kernel_rfl) ?_
   refine t_seq ?_
   refine tsr ?_
   refine r_op oM ?_
   refine r_op (oC 5) ?_
   refine r_op (o_call 6 6 false (Go.Proofs.enters_of Tryz.func23 (by kernel_rfl) rfl) (c_spec_FormatDependency (rs) (rAs (rs) (z23)) (rAs (rs) (z26)) (false) (0) (0) (by omega) (by exact Nat.le_trans (rAs_two (b := u8 62) (s := s) (by omega) (by assumption) (by assumption)) (by omega)) (by exact rAs_ok) (by exact rAs_ok) (by (unfold okI; omega)) (by (unfold okI; omega))) rfl (.cons rfl (.c .t0) (.cons rfl (.agg (.cons (.own rfl) (.cons (.own rfl) (.cons .t0 (.cons .t0 (.cons .t0 .nil)))))) .nil)) rfl rfl rfl) ?_
   refine r_op oM ?_
   refine r_op (o_str rfl rfl rfl rfl) ?_
   refine r_op oM ?_
   refine r_guard rfl rfl rfl (fun g29 => ?_) (fun g29 => ?_)
   ·
    have g29' := of_decide_eq_false g29
    refine r_op oM ?_
    refine r_guard rfl rfl rfl (fun _ => ?_) (ncf g29)
    refine r_op (o_str rfl rfl rfl rfl) ?_
    refine r_op (o_pickF rfl rfl g29 rfl) ?_
    refine r_end ?_
    refine t_cond rfl (fun h30 => ?_) (fun h30 => ?_)
    ·
     have h30' := of_decide_eq_true h30
     refine tsr ?_
     refine r_op (o_build rfl (pl := [(0, 1), (1, 1), (2, 1), (3, 1), (4, 1)]) (zs := [.slice none 0 0, .slice none 0 0, .bool (false), .int .i64 (0), .int .i64 (0)]) (by kernel_rfl) (by kernel_rfl) rfl rfl rfl) ?_
     refine r_op (oS 5) ?_
     refine r_op oA ?_
     refine r_end ?_
     refine gt_nilb 6 (b := 0) (o := 0) (et := 64) (sz := 2) true (enS2 encI (enSl 1 encI)) rfl rfl rfl ?_
     refine gt_nilb 7 (b := 0) (o := 1) (et := 64) (sz := 2) true (enS2 encI (enSl 1 encI)) rfl rfl rfl ?_
     refine gt_mv 4 6 rfl rfl rfl ?_
     refine gt_mv 5 7 rfl rfl rfl ?_
     refine t_ret Tryz.func6 (.cells (n := 5) (by kernel_rfl) (by kernel_rfl) rfl rfl rfl (.tmp rfl .nil)) rfl fun E S w u hI hd => ?_
     refine post_mk hI hd ?_ ⟨eqR ?_, ⟨eqR ?_, trivial⟩⟩ rfl rfl rfl <;> clear hI hd
     all_goals ((have K : rD rs s = _ := (by exact rD_b (rD_n1 (by omega)) (by omega) (by assumption) (by assumption))); (have K2 := par_is (p := rD rs) (rs := rs) K); (rw [K2.2 (by grind)]; first | done | rfl))
    ·
     have h30' := of_decide_eq_false h30
     refine t_skip ?_
     refine tsr ?_
     refine r_op (oC 5) ?_
     refine r_op (oS 5) ?_
     refine r_op oA ?_
     refine r_end ?_
     refine t_ret Tryz.func6 (.cells (n := 5) (by kernel_rfl) (by kernel_rfl) rfl rfl rfl (.tmp rfl .nil)) rfl fun E S w u hI hd => ?_
     refine post_mk hI hd ?_ ⟨eqR ?_, ⟨eqR ?_, trivial⟩⟩ rfl rfl rfl <;> clear hI hd
     all_goals ((have K : rD rs s = _ := (by exact rD_b (rD_n1 (by omega)) (by omega) (by assumption) (by assumption))); (have K2 := par_is (p := rD rs) (rs := rs) K); (rw [K2.1 (by grind)]; first | done | rfl))
   ·
    have g29' := of_decide_eq_true g29
    refine r_guard rfl rfl rfl (nc g29) (fun _ => ?_)
    refine r_op (o_pickT rfl rfl g29 rfl) ?_
    refine r_end ?_
    refine t_cond rfl (fun _ => ?_) (nc rfl)
    refine tsr ?_
    refine r_op (o_build rfl (pl := [(0, 1), (1, 1), (2, 1), (3, 1), (4, 1)]) (zs := [.slice none 0 0, .slice none 0 0, .bool (false), .int .i64 (0), .int .i64 (0)]) (by kernel_rfl) (by kernel_rfl) rfl rfl rfl) ?_
    refine r_op (oS 5) ?_
    refine r_op oA ?_
    refine r_end ?_
    refine gt_nilb 6 (b := 0) (o := 0) (et := 64) (sz := 2) true (enS2 encI (enSl 1 encI)) rfl rfl rfl ?_
    refine gt_nilb 7 (b := 0) (o := 1) (et := 64) (sz := 2) true (enS2 encI (enSl 1 encI)) rfl rfl rfl ?_
    refine gt_mv 4 6 rfl rfl rfl ?_
    refine gt_mv 5 7 rfl rfl rfl ?_
    refine t_ret Tryz.func6 (.cells (n := 5) (by kernel_rfl) (by kernel_rfl) rfl rfl rfl (.tmp rfl .nil)) rfl fun E S w u hI hd => ?_
    refine post_mk hI hd ?_ ⟨eqR ?_, ⟨eqR ?_, trivial⟩⟩ rfl rfl rfl <;> clear hI hd
    all_goals ((have K : rD rs s = _ := (by exact rD_b (rD_n1 (by omega)) (by omega) (by assumption) (by assumption))); (have K2 := par_is (p := rD rs) (rs := rs) K); (rw [K2.2 (by grind)]; first | done | rfl))
  ·
   have h22' := of_decide_eq_false h22
   refine t_skip ?_
   refine t_seq ?_
   refine tsr ?_
   refine r_op oM ?_
   refine r_op (oC 5) ?_
   refine r_op (o_call 4 4 false (Go.Proofs.enters_of Tryz.func23 (by kernel_rfl) rfl) (c_spec_FormatDependency (rs) ([]) ([]) (false) (0) (0) (by omega) (by (simp [szS]; done)) (by (simp only [List.not_mem_nil, false_implies, implies_true])) (by (simp only [List.not_mem_nil, false_implies, implies_true])) (by (unfold okI; omega)) (by (unfold okI; omega))) rfl (.cons rfl (.c .t0) (.cons rfl (.agg (.cons .nil (.cons .nil (.cons .t0 (.cons .t0 (.cons .t0 .nil)))))) .nil)) rfl rfl rfl) ?_
   refine r_op oM ?_
   refine r_op (o_str rfl rfl rfl rfl) ?_
   refine r_op oM ?_
   refine r_guard rfl rfl rfl (fun g31 => ?_) (fun g31 => ?_)
   ·
    have g31' := of_decide_eq_false g31
    refine r_op oM ?_
    refine r_guard rfl rfl rfl (fun _ => ?_) (ncf g31)
    refine r_op (o_str rfl rfl rfl rfl) ?_
    refine r_op (o_pickF rfl rfl g31 rfl) ?_
    refine r_end ?_
    refine t_cond rfl (fun h32 => ?_) (fun h32 => ?_)
    ·
     have h32' := of_decide_eq_true h32
     refine tsr ?_
     refine r_op (o_build rfl (pl := [(0, 1), (1, 1), (2, 1), (3, 1), (4, 1)]) (zs := [.slice none 0 0, .slice none 0 0, .bool (false), .int .i64 (0), .int .i64 (0)]) (by kernel_rfl) (by kernel_rfl) rfl rfl rfl) ?_
     refine r_op (oS 5) ?_
     refine r_op oA ?_
     refine r_end ?_
     refine gt_nilb 4 (b := 0) (o := 0) (et := 64) (sz := 2) true (enS2 encI (enSl 1 encI)) rfl rfl rfl ?_
     refine gt_nilb 5 (b := 0) (o := 1) (et := 64) (sz := 2) true (enS2 encI (enSl 1 encI)) rfl rfl rfl ?_
     refine t_ret Tryz.func6 (.cells (n := 5) (by kernel_rfl) (by kernel_rfl) rfl rfl rfl (.tmp rfl .nil)) rfl fun E S w u hI hd => ?_
     refine post_mk hI hd ?_ ⟨eqR ?_, ⟨eqR ?_, trivial⟩⟩ rfl rfl rfl <;> clear hI hd
     all_goals ((have K : rD rs s = _ := (by exact rD_c (rD_n1 (by omega)) (by omega))); (have K2 := par_is (p := rD rs) (rs := rs) K); (rw [K2.2 (by grind)]; first | done | rfl))
    ·
     have h32' := of_decide_eq_false h32
     refine t_skip ?_
     refine tsr ?_
     refine r_op (oC 5) ?_
     refine r_op (oS 5) ?_
     refine r_op oA ?_
     refine r_end ?_
     refine gt_nilb 4 (b := 0) (o := 0) (et := 64) (sz := 2) true (enS2 encI (enSl 1 encI)) rfl rfl rfl ?_
     refine gt_nilb 5 (b := 0) (o := 1) (et := 64) (sz := 2) true (enS2 encI (enSl 1 encI)) rfl rfl rfl ?_
     refine t_ret Tryz.func6 (.cells (n := 5) (by kernel_rfl) (by kernel_rfl) rfl rfl rfl (.tmp rfl .nil)) rfl fun E S w u hI hd => ?_
     refine post_mk hI hd ?_ ⟨eqR ?_, ⟨eqR ?_, trivial⟩⟩ rfl rfl rfl <;> clear hI hd
     all_goals ((have K : rD rs s = _ := (by exact rD_c (rD_n1 (by omega)) (by omega))); (have K2 := par_is (p := rD rs) (rs := rs) K); (rw [K2.1 (by grind)]; first | done | rfl))
   ·
    have g31' := of_decide_eq_true g31
    refine r_guard rfl rfl rfl (nc g31) (fun _ => ?_)
    refine r_op (o_pickT rfl rfl g31 rfl) ?_
    refine r_end ?_
    refine t_cond rfl (fun _ => ?_) (nc rfl)
    refine tsr ?_
    refine r_op (o_build rfl (pl := [(0, 1), (1, 1), (2, 1), (3, 1), (4, 1)]) (zs := [.slice none 0 0, .slice none 0 0, .bool (false), .int .i64 (0), .int .i64 (0)]) (by kernel_rfl) (by kernel_rfl) rfl rfl rfl) ?_
    refine r_op (oS 5) ?_
    refine r_op oA ?_
    refine r_end ?_
    refine gt_nilb 4 (b := 0) (o := 0) (et := 64) (sz := 2) true (enS2 encI (enSl 1 encI)) rfl rfl rfl ?_
    refine gt_nilb 5 (b := 0) (o := 1) (et := 64) (sz := 2) true (enS2 encI (enSl 1 encI)) rfl rfl rfl ?_
    refine t_ret Tryz.func6 (.cells (n := 5) (by kernel_rfl) (by kernel_rfl) rfl rfl rfl (.tmp rfl .nil)) rfl fun E S w u hI hd => ?_
    refine post_mk hI hd ?_ ⟨eqR ?_, ⟨eqR ?_, trivial⟩⟩ rfl rfl rfl <;> clear hI hd
    all_goals ((have K : rD rs s = _ := (by exact rD_c (rD_n1 (by omega)) (by omega))); (have K2 := par_is (p := rD rs) (rs := rs) K); (rw [K2.2 (by grind)]; first | done | rfl))
set_option maxHeartbeats 1000000 in
set_option maxRecDepth 10000 in
theorem c_spec_AreValidDependencies (rs : Rels) (l : List Dep) (hrs : rs.length ≤ 4611686018427387904) (hs : szS (fun (x : (List (Int × (List (Int)))) × (List (Int × (List (Int)))) × Bool × Int × Int) => (szS (fun (x : Int × (List (Int))) => (x.2).length) (x.1)) + (szS (fun (x : Int × (List (Int))) => (x.2).length) (x.2.1))) l ≤ 1048600) : Pu Tryz.prog 34 [.c (.t none (.sl 3 (enS3 encS encI encB) (rs))), .c (.t none (.sl 5 (enS5 (enSl 2 (enS2 encI (enSl 1 encI))) (enSl 2 (enS2 encI (enSl 1 encI))) encB encI encI) (l)))] [] 0 (.c (.t none (.v (.bool (depsOk rs l))))) := by
 refine pu_enter Tryz.func34 rfl (Nat.le_of_ble_eq_true rfl) fun w S => ?_
 have gl := sz_len (f := (fun (x : (List (Int × (List (Int)))) × (List (Int × (List (Int)))) × Bool × Int × Int) => (szS (fun (x : Int × (List (Int))) => (x.2).length) (x.1)) + (szS (fun (x : Int × (List (Int))) => (x.2).length) (x.2.1)))) (l := l)
 refine tsr ?_
 refine r_op oA ?_
 refine r_end ?_
 refine t_seq ?_
 refine tsr ?_
 refine r_op oA ?_
 refine r_end ?_
 refine t_block ?_
 refine t_loopL (fun m => ⟨[(0, some (.c (.t none (.sl 3 (enS3 encS encI encB) (rs))))), (1, some (.c (.t none (.sl 5 (enS5 (enSl 2 (enS2 encI (enSl 1 encI))) (enSl 2 (enS2 encI (enSl 1 encI))) encB encI encI) (l))))), (5, some (.c (.t none (.v (.int .i64 ((m : Int)))))))], [], 0⟩ : Nat → St) (fun m => m ≤ l.length ∧ ∀ j z, j < m → l[j]? = some z → badD rs z = false) (fun m => l.length - m) 0 ⟨⟨rfl, ⟨rfl, ⟨rfl, trivial⟩⟩⟩, trivial, rfl⟩ (by exact ⟨Nat.zero_le _, fun j z h => by omega⟩) ?_
 rintro m hI ih0
 try dsimp only at hI ih0
 obtain ⟨i1, i2⟩ := hI; have iA : l.length ≤ m → l.any (badD rs) = false := fun e => any_false i2 e
 refine t_seq ?_
 refine tsr ?_
 refine r_op oM ?_
 refine r_op oM ?_
 refine r_op (o_len rfl rfl rfl) ?_
 refine r_op oB ?_
 refine r_end ?_
 refine t_cond rfl (fun h1 => ?_) (fun h1 => ?_)
 ·
  have h1' := of_decide_eq_true h1
  refine t_skip ?_
  refine t_seq ?_
  refine t_block ?_
  refine tsr ?_
  refine r_op oM ?_
  refine r_op oM ?_
  refine r_op oM ?_
  obtain ⟨z2, hz3, b4⟩ := at_get (xs := l) (n := (m : Int)) (by omega) (by omega)
  refine r_op (o_index rfl (by kernel_rfl) rfl rfl b4 hz3) ?_
  refine r_op (o_loadA rfl (n := 5) (by kernel_rfl) (by kernel_rfl) rfl rfl) ?_
  refine r_op (o_call 0 0 false (Go.Proofs.enters_of Tryz.func40 (by kernel_rfl) rfl) (c_spec_IsValidDependency (rs) (z2.1) (z2.2.1) (z2.2.2.1) (z2.2.2.2.1) (z2.2.2.2.2) (by omega) (by (have e1 := sz_at (f := (fun (x : (List (Int × (List (Int)))) × (List (Int × (List (Int)))) × Bool × Int × Int) => (szS (fun (x : Int × (List (Int))) => (x.2).length) (x.1)) + (szS (fun (x : Int × (List (Int))) => (x.2).length) (x.2.1)))) (l := l) (m := m) (by assumption); (try dsimp only at e1); omega))) rfl (.cons rfl (.c .t0) (.cons rfl (.agg (.cons .t0 (.cons .t0 (.cons .t0 (.cons .t0 (.cons .t0 .nil)))))) .nil)) rfl rfl rfl) ?_
  refine r_op (o_not rfl rfl) ?_
  refine r_end ?_
  refine t_cond rfl (fun h5 => ?_) (fun h5 => ?_)
  ·
   have h5' := (bnt h5)
   refine tsr ?_
   refine r_op oA ?_
   refine r_end ?_
   refine t_ret Tryz.func34 (.tmp rfl .nil) rfl fun E S w u hI hd => ?_
   refine post_mk hI hd ?_ trivial rfl rfl rfl <;> clear hI hd <;> (try clear ih0)
   all_goals (refine scB ?_; (try (have qA := iA (by omega))); (try (have qB := any_true (p := badD rs) (l := l) (m := m) hz3 (by unfold badD; grind))); clear hs gl; unfold depsOk; grind)
  ·
   have h5' := (bnf h5)
   refine t_skip ?_
   refine t_endblock ?_
   refine t_region ?_
   refine r_op oM ?_
   refine r_op oB ?_
   refine r_op oA ?_
   refine r_end ?_
   refine t_le ?_ (ih0 (m + 1) (by (try dsimp only); omega) (by (try dsimp only); exact ⟨by omega, no_step i2 (by assumption) rfl (by unfold badD; grind)⟩))
   exact ⟨⟨rfl, ⟨rfl, ⟨(eqI (wr64 (by omega) (by omega))), trivial⟩⟩⟩, trivial, rfl⟩
 ·
  have h1' := of_decide_eq_false h1
  refine t_exit rfl ?_
  refine tsr ?_
  refine r_op oM ?_
  refine r_op (o_call 0 0 false (Go.Proofs.enters_of Tryz.func51 (by kernel_rfl) rfl) (c_spec_AreValidRelations (rs) (by omega)) rfl (.cons rfl (.c .t0) .nil) rfl rfl rfl) ?_
  refine r_op oM ?_
  refine r_guard rfl rfl rfl (fun g6 => ?_) (fun g6 => ?_)
  ·
   have g6' := g6
   refine r_op oM ?_
   refine r_guard rfl rfl rfl (fun _ => ?_) (nc g6)
   refine r_op (o_len rfl rfl rfl) ?_
   refine r_guard rfl rfl rfl (fun _ => ?_) (nc g6)
   refine r_op oB ?_
   refine r_op (o_pickT rfl rfl g6 rfl) ?_
   refine r_op oA ?_
   refine r_end ?_
   refine t_ret Tryz.func34 (.tmp rfl .nil) rfl fun E S w u hI hd => ?_
   refine post_mk hI hd ?_ trivial rfl rfl rfl <;> clear hI hd <;> (try clear ih0)
   all_goals (refine scB ?_; (try (have qA := iA (by omega))); (try (have qB := any_true (p := badD rs) (l := l) (m := m) (by assumption) (by unfold badD; grind))); clear hs gl; unfold depsOk; grind)
  ·
   have g6' := g6
   refine r_guard rfl rfl rfl (ncf g6) (fun _ => ?_)
   refine r_guard rfl rfl rfl (ncf g6) (fun _ => ?_)
   refine r_op (o_pickF rfl rfl g6 rfl) ?_
   refine r_op oA ?_
   refine r_end ?_
   refine t_ret Tryz.func34 (.tmp rfl .nil) rfl fun E S w u hI hd => ?_
   refine post_mk hI hd ?_ trivial rfl rfl rfl <;> clear hI hd <;> (try clear ih0)
   all_goals (refine scB ?_; (try (have qA := iA (by omega))); (try (have qB := any_true (p := badD rs) (l := l) (m := m) (by assumption) (by unfold badD; grind))); clear hs gl; unfold depsOk; grind)
set_option maxHeartbeats 1000000 in
set_option maxRecDepth 10000 in
theorem c_spec_ParseDependencies (rs : Rels) (s : List UInt8) (hrs : rs.length ≤ 1048576) (hs : s.length ≤ 1048576) : Pu Tryz.prog 14 [.c (.t none (.sl 3 (enS3 encS encI encB) (rs))), .c (.t none (.v (.string (mkS (s)))))] [(0, some (.row none 26 true 5 (enS5 (enSl 2 (enS2 encI (enSl 1 encI))) (enSl 2 (enS2 encI (enSl 1 encI))) encB encI encI) ((parS rs s).1)))] 1 (.tup [(false, [.own 0]), (false, [.t none (.v (.bool ((parS rs s).2)))])]) := by
 refine pu_enter Tryz.func14 rfl (Nat.le_of_ble_eq_true rfl) fun w S => ?_
 refine tsr ?_
 refine r_op oA ?_
 refine r_op oA ?_
 refine etr ?_
 refine r_op (o_lit0 0 (e := 26) (sz := 5) (zs := [.slice none 0 0, .slice none 0 0, .bool (false), .int .i64 (0), .int .i64 (0)]) (enS5 (enSl 2 (enS2 encI (enSl 1 encI))) (enSl 2 (enS2 encI (enSl 1 encI))) encB encI encI) rfl rfl (by kernel_rfl) rfl) ?_
 refine r_op oA ?_
 refine etr ?_
 refine r_op oM ?_
 refine r_op (o_call 1 2 false (Go.Proofs.enters_of Tryz.func20 (by kernel_rfl) rfl) (c_spec_l3Cut (s) (59) (by omega) (by omega)) rfl (.cons rfl (.c .t0) (.cons rfl (.c .t0) .nil)) rfl rfl rfl) ?_
 refine r_op oA ?_
 refine r_end ?_
 refine t_seq ?_
 refine tsr ?_
 refine r_op oA ?_
 refine r_end ?_
 refine t_block ?_
 refine t_loopL (fun m => ⟨[(0, some (.c (.t none (.sl 3 (enS3 encS encI encB) (rs))))), (1, some (.c (.t none (.v (.string (mkS (s))))))), (6, some (.c (.own 0))), (7, some (.c (.own 1))), (8, some (.c (.t none (.v (.int .i64 ((m : Int)))))))], [(0, some (.row none 26 true 5 (enS5 (enSl 2 (enS2 encI (enSl 1 encI))) (enSl 2 (enS2 encI (enSl 1 encI))) encB encI encI) (((spl (u8 59) s).take m).map (fun x => (parD (rD rs) rs x).1)))), (1, some (.row none 9 true 1 encS (spl (u8 (59)) (s))))], 2⟩ : Nat → St) (fun m => m ≤ (spl (u8 59) s).length ∧ (((spl (u8 59) s).take m).all (okP rs) = true ∧ (s = [] → m = 0))) (fun m => (spl (u8 59) s).length - m) 0 ⟨⟨rfl, ⟨rfl, ⟨rfl, ⟨rfl, ⟨rfl, trivial⟩⟩⟩⟩⟩, ⟨rfl, ⟨rfl, trivial⟩⟩, rfl⟩ (by exact ⟨Nat.zero_le _, rfl, fun _ => rfl⟩) ?_
 rintro m hI ih0
 try dsimp only at hI ih0
 obtain ⟨i1, i2, i3⟩ := hI; have l1 := spl_len (b := u8 59) (s := s)
 refine t_seq ?_
 refine tsr ?_
 refine r_op oM ?_
 refine r_op oM ?_
 refine r_op (o_leno rfl rfl rfl rfl) ?_
 refine r_op oB ?_
 refine r_op oM ?_
 refine r_guard rfl rfl rfl (fun g1 => ?_) (fun g1 => ?_)
 ·
  have g1' := of_decide_eq_true g1
  refine r_op oM ?_
  refine r_guard rfl rfl rfl (fun _ => ?_) (nc g1)
  refine r_op (o_str rfl rfl rfl rfl) ?_
  refine r_op (o_pickT rfl rfl g1 rfl) ?_
  refine r_end ?_
  refine t_cond rfl (fun h2 => ?_) (fun h2 => ?_)
  ·
   have h2' := of_decide_eq_true h2
   refine t_skip ?_
   refine t_seq ?_
   refine t_block ?_
   refine tsr ?_
   refine r_op oM ?_
   refine r_op oM ?_
   refine r_op oM ?_
   obtain ⟨z3, hz4, b5⟩ := at_get (xs := spl (u8 (59)) (s)) (n := (m : Int)) (by omega) (by omega)
   refine r_op (o_indexo rfl (by kernel_rfl) rfl rfl rfl b5 (at_lt b5 hz4)) ?_
   refine r_op (o_load1o rfl (by kernel_rfl) rfl rfl rfl hz4) ?_
   refine r_op (o_call 2 8 false (Go.Proofs.enters_of Tryz.func6 (by kernel_rfl) rfl) (c_spec_ParseDependency (rs) (z3) (by omega) (by exact Nat.le_trans (piece_len (by assumption)) (by omega))) rfl (.cons rfl (.c .t0) (.cons rfl (.c .t0) .nil)) rfl rfl rfl) ?_
   refine r_op oM ?_
   refine r_op (o_extract rfl rfl rfl rfl) ?_
   refine r_op (o_extract rfl rfl rfl rfl) ?_
   refine r_op (o_alloc 8 (zs := [.slice none 0 0, .slice none 0 0, .bool (false), .int .i64 (0), .int .i64 (0)]) rfl rfl (by kernel_rfl) rfl) ?_
   refine r_op (oS 5) ?_
   refine r_op oA ?_
   refine r_end ?_
   refine t_seq ?_
   refine tsr ?_
   refine r_op oM ?_
   refine r_op (o_not rfl rfl) ?_
   refine r_end ?_
   refine t_cond rfl (fun h6 => ?_) (fun h6 => ?_)
   ·
    have h6' := (bnt h6)
    refine tsr ?_
    refine r_op (o_lit0 9 (e := 26) (sz := 5) (zs := [.slice none 0 0, .slice none 0 0, .bool (false), .int .i64 (0), .int .i64 (0)]) (enS5 (enSl 2 (enS2 encI (enSl 1 encI))) (enSl 2 (enS2 encI (enSl 1 encI))) encB encI encI) rfl rfl (by kernel_rfl) rfl) ?_
    refine r_op oA ?_
    refine r_op oA ?_
    refine r_end ?_
    refine gt_mv 0 9 rfl rfl rfl ?_
    refine t_ret Tryz.func14 (.tmp rfl (.tmp rfl .nil)) rfl fun E S w u hI hd => ?_
    refine post_mk hI hd ?_ ⟨eqR ?_, trivial⟩ rfl rfl rfl <;> clear hI hd <;> (try clear ih0)
    all_goals ((have K : parS rs s = _ := (by exact ps_rej (of_decide_eq_true (by assumption)) hz4 (by assumption))); rw [K]; (first | done | rfl))
   ·
    have h6' := (bnf h6)
    refine t_skip ?_
    refine t_region ?_
    refine r_op oM ?_
    refine r_op (oC 5) ?_
    refine r_op (o_litS 9 (e := 26) (sz := 5) (zs := [.slice none 0 0, .slice none 0 0, .bool (false), .int .i64 (0), .int .i64 (0)]) rfl rfl (by kernel_rfl) rfl rfl rfl rfl rfl) ?_
    refine r_op (o_append 0 (e := 26) (sz := 5) (by' := 72) (((parD (rD (rs)) (rs) (z3)).1.1, (parD (rD (rs)) (rs) (z3)).1.2.1, (parD (rD (rs)) (rs) (z3)).1.2.2.1, (parD (rD (rs)) (rs) (z3)).1.2.2.2.1, (parD (rD (rs)) (rs) (z3)).1.2.2.2.2)) rfl (by kernel_rfl) rfl rfl rfl rfl rfl rfl (.take (.own rfl) rfl (.take (.own rfl) rfl (.cons .sc (.cons .sc (.cons .sc .nil))))) rfl (by (simp; omega)) (by (simp; omega))) ?_
    refine r_op oA ?_
    refine r_end ?_
    refine t_endblock ?_
    refine t_region ?_
    refine r_op oM ?_
    refine r_op oB ?_
    refine r_op oA ?_
    refine r_end ?_
    refine t_le ?_ (ih0 (m + 1) (by (try dsimp only); omega) (by (try dsimp only); exact ⟨by omega, all_snoc i2 hz4 (by assumption), fun e => absurd e (of_decide_eq_true (by assumption))⟩))
    exact ⟨⟨rfl, ⟨rfl, ⟨rfl, ⟨rfl, ⟨(eqI (wr64 (by omega) (by omega))), trivial⟩⟩⟩⟩⟩, ⟨(eqR (map_snoc hz4)), ⟨rfl, trivial⟩⟩, rfl⟩
  ·
   have h2' := of_decide_eq_false h2
   refine t_exit rfl ?_
   refine t_seq ?_
   refine tsr ?_
   refine r_op oM ?_
   refine r_op oM ?_
   refine r_op (o_call 2 2 false (Go.Proofs.enters_of Tryz.func34 (by kernel_rfl) rfl) (c_spec_AreValidDependencies (rs) (((spl (u8 59) s).take m).map (fun x => (parD (rD rs) rs x).1)) (by omega) (by exact Nat.le_trans (ds_room i2) (by omega))) rfl (.cons rfl (.c .t0) (.cons rfl (.c (.own rfl)) .nil)) rfl rfl rfl) ?_
   refine r_op (o_not rfl rfl) ?_
   refine r_end ?_
   refine t_cond rfl (fun h7 => ?_) (fun h7 => ?_)
   ·
    have h7' := (bnt h7)
    refine tsr ?_
    refine r_op (o_lit0 2 (e := 26) (sz := 5) (zs := [.slice none 0 0, .slice none 0 0, .bool (false), .int .i64 (0), .int .i64 (0)]) (enS5 (enSl 2 (enS2 encI (enSl 1 encI))) (enSl 2 (enS2 encI (enSl 1 encI))) encB encI encI) rfl rfl (by kernel_rfl) rfl) ?_
    refine r_op oA ?_
    refine r_op oA ?_
    refine r_end ?_
    refine gt_mv 0 2 rfl rfl rfl ?_
    refine t_ret Tryz.func14 (.tmp rfl (.tmp rfl .nil)) rfl fun E S w u hI hd => ?_
    refine post_mk hI hd ?_ ⟨eqR ?_, trivial⟩ rfl rfl rfl <;> clear hI hd <;> (try clear ih0)
    all_goals ((have K : parS rs s = _ := (by exact ps_nil_no (by assumption) i3 (by assumption))); rw [K]; (first | done | rfl))
   ·
    have h7' := (bnf h7)
    refine t_skip ?_
    refine tsr ?_
    refine r_op oM ?_
    refine r_op oA ?_
    refine r_op oA ?_
    refine r_end ?_
    refine t_ret Tryz.func14 (.tmp rfl (.tmp rfl .nil)) rfl fun E S w u hI hd => ?_
    refine post_mk hI hd ?_ ⟨eqR ?_, trivial⟩ rfl rfl rfl <;> clear hI hd <;> (try clear ih0)
    all_goals ((have K : parS rs s = _ := (by exact ps_nil_yes (by assumption) i3 (by assumption))); rw [K]; ((done)))
 ·
  have g1' := of_decide_eq_false g1
  refine r_guard rfl rfl rfl (ncf g1) (fun _ => ?_)
  refine r_op (o_pickF rfl rfl g1 rfl) ?_
  refine r_end ?_
  refine t_cond rfl (ncf rfl) (fun _ => ?_)
  refine t_exit rfl ?_
  refine t_seq ?_
  refine tsr ?_
  refine r_op oM ?_
  refine r_op oM ?_
  refine r_op (o_call 2 2 false (Go.Proofs.enters_of Tryz.func34 (by kernel_rfl) rfl) (c_spec_AreValidDependencies (rs) (((spl (u8 59) s).take m).map (fun x => (parD (rD rs) rs x).1)) (by omega) (by exact Nat.le_trans (ds_room i2) (by omega))) rfl (.cons rfl (.c .t0) (.cons rfl (.c (.own rfl)) .nil)) rfl rfl rfl) ?_
  refine r_op (o_not rfl rfl) ?_
  refine r_end ?_
  refine t_cond rfl (fun h8 => ?_) (fun h8 => ?_)
  ·
   have h8' := (bnt h8)
   refine tsr ?_
   refine r_op (o_lit0 2 (e := 26) (sz := 5) (zs := [.slice none 0 0, .slice none 0 0, .bool (false), .int .i64 (0), .int .i64 (0)]) (enS5 (enSl 2 (enS2 encI (enSl 1 encI))) (enSl 2 (enS2 encI (enSl 1 encI))) encB encI encI) rfl rfl (by kernel_rfl) rfl) ?_
   refine r_op oA ?_
   refine r_op oA ?_
   refine r_end ?_
   refine gt_mv 0 2 rfl rfl rfl ?_
   refine t_ret Tryz.func14 (.tmp rfl (.tmp rfl .nil)) rfl fun E S w u hI hd => ?_
   refine post_mk hI hd ?_ ⟨eqR ?_, trivial⟩ rfl rfl rfl <;> clear hI hd <;> (try clear ih0)
   all_goals ((have K : parS rs s = _ := (by exact ps_no (by omega) i3 (by assumption))); rw [K]; (first | done | rfl))
  ·
   have h8' := (bnf h8)
   refine t_skip ?_
   refine tsr ?_
   refine r_op oM ?_
   refine r_op oA ?_
   refine r_op oA ?_
   refine r_end ?_
   refine t_ret Tryz.func14 (.tmp rfl (.tmp rfl .nil)) rfl fun E S w u hI hd => ?_
   refine post_mk hI hd ?_ ⟨eqR ?_, trivial⟩ rfl rfl rfl <;> clear hI hd <;> (try clear ih0)
   all_goals ((have K : parS rs s = _ := (by exact ps_yes (by omega) i3 i2 (by assumption))); rw [K]; ((done)))
set_option maxHeartbeats 1000000 in
set_option maxRecDepth 10000 in
theorem c_impl_within (a0 a1 a2 : Int) : Pu Tryz.prog 72 [.c (.t none (.v (.int .i64 (a0)))), .c (.t none (.v (.int .i64 (a1)))), .c (.t none (.v (.int .i64 (a2))))] [] 0 (.c (.t none (.v (.bool (decide (a1 ≤ a0 ∧ a0 ≤ a2)))))) := by
 refine pu_enter Tryz.func72 rfl (Nat.le_of_ble_eq_true rfl) fun w S => ?_
 refine tsr ?_
 refine r_op oA ?_
 refine etr ?_
 refine r_op oM ?_
 refine r_op oM ?_
 refine r_op oB ?_
 refine r_op oM ?_
 refine r_guard rfl rfl rfl (fun g1 => ?_) (fun g1 => ?_)
 ·
  have g1' := of_decide_eq_true g1
  refine r_op oM ?_
  refine r_guard rfl rfl rfl (fun _ => ?_) (nc g1)
  refine r_op oM ?_
  refine r_guard rfl rfl rfl (fun _ => ?_) (nc g1)
  refine r_op oB ?_
  refine r_op (o_pickT rfl rfl g1 rfl) ?_
  refine r_op oA ?_
  refine r_end ?_
  refine t_ret Tryz.func72 (.tmp rfl .nil) rfl fun E S w u hI hd => ?_
  refine post_mk hI hd ?_ trivial rfl rfl rfl <;> clear hI hd
  all_goals (simp_all <;> omega)
 ·
  have g1' := of_decide_eq_false g1
  refine r_guard rfl rfl rfl (ncf g1) (fun _ => ?_)
  refine r_guard rfl rfl rfl (ncf g1) (fun _ => ?_)
  refine r_op (o_pickF rfl rfl g1 rfl) ?_
  refine r_op oA ?_
  refine r_end ?_
  refine t_ret Tryz.func72 (.tmp rfl .nil) rfl fun E S w u hI hd => ?_
  refine post_mk hI hd ?_ trivial rfl rfl rfl <;> clear hI hd
  all_goals (simp_all <;> omega)
set_option maxHeartbeats 1000000 in
set_option maxRecDepth 10000 in
theorem c_impl_IsValidRelation (n : List UInt8) (a : Int) (s : Bool) : Pu Tryz.prog 52 [.agg [.t none (.v (.string (mkS (n)))), .t none (.v (.int .i64 (a))), .t none (.v (.bool (s)))]] [] 0 (.c (.t none (.v (.bool (relOk (n, a, s)))))) := by
 refine pu_enter Tryz.func52 rfl (Nat.le_of_ble_eq_true rfl) fun w S => ?_
 refine tsr ?_
 refine r_op (o_box 0 rfl rfl rfl rfl) ?_
 refine r_op oA ?_
 refine etr ?_
 refine r_op (oF 0) ?_
 refine r_op oL ?_
 refine r_op (o_lenS rfl Tryz.underlying9 rfl) ?_
 refine r_op oB ?_
 refine r_op oM ?_
 refine r_guard rfl rfl rfl (fun g1 => ?_) (fun g1 => ?_)
 ·
  have g1' := of_decide_eq_true g1
  refine r_op (oF 0) ?_
  refine r_guard rfl rfl rfl (fun _ => ?_) (nc g1)
  refine r_op oL ?_
  refine r_guard rfl rfl rfl (fun _ => ?_) (nc g1)
  refine r_op (o_str rfl rfl rfl rfl) ?_
  refine r_op (o_pickT rfl rfl g1 rfl) ?_
  refine r_op oM ?_
  refine r_guard rfl rfl rfl (fun g2 => ?_) (fun g2 => ?_)
  ·
   have g2' := (bnt g2)
   refine r_op (oF 0) ?_
   refine r_guard rfl rfl rfl (fun _ => ?_) (nc g2)
   refine r_op oL ?_
   refine r_guard rfl rfl rfl (fun _ => ?_) (nc g2)
   refine r_op (o_str rfl rfl rfl rfl) ?_
   refine r_op (o_pickT rfl rfl g2 rfl) ?_
   refine r_op oM ?_
   refine r_guard rfl rfl rfl (fun g3 => ?_) (fun g3 => ?_)
   ·
    have g3' := (bnt g3)
    refine r_op (oF 1) ?_
    refine r_guard rfl rfl rfl (fun _ => ?_) (nc g3)
    refine r_op oL ?_
    refine r_guard rfl rfl rfl (fun _ => ?_) (nc g3)
    refine r_op (o_call 1 1 false (Go.Proofs.enters_of Tryz.func72 (by kernel_rfl) rfl) (c_impl_within (a) (1) (3)) rfl (.cons rfl (.c .t0) (.cons rfl (.c .t0) (.cons rfl (.c .t0) .nil))) rfl rfl rfl) ?_
    refine r_op (o_pickT rfl rfl g3 rfl) ?_
    refine r_op oA ?_
    refine r_end ?_
    refine t_ret Tryz.func52 (.tmp rfl .nil) rfl fun E S w u hI hd => ?_
    refine post_mk hI hd ?_ trivial rfl rfl rfl <;> clear hI hd
    all_goals (refine scB ?_; (obtain ⟨c, rfl⟩ := one_of (by assumption); simp only [less_lo, less_hi, Bool.not_eq_true', Bool.not_eq_false', decide_eq_true_eq, decide_eq_false_iff_not] at *; simp [relOk, nameOk]; omega))
   ·
    have g3' := (bnf g3)
    refine r_guard rfl rfl rfl (ncf g3) (fun _ => ?_)
    refine r_guard rfl rfl rfl (ncf g3) (fun _ => ?_)
    refine r_op (o_pickF rfl rfl g3 rfl) ?_
    refine r_op oA ?_
    refine r_end ?_
    refine t_ret Tryz.func52 (.tmp rfl .nil) rfl fun E S w u hI hd => ?_
    refine post_mk hI hd ?_ trivial rfl rfl rfl <;> clear hI hd
    all_goals (refine scB ?_; (obtain ⟨c, rfl⟩ := one_of (by assumption); simp only [less_lo, less_hi, Bool.not_eq_true', Bool.not_eq_false', decide_eq_true_eq, decide_eq_false_iff_not] at *; simp [relOk, nameOk]; omega))
  ·
   have g2' := (bnf g2)
   refine r_guard rfl rfl rfl (ncf g2) (fun _ => ?_)
   refine r_guard rfl rfl rfl (ncf g2) (fun _ => ?_)
   refine r_op (o_pickF rfl rfl g2 rfl) ?_
   refine r_op oM ?_
   refine r_guard rfl rfl rfl (ncf rfl) (fun _ => ?_)
   refine r_guard rfl rfl rfl (ncf rfl) (fun _ => ?_)
   refine r_guard rfl rfl rfl (ncf rfl) (fun _ => ?_)
   refine r_op (o_pickF rfl rfl rfl rfl) ?_
   refine r_op oA ?_
   refine r_end ?_
   refine t_ret Tryz.func52 (.tmp rfl .nil) rfl fun E S w u hI hd => ?_
   refine post_mk hI hd ?_ trivial rfl rfl rfl <;> clear hI hd
   all_goals (refine scB ?_; (obtain ⟨c, rfl⟩ := one_of (by assumption); simp only [less_lo, less_hi, Bool.not_eq_true', Bool.not_eq_false', decide_eq_true_eq, decide_eq_false_iff_not] at *; simp [relOk, nameOk]; omega))
 ·
  have g1' := of_decide_eq_false g1
  refine r_guard rfl rfl rfl (ncf g1) (fun _ => ?_)
  refine r_guard rfl rfl rfl (ncf g1) (fun _ => ?_)
  refine r_op (o_pickF rfl rfl g1 rfl) ?_
  refine r_op oM ?_
  refine r_guard rfl rfl rfl (ncf rfl) (fun _ => ?_)
  refine r_guard rfl rfl rfl (ncf rfl) (fun _ => ?_)
  refine r_guard rfl rfl rfl (ncf rfl) (fun _ => ?_)
  refine r_op (o_pickF rfl rfl rfl rfl) ?_
  refine r_op oM ?_
  refine r_guard rfl rfl rfl (ncf rfl) (fun _ => ?_)
  refine r_guard rfl rfl rfl (ncf rfl) (fun _ => ?_)
  refine r_guard rfl rfl rfl (ncf rfl) (fun _ => ?_)
  refine r_op (o_pickF rfl rfl rfl rfl) ?_
  refine r_op oA ?_
  refine r_end ?_
  refine t_ret Tryz.func52 (.tmp rfl .nil) rfl fun E S w u hI hd => ?_
  refine post_mk hI hd ?_ trivial rfl rfl rfl <;> clear hI hd
  all_goals (refine scB ?_; (have e := nameOk_not (by assumption); simp [relOk, e]; done))
set_option maxHeartbeats 1000000 in
set_option maxRecDepth 10000 in
theorem c_impl_AreValidRelations (l : List (List UInt8 × Int × Bool)) (hl : l.length ≤ 4611686018427387904) : Pu Tryz.prog 35 [.c (.t none (.sl 3 (enS3 encS encI encB) (l)))] [] 0 (.c (.t none (.v (.bool (relsOk l))))) := by
 refine pu_enter Tryz.func35 rfl (Nat.le_of_ble_eq_true rfl) fun w S => ?_
 refine tsr ?_
 refine r_op oA ?_
 refine r_end ?_
 refine t_seq ?_
 refine tsr ?_
 refine r_op oM ?_
 refine r_op (o_len rfl rfl rfl) ?_
 refine r_op oM ?_
 refine r_end ?_
 refine t_block ?_
 refine t_loopL (fun m => ⟨[(0, some (.c (.t none (.sl 3 (enS3 encS encI encB) (l))))), (5, some (.c (.t none (.sl 3 (enS3 encS encI encB) (l))))), (6, some (.c (.t none (.v (.int .i64 (((l).length : Int))))))), (7, some (.c (.t none (.v (.int .i64 ((m : Int)))))))], [], 0⟩ : Nat → St) (fun m => m ≤ l.length ∧ ∀ j, j < m → relStep l j = true) (fun m => l.length - m) 0 ⟨⟨rfl, ⟨rfl, ⟨rfl, ⟨rfl, trivial⟩⟩⟩⟩, trivial, rfl⟩ (by exact ⟨Nat.zero_le _, fun j h => by omega⟩) ?_
 rintro m hI ih0
 try dsimp only at hI ih0
 obtain ⟨i1, i2⟩ := hI
 refine tsr ?_
 refine r_op oB ?_
 refine r_end ?_
 refine t_seq ?_
 refine t_cond rfl (fun h1 => ?_) (fun h1 => ?_)
 ·
  have h1' := of_decide_eq_true h1
  refine t_skip ?_
  refine t_seq ?_
  refine t_block ?_
  refine tsr ?_
  refine r_op oM ?_
  obtain ⟨z2, hz3, b4⟩ := at_get (xs := l) (n := (m : Int)) (by omega) (by omega)
  refine r_op (o_index rfl (by kernel_rfl) rfl rfl b4 hz3) ?_
  refine r_op (o_loadA rfl (n := 3) (by kernel_rfl) (by kernel_rfl) rfl rfl) ?_
  refine r_op (o_alloc 0 (zs := [.string (mkS ([])), .int .i64 (0), .bool (false)]) rfl rfl (by kernel_rfl) rfl) ?_
  refine r_op oA ?_
  refine r_op (oS 3) ?_
  refine r_end ?_
  refine t_seq ?_
  refine t_draw (fun _ => true) (by kernel_rfl) ?_
  refine dT 0 rfl (pC 3) ?_
  refine dO 1 rfl (o_call 1 1 false (Go.Proofs.enters_of Tryz.func52 (by kernel_rfl) rfl) (c_impl_IsValidRelation (z2.1) (z2.2.1) (z2.2.2)) rfl (.cons rfl (.agg (.cons .t0 (.cons .t0 (.cons .t0 .nil)))) .nil) rfl rfl rfl) ?_
  refine dT 2 rfl (p_not rfl) ?_
  refine dT 3 rfl pM ?_
  refine dH 4 rfl (fun _ => pM) (fun g5 => ?_) (fun g5 => ?_)
  ·
   have g5' := (bnf g5)
   refine dH 5 rfl (fun _ => pB) (fun _ => ?_) (ncf g5)
   refine dH 6 rfl (fun _ => pM) (fun _ => ?_) (ncf g5)
   refine dH 7 rfl (fun _ => pF 0) (fun g6 => ?_) (fun g6 => ?_)
   ·
    have g6' := of_decide_eq_true g6
    refine dH 8 rfl (fun _ => pL) (fun _ => ?_) (nc g6)
    refine dH 9 rfl (fun _ => pM) (fun _ => ?_) (nc g6)
    refine dH 10 rfl (fun _ => pM) (fun _ => ?_) (nc g6)
    refine dH 11 rfl (fun _ => pB) (fun _ => ?_) (nc g6)
    obtain ⟨z7, hz8, b9⟩ := at_get (xs := l) (n := IntKind.i64.wrap ((m : Int) - 1)) (by (simp only [IntKind.wrap_i64]; omega)) (by (simp only [IntKind.wrap_i64]; omega))
    refine dH 12 rfl (fun _ => p_index (by kernel_rfl) rfl rfl b9 hz8) (fun _ => ?_) (nc g6)
    refine dH 13 rfl (fun _ => p_field (off := 0) (by kernel_rfl) rfl) (fun _ => ?_) (nc g6)
    refine dH 14 rfl (fun _ => p_load1 (by kernel_rfl) rfl rfl) (fun _ => ?_) (nc g6)
    refine dH 15 rfl (fun _ => p_str rfl rfl rfl) (fun _ => ?_) (nc g6)
    refine dH 16 rfl (fun _ => p_pickT rfl g6 rfl) (fun _ => ?_) (ncf g5)
    refine dT 17 rfl (p_pickF rfl g5 rfl) ?_
    refine d_end (by kernel_rfl) ?_
    refine t_cond rfl (fun h10 => ?_) (fun h10 => ?_)
    ·
     have h10' := (bnt h10)
     refine tsr ?_
     refine r_op oA ?_
     refine r_end ?_
     refine t_ret Tryz.func35 (.tmp rfl .nil) rfl fun E S w u hI hd => ?_
     refine post_mk hI hd ?_ trivial rfl rfl rfl <;> clear hI hd <;> (try clear ih0)
     all_goals (rw [relsOk_not (m := m) (by omega) (relStep_pos (n := (IntKind.i64.wrap ((m : Int) - 1)).toNat) (by assumption) (by assumption) (by omega) (by simp only [IntKind.wrap_i64]; omega) (by assumption) (by assumption))])
    ·
     have h10' := (bnf h10)
     refine t_skip ?_
     refine t_endblock ?_
     refine t_region ?_
     refine r_op oB ?_
     refine r_op oM ?_
     refine r_end ?_
     refine t_le ?_ (ih0 (m + 1) (by (try dsimp only); omega) (by (try dsimp only); exact ⟨by omega, step_all i2 (relStep_pos (n := (IntKind.i64.wrap ((m : Int) - 1)).toNat) (by assumption) (by assumption) (by omega) (by simp only [IntKind.wrap_i64]; omega) (by assumption) (by assumption))⟩))
     exact ⟨⟨rfl, ⟨rfl, ⟨rfl, ⟨(eqI (wr64 (by omega) (by omega))), trivial⟩⟩⟩⟩, trivial, rfl⟩
   ·
    have g6' := of_decide_eq_false g6
    refine dG 8 (ncf g6) (fun _ => ?_)
    refine dG 9 (ncf g6) (fun _ => ?_)
    refine dG 10 (ncf g6) (fun _ => ?_)
    refine dG 11 (ncf g6) (fun _ => ?_)
    refine dG 12 (ncf g6) (fun _ => ?_)
    refine dG 13 (ncf g6) (fun _ => ?_)
    refine dG 14 (ncf g6) (fun _ => ?_)
    refine dG 15 (ncf g6) (fun _ => ?_)
    refine dH 16 rfl (fun _ => p_pickF rfl g6 rfl) (fun _ => ?_) (ncf g5)
    refine dT 17 rfl (p_pickF rfl g5 rfl) ?_
    refine d_end (by kernel_rfl) ?_
    refine t_cond rfl (ncf rfl) (fun _ => ?_)
    refine t_skip ?_
    refine t_endblock ?_
    refine t_region ?_
    refine r_op oB ?_
    refine r_op oM ?_
    refine r_end ?_
    refine t_le ?_ (ih0 (m + 1) (by (try dsimp only); omega) (by (try dsimp only); exact ⟨by omega, step_all i2 (relStep_zero (by assumption) (by assumption) (by omega))⟩))
    exact ⟨⟨rfl, ⟨rfl, ⟨rfl, ⟨(eqI (wr64 (by omega) (by omega))), trivial⟩⟩⟩⟩, trivial, rfl⟩
  ·
   have g5' := (bnt g5)
   refine dG 5 (nc g5) (fun _ => ?_)
   refine dG 6 (nc g5) (fun _ => ?_)
   refine dK 7 ?_
   refine dK 8 ?_
   refine dK 9 ?_
   refine dK 10 ?_
   refine dK 11 ?_
   refine dK 12 ?_
   refine dK 13 ?_
   refine dK 14 ?_
   refine dK 15 ?_
   refine dG 16 (nc g5) (fun _ => ?_)
   refine dT 17 rfl (p_pickT rfl g5 rfl) ?_
   refine d_end (by kernel_rfl) ?_
   refine t_cond rfl (fun _ => ?_) (nc rfl)
   refine tsr ?_
   refine r_op oA ?_
   refine r_end ?_
   refine t_ret Tryz.func35 (.tmp rfl .nil) rfl fun E S w u hI hd => ?_
   refine post_mk hI hd ?_ trivial rfl rfl rfl <;> clear hI hd <;> (try clear ih0)
   all_goals (rw [relsOk_not (m := m) (by omega) (relStep_bad (by assumption) (by assumption))])
 ·
  have h1' := of_decide_eq_false h1
  refine t_exit rfl ?_
  refine tsr ?_
  refine r_op oM ?_
  refine r_op (o_len rfl rfl rfl) ?_
  refine r_op oB ?_
  refine r_op oA ?_
  refine r_end ?_
  refine t_ret Tryz.func35 (.tmp rfl .nil) rfl fun E S w u hI hd => ?_
  refine post_mk hI hd ?_ trivial rfl rfl rfl <;> clear hI hd <;> (try clear ih0)
  all_goals (rw [relsOk_end (m := m) i2 (by omega)]; exact scD (by omega))
def Tryz.laysS_ren : Go.Shelf.Ren := ⟨fun | 146 => 36 | 221 => 53 | 268 => 76 | 138 => 77 | 143 => 78 | 195 => 96 | 197 => 97 | 218 => 98 | 219 => 62 | 260 => 108 | 217 => 65 | 225 => 85 | 224 => 86 | 267 => 87 | 266 => 88 | 314 => 102 | n => n, fun | 9 => 9 | 31 => 44 | 3 => 3 | 4 => 4 | 0 => 0 | 105 => 104 | 21 => 21 | 5 => 5 | 46 => 100 | 119 => 132 | 139 => 135 | 138 => 134 | 146 => 109 | 51 => 108 | n => n, fun | 1 => 0 | 3 => 1 | 4 => 2 | n => n⟩
theorem Tryz.laysS : Go.Proofs.Lays.n146 Tryz.prog Tryz.laysS_ren := {
 mixed := by kernel_rfl
 f138 := Tryz.func77.trans (congrArg some (by kernel_rfl))
 f143 := Tryz.func78.trans (congrArg some (by kernel_rfl))
 f146 := Tryz.func36.trans (congrArg some (by kernel_rfl))
 f195 := Tryz.func96.trans (congrArg some (by kernel_rfl))
 f197 := Tryz.func97.trans (congrArg some (by kernel_rfl))
 f217 := Tryz.func65.trans (congrArg some (by kernel_rfl))
 f218 := Tryz.func98.trans (congrArg some (by kernel_rfl))
 f219 := Tryz.func62.trans (congrArg some (by kernel_rfl))
 f221 := Tryz.func53.trans (congrArg some (by kernel_rfl))
 f224 := Tryz.func86.trans (congrArg some (by kernel_rfl))
 f225 := Tryz.func85.trans (congrArg some (by kernel_rfl))
 f260 := Tryz.func108.trans (congrArg some (by kernel_rfl))
 f266 := Tryz.func88.trans (congrArg some (by kernel_rfl))
 f267 := Tryz.func87.trans (congrArg some (by kernel_rfl))
 f268 := Tryz.func76.trans (congrArg some (by kernel_rfl))
 f314 := Tryz.func102.trans (congrArg some (by kernel_rfl))
 t0 := Tryz.underlying0
 a0 := Tryz.isAgg0
 z0 := Tryz.sizeOf0
 v0 := Tryz.zeroValue0
 t3 := Tryz.underlying3
 a3 := Tryz.isAgg3
 z3 := Tryz.sizeOf3
 v3 := Tryz.zeroValue3
 t4 := Tryz.underlying4
 a4 := Tryz.isAgg4
 z4 := Tryz.sizeOf4
 v4 := Tryz.zeroValue4
 t5 := Tryz.underlying5
 a5 := Tryz.isAgg5
 z5 := Tryz.sizeOf5
 v5 := Tryz.zeroValue5
 t9 := Tryz.underlying9
 a9 := Tryz.isAgg9
 z9 := Tryz.sizeOf9
 v9 := Tryz.zeroValue9
 t21 := Tryz.underlying21
 a21 := Tryz.isAgg21
 z21 := Tryz.sizeOf21
 v21 := Tryz.zeroValue21
 t31 := Tryz.underlying44
 a31 := Tryz.isAgg44
 z31 := Tryz.sizeOf44
 v31 := Tryz.zeroValue44
 t46 := Tryz.underlying100
 a46 := Tryz.isAgg100
 z46 := Tryz.sizeOf100
 v46 := Tryz.zeroValue100
 t51 := Tryz.underlying108
 a51 := Tryz.isAgg108
 z51 := Tryz.sizeOf108
 v51 := Tryz.zeroValue108
 t105 := Tryz.underlying104
 a105 := Tryz.isAgg104
 z105 := Tryz.sizeOf104
 v105 := Tryz.zeroValue104
 t119 := Tryz.underlying132
 a119 := Tryz.isAgg132
 z119 := Tryz.sizeOf132
 t138 := Tryz.underlying134
 a138 := Tryz.isAgg134
 z138 := Tryz.sizeOf134
 v138 := Tryz.zeroValue134
 t139 := Tryz.underlying135
 a139 := Tryz.isAgg135
 z139 := Tryz.sizeOf135
 v139 := Tryz.zeroValue135
 t146 := Tryz.underlying109
 a146 := Tryz.isAgg109
 z146 := Tryz.sizeOf109
 v146 := Tryz.zeroValue109
 g1 := by kernel_rfl
 g3 := by kernel_rfl
 g4 := by kernel_rfl }
set_option maxHeartbeats 1000000 in
set_option maxRecDepth 10000 in
theorem c_strings_Split (s p : List UInt8) (hp : p.length = 1) (hs : s.length ≤ 1048576) : PuX (mxX 0) Tryz.prog 36 [.c (.t none (.v (.string (mkS (s))))), .c (.t none (.v (.string (mkS (p)))))] [(0, some (.row none 9 true 1 encS (splP p s)))] 1 (.c (.own 0)) := by
 exact split_pux3 Tryz.laysS (by kernel_rfl) s p hp (by omega)
def Tryz.laysC_ren : Go.Shelf.Ren := ⟨fun | 145 => 25 | 220 => 42 | 219 => 62 | 217 => 65 | 225 => 85 | 224 => 86 | 267 => 87 | 266 => 88 | 314 => 102 | n => n, fun | 9 => 9 | 4 => 4 | 59 => 51 | 3 => 3 | 5 => 5 | 46 => 100 | 146 => 109 | 51 => 108 | n => n, fun | 1 => 0 | n => n⟩
theorem Tryz.laysC : Go.Proofs.Lays.n145 Tryz.prog Tryz.laysC_ren := {
 mixed := by kernel_rfl
 f145 := Tryz.func25.trans (congrArg some (by kernel_rfl))
 f217 := Tryz.func65.trans (congrArg some (by kernel_rfl))
 f219 := Tryz.func62.trans (congrArg some (by kernel_rfl))
 f220 := Tryz.func42.trans (congrArg some (by kernel_rfl))
 f224 := Tryz.func86.trans (congrArg some (by kernel_rfl))
 f225 := Tryz.func85.trans (congrArg some (by kernel_rfl))
 f266 := Tryz.func88.trans (congrArg some (by kernel_rfl))
 f267 := Tryz.func87.trans (congrArg some (by kernel_rfl))
 f314 := Tryz.func102.trans (congrArg some (by kernel_rfl))
 t3 := Tryz.underlying3
 a3 := Tryz.isAgg3
 z3 := Tryz.sizeOf3
 v3 := Tryz.zeroValue3
 t4 := Tryz.underlying4
 a4 := Tryz.isAgg4
 z4 := Tryz.sizeOf4
 v4 := Tryz.zeroValue4
 t5 := Tryz.underlying5
 a5 := Tryz.isAgg5
 z5 := Tryz.sizeOf5
 v5 := Tryz.zeroValue5
 t9 := Tryz.underlying9
 a9 := Tryz.isAgg9
 z9 := Tryz.sizeOf9
 v9 := Tryz.zeroValue9
 t46 := Tryz.underlying100
 a46 := Tryz.isAgg100
 z46 := Tryz.sizeOf100
 v46 := Tryz.zeroValue100
 t51 := Tryz.underlying108
 a51 := Tryz.isAgg108
 z51 := Tryz.sizeOf108
 v51 := Tryz.zeroValue108
 t59 := Tryz.underlying51
 a59 := Tryz.isAgg51
 z59 := Tryz.sizeOf51
 v59 := Tryz.zeroValue51
 t146 := Tryz.underlying109
 a146 := Tryz.isAgg109
 z146 := Tryz.sizeOf109
 v146 := Tryz.zeroValue109
 g1 := by kernel_rfl }
set_option maxHeartbeats 1000000 in
set_option maxRecDepth 10000 in
theorem c_strings_Cut (s p : List UInt8) (hs : s.length ≤ 1048576) : PuX (mxX 0) Tryz.prog 25 [.c (.t none (.v (.string (mkS (s))))), .c (.t none (.v (.string (mkS (p)))))] [] 0 (.tup [(false, [.t none (.v (.string (mkS ((Lib.cut s p).1))))]), (false, [.t none (.v (.string (mkS ((Lib.cut s p).2.1))))]), (false, [.t none (.v (.bool ((Lib.cut s p).2.2)))])]) := by
 exact cut_pux Tryz.laysC s p (by omega)
set_option maxHeartbeats 1000000 in
set_option maxRecDepth 10000 in
theorem c_impl_RelationIndex_1 (a : List UInt8) (b : Int) (e : Bool) (n : List UInt8) : Pu Tryz.prog 64 [.agg [.t none (.v (.string (mkS (a)))), .t none (.v (.int .i64 (b))), .t none (.v (.bool (e)))], .c (.pel none (encS (n)) 1)] [] 0 (.c (.t none (.v (.bool (decide (a = n)))))) := by
 refine pu_enter Tryz.func64 rfl (Nat.le_of_ble_eq_true rfl) fun w S => ?_
 refine tsr ?_
 refine r_op (o_box 0 rfl rfl rfl rfl) ?_
 refine r_op oA ?_
 refine etr ?_
 refine r_op (oF 0) ?_
 refine r_op oL ?_
 refine r_op (o_load1 rfl (by kernel_rfl) rfl rfl) ?_
 refine r_op (o_str rfl rfl rfl rfl) ?_
 refine r_op oA ?_
 refine r_end ?_
 refine t_ret Tryz.func64 (.tmp rfl .nil) rfl fun E S w u hI hd => ?_
 refine post_mk hI hd ?_ trivial rfl rfl rfl <;> clear hI hd
 all_goals (rfl)
set_option maxHeartbeats 1000000 in
set_option maxRecDepth 10000 in
theorem c_slices_IndexFunc___impl_Relation_impl_Relation_ (l : List (List UInt8 × Int × Bool)) (f : Nat) (cs : List ((Nat → T) × Nat)) (p : List UInt8 × Int × Bool → Bool) (hl : l.length ≤ 9223372036854775807) (hf : ∀ x ∈ l, Fu Tryz.prog f ([.agg [.t none (.v (.string (mkS (x.1)))), .t none (.v (.int .i64 (x.2.1))), .t none (.v (.bool (x.2.2)))]] ++ pels cs) (.c (.t none (.v (.bool (p x)))))) : Pu Tryz.prog 63 [.c (.t none (.sl 3 (enS3 encS encI encB) (l))), .c (.fv f cs)] [] 0 (.c (.t none (.v (.int .i64 (idxI p l))))) := by
 refine pu_enter Tryz.func63 rfl (Nat.le_of_ble_eq_true rfl) fun w S => ?_
 refine tsr ?_
 refine r_op oA ?_
 refine r_end ?_
 refine t_seq ?_
 refine tsr ?_
 refine r_op oM ?_
 refine r_op (o_len rfl rfl rfl) ?_
 refine r_op oM ?_
 refine r_end ?_
 refine t_block ?_
 refine t_loopL (fun m => ⟨[(0, some (.c (.t none (.sl 3 (enS3 encS encI encB) (l))))), (1, some (.c (.fv f cs))), (7, some (.c (.t none (.v (.int .i64 (((l).length : Int))))))), (8, some (.c (.t none (.v (.int .i64 ((m : Int)))))))], [], 0⟩ : Nat → St) (fun m => m ≤ l.length ∧ ∀ j z, j < m → l[j]? = some z → p z = false) (fun m => l.length - m) 0 ⟨⟨rfl, ⟨rfl, ⟨rfl, ⟨rfl, trivial⟩⟩⟩⟩, trivial, rfl⟩ (by exact ⟨Nat.zero_le _, fun j z h => by omega⟩) ?_
 rintro m hI ih0
 try dsimp only at hI ih0
 obtain ⟨i1, i2⟩ := hI
 refine tsr ?_
 refine r_op oB ?_
 refine r_end ?_
 refine t_seq ?_
 refine t_cond rfl (fun h1 => ?_) (fun h1 => ?_)
 ·
  have h1' := of_decide_eq_true h1
  refine t_skip ?_
  refine t_seq ?_
  refine t_block ?_
  refine tsr ?_
  refine r_op oM ?_
  refine r_op oA ?_
  refine etr ?_
  refine r_op oM ?_
  refine r_op oM ?_
  refine r_op oM ?_
  obtain ⟨z2, hz3, b4⟩ := at_get (xs := l) (n := (m : Int)) (by omega) (by omega)
  refine r_op (o_index rfl (by kernel_rfl) rfl rfl b4 hz3) ?_
  refine r_op (o_loadA rfl (n := 3) (by kernel_rfl) (by kernel_rfl) rfl rfl) ?_
  refine r_op (o_callv 0 0 false (hf z2 (List.mem_of_getElem? (by assumption))).1 (hf z2 (List.mem_of_getElem? (by assumption))).2 rfl rfl (.c .fv) (.cons rfl (.agg (.cons .t0 (.cons .t0 (.cons .t0 .nil)))) .nil) rfl rfl rfl) ?_
  refine r_end ?_
  refine t_cond rfl (fun h5 => ?_) (fun h5 => ?_)
  ·
   have h5' := h5
   refine tsr ?_
   refine r_op oM ?_
   refine r_op oA ?_
   refine r_end ?_
   refine t_ret Tryz.func63 (.tmp rfl .nil) rfl fun E S w u hI hd => ?_
   refine post_mk hI hd ?_ trivial rfl rfl rfl <;> clear hI hd <;> (try clear ih0)
   all_goals (rw [idx_hit i2 (by assumption) (by assumption)])
  ·
   have h5' := h5
   refine t_skip ?_
   refine t_endblock ?_
   refine t_region ?_
   refine r_op oB ?_
   refine r_op oM ?_
   refine r_end ?_
   refine t_le ?_ (ih0 (m + 1) (by (try dsimp only); omega) (by (try dsimp only); exact ⟨by omega, no_step i2 (by assumption) rfl (by assumption)⟩))
   exact ⟨⟨rfl, ⟨rfl, ⟨rfl, ⟨(eqI (wr64 (by omega) (by omega))), trivial⟩⟩⟩⟩, trivial, rfl⟩
 ·
  have h1' := of_decide_eq_false h1
  refine t_exit rfl ?_
  refine tsr ?_
  refine r_op oA ?_
  refine r_end ?_
  refine t_ret Tryz.func63 (.tmp rfl .nil) rfl fun E S w u hI hd => ?_
  refine post_mk hI hd ?_ trivial rfl rfl rfl <;> clear hI hd <;> (try clear ih0)
  all_goals (rw [idx_none i2 (by omega)])
set_option maxHeartbeats 1000000 in
set_option maxRecDepth 10000 in
theorem c_impl_RelationIndex (rs : Rels) (n : List UInt8) (hrs : rs.length ≤ 1048576) : Pu Tryz.prog 43 [.c (.t none (.sl 3 (enS3 encS encI encB) (rs))), .c (.t none (.v (.string (mkS (n)))))] [] 0 (.c (.t none (.v (.int .i64 (relIx rs n))))) := by
 refine pu_enter Tryz.func43 rfl (Nat.le_of_ble_eq_true rfl) fun w S => ?_
 refine tsr ?_
 refine r_op (o_box 0 rfl rfl rfl rfl) ?_
 refine r_op oA ?_
 refine etr ?_
 refine r_op oM ?_
 refine r_op (o_makeFunc rfl (.cons rfl .nil)) ?_
 refine r_op (o_call 1 1 false (Go.Proofs.enters_of Tryz.func63 (by kernel_rfl) rfl) (c_slices_IndexFunc___impl_Relation_impl_Relation_ (rs) (64) ([(encS (n), 1)]) (fun (x0 : List UInt8 × Int × Bool) => decide ((x0.1) = (n))) (by omega) (fun x0 mx0 => ⟨Go.Proofs.enters_of Tryz.func64 (by kernel_rfl) rfl, c_impl_RelationIndex_1 (x0.1) (x0.2.1) (x0.2.2) (n)⟩)) rfl (.cons rfl (.c .t0) (.cons rfl (.c (.clo (.cons rfl rfl rfl (.cons .t .nil) .nil))) .nil)) rfl rfl rfl) ?_
 refine r_op oA ?_
 refine r_end ?_
 refine t_ret Tryz.func43 (.tmp rfl .nil) rfl fun E S w u hI hd => ?_
 refine post_mk hI hd ?_ trivial rfl rfl rfl <;> clear hI hd
 all_goals (rfl)
def Tryz.laysB_ren : Go.Shelf.Ren := ⟨fun | 137 => 44 | 217 => 65 | 266 => 88 | n => n, fun | 9 => 9 | 5 => 5 | 3 => 3 | n => n, fun | n => n⟩
theorem Tryz.laysB : Go.Proofs.Lays.n137 Tryz.prog Tryz.laysB_ren := {
 mixed := by kernel_rfl
 f137 := Tryz.func44.trans (congrArg some (by kernel_rfl))
 f217 := Tryz.func65.trans (congrArg some (by kernel_rfl))
 f266 := Tryz.func88.trans (congrArg some (by kernel_rfl))
 t3 := Tryz.underlying3
 a3 := Tryz.isAgg3
 z3 := Tryz.sizeOf3
 v3 := Tryz.zeroValue3
 t5 := Tryz.underlying5
 a5 := Tryz.isAgg5
 z5 := Tryz.sizeOf5
 v5 := Tryz.zeroValue5
 t9 := Tryz.underlying9
 a9 := Tryz.isAgg9
 z9 := Tryz.sizeOf9
 v9 := Tryz.zeroValue9 }
set_option maxHeartbeats 1000000 in
set_option maxRecDepth 10000 in
theorem c_strings_IndexByte (s : List UInt8) (ci : Int) (hc : 0 ≤ ci ∧ ci < 256) : Pu Tryz.prog 44 [.c (.t none (.v (.string (mkS (s))))), .c (.t none (.v (.int .u8 (ci))))] [] 0 (.c (.t none (.v (.int .i64 (Lib.indexByte s (u8 ci)))))) := by
 exact ixb_pu2 Tryz.laysB s ci hc
set_option maxHeartbeats 1000000 in
set_option maxRecDepth 10000 in
theorem c_impl_parseTerm (ci : Int) (hc : 0 ≤ ci ∧ ci < 256) : Pu Tryz.prog 27 [.c (.t none (.v (.int .u8 (ci))))] [] 0 (.c (.t none (.v (.int .i64 (pT (u8 ci)))))) := by
 refine pu_enter Tryz.func27 rfl (Nat.le_of_ble_eq_true rfl) fun w S => ?_
 refine tsr ?_
 refine r_op oA ?_
 refine r_end ?_
 refine t_seq ?_
 refine tsr ?_
 refine r_op oM ?_
 refine r_op oB ?_
 refine r_op oM ?_
 refine r_guard rfl rfl rfl (fun g1 => ?_) (fun g1 => ?_)
 ·
  have g1' := of_decide_eq_true g1
  refine r_op oM ?_
  refine r_guard rfl rfl rfl (fun _ => ?_) (nc g1)
  refine r_op oB ?_
  refine r_op (o_pickT rfl rfl g1 rfl) ?_
  refine r_end ?_
  refine t_cond rfl (fun h2 => ?_) (fun h2 => ?_)
  ·
   have h2' := of_decide_eq_true h2
   refine tsr ?_
   refine r_op oM ?_
   refine r_op oB ?_
   refine r_op (o_conv rfl Tryz.underlying5 Tryz.underlying3 rfl) ?_
   refine r_op oB ?_
   refine r_op oA ?_
   refine r_end ?_
   refine t_ret Tryz.func27 (.tmp rfl .nil) rfl fun E S w u hI hd => ?_
   refine post_mk hI hd ?_ trivial rfl rfl rfl <;> clear hI hd
   all_goals (refine scI ?_; (have e7 : 48 ≤ ci ∧ ci ≤ 57 := (by grind); rw [pT_dig hc e7]; simp only [IntKind.wrap, IntKind.bits, IntKind.signed]; (try simp); omega))
  ·
   have h2' := of_decide_eq_false h2
   refine t_skip ?_
   refine t_seq ?_
   refine tsr ?_
   refine r_op oM ?_
   refine r_op (o_call 0 0 false (Go.Proofs.enters_of Tryz.func44 (by kernel_rfl) rfl) (c_strings_IndexByte (([120, 121, 122, 117, 118] : List UInt8)) (ci) (by omega)) rfl (.cons rfl (.c .t0) (.cons rfl (.c .t0) .nil)) rfl rfl rfl) ?_
   refine r_op oA ?_
   refine etr ?_
   refine r_op oM ?_
   refine r_op oB ?_
   refine r_end ?_
   refine t_cond rfl (fun h3 => ?_) (fun h3 => ?_)
   ·
    have h3' := of_decide_eq_true h3
    refine tsr ?_
    refine r_op oM ?_
    refine r_op oA ?_
    refine r_end ?_
    refine t_ret Tryz.func27 (.tmp rfl .nil) rfl fun E S w u hI hd => ?_
    refine post_mk hI hd ?_ trivial rfl rfl rfl <;> clear hI hd
    all_goals (refine scI ?_; (exact (pT_var hc (by grind) (by omega)).symm))
   ·
    have h3' := of_decide_eq_false h3
    refine t_skip ?_
    refine tsr ?_
    refine r_op oA ?_
    refine r_end ?_
    refine t_ret Tryz.func27 (.tmp rfl .nil) rfl fun E S w u hI hd => ?_
    refine post_mk hI hd ?_ trivial rfl rfl rfl <;> clear hI hd
    all_goals (refine scI ?_; (exact (pT_no hc (by grind) (by omega)).symm))
 ·
  have g1' := of_decide_eq_false g1
  refine r_guard rfl rfl rfl (ncf g1) (fun _ => ?_)
  refine r_op (o_pickF rfl rfl g1 rfl) ?_
  refine r_end ?_
  refine t_cond rfl (ncf rfl) (fun _ => ?_)
  refine t_skip ?_
  refine t_seq ?_
  refine tsr ?_
  refine r_op oM ?_
  refine r_op (o_call 0 0 false (Go.Proofs.enters_of Tryz.func44 (by kernel_rfl) rfl) (c_strings_IndexByte (([120, 121, 122, 117, 118] : List UInt8)) (ci) (by omega)) rfl (.cons rfl (.c .t0) (.cons rfl (.c .t0) .nil)) rfl rfl rfl) ?_
  refine r_op oA ?_
  refine etr ?_
  refine r_op oM ?_
  refine r_op oB ?_
  refine r_end ?_
  refine t_cond rfl (fun h4 => ?_) (fun h4 => ?_)
  ·
   have h4' := of_decide_eq_true h4
   refine tsr ?_
   refine r_op oM ?_
   refine r_op oA ?_
   refine r_end ?_
   refine t_ret Tryz.func27 (.tmp rfl .nil) rfl fun E S w u hI hd => ?_
   refine post_mk hI hd ?_ trivial rfl rfl rfl <;> clear hI hd
   all_goals (refine scI ?_; (exact (pT_var hc (by grind) (by omega)).symm))
  ·
   have h4' := of_decide_eq_false h4
   refine t_skip ?_
   refine tsr ?_
   refine r_op oA ?_
   refine r_end ?_
   refine t_ret Tryz.func27 (.tmp rfl .nil) rfl fun E S w u hI hd => ?_
   refine post_mk hI hd ?_ trivial rfl rfl rfl <;> clear hI hd
   all_goals (refine scI ?_; (exact (pT_no hc (by grind) (by omega)).symm))
set_option maxHeartbeats 1000000 in
set_option maxRecDepth 10000 in
theorem c_impl_parseAtoms (rs : Rels) (s : List UInt8) (hrs : rs.length ≤ 1048576) (hs : s.length ≤ 1048576) : PuX (mxX 0) Tryz.prog 26 [.c (.t none (.sl 3 (enS3 encS encI encB) (rs))), .c (.t none (.v (.string (mkS (s)))))] [(0, some (.row none 64 true 2 (enS2 encI (enSl 1 encI)) (pAs rs s)))] 1 (.c (.own 0)) := by
 refine pu_enterX Tryz.func26 rfl (Nat.le_of_ble_eq_true rfl) fun w S hT => ?_
 refine tsr ?_
 refine r_op oA ?_
 refine etr ?_
 refine r_op (o_lit0 0 (e := 64) (sz := 2) (zs := [.int .i64 (0), .slice none 0 0]) (enS2 encI (enSl 1 encI)) rfl rfl (by kernel_rfl) rfl) ?_
 refine r_op oA ?_
 refine r_end ?_
 refine t_seq ?_
 refine tsr ?_
 refine r_op oM ?_
 refine r_op (o_callX (fun _ hk => mx_kept hk hT) 1 2 false (Go.Proofs.enters_of Tryz.func36 (by kernel_rfl) rfl) (c_strings_Split (s) (([32] : List UInt8)) (by rfl) (by omega)) rfl (.cons rfl (.c .t0) (.cons rfl (.c .t0) .nil)) rfl rfl rfl) ?_
 refine r_op (o_leno rfl rfl rfl rfl) ?_
 refine r_op oM ?_
 refine r_end ?_
 refine t_block ?_
 refine t_loopL (fun m => ⟨[(0, some (.c (.t none (.sl 3 (enS3 encS encI encB) (rs))))), (4, some (.c (.t none (.v (.slice none 0 0))))), (5, some (.c (.own 0))), (12, some (.c (.own 1))), (13, some (.c (.t none (.v (.int .i64 (((splP (([32] : List UInt8)) (s)).length : Int))))))), (14, some (.c (.t none (.v (.int .i64 ((m : Int)))))))], [(0, some (.row none 64 true 2 (enS2 encI (enSl 1 encI)) (((splP [32] s).take m).map (pAt rs)))), (1, some (.row none 9 true 1 encS (splP (([32] : List UInt8)) (s))))], 2⟩ : Nat → St) (fun m => m ≤ (splP [32] s).length) (fun m => (splP [32] s).length - m) 0 ⟨⟨rfl, ⟨rfl, ⟨rfl, ⟨rfl, ⟨rfl, ⟨rfl, trivial⟩⟩⟩⟩⟩⟩, ⟨rfl, ⟨rfl, trivial⟩⟩, rfl⟩ (by exact Nat.zero_le _) ?_
 rintro m hI ih0
 try dsimp only at hI ih0
 have i1 := hI; have l1 : (splP [32] s).length ≤ s.length + 1 := spl_len (b := 32) (s := s)
 refine tsr ?_
 refine r_op oB ?_
 refine r_end ?_
 refine t_seq ?_
 refine t_cond rfl (fun h1 => ?_) (fun h1 => ?_)
 ·
  have h1' := of_decide_eq_true h1
  refine t_skip ?_
  refine t_seq ?_
  refine t_block ?_
  refine tsr ?_
  obtain ⟨z2, hz3, b4⟩ := at_get (xs := splP (([32] : List UInt8)) (s)) (n := (m : Int)) (by omega) (by omega)
  refine r_op (o_indexo rfl (by kernel_rfl) rfl rfl rfl b4 (at_lt b4 hz3)) ?_
  refine r_op (o_load1o rfl (by kernel_rfl) rfl rfl rfl hz3) ?_
  refine r_op oA ?_
  refine r_end ?_
  refine t_seq ?_
  refine tsr ?_
  refine r_op oM ?_
  refine r_op (o_str rfl rfl rfl rfl) ?_
  refine r_end ?_
  refine t_cond rfl (fun h5 => ?_) (fun h5 => ?_)
  ·
   have h5' := of_decide_eq_true h5
   refine t_region ?_
   refine r_op oA ?_
   refine etr ?_
   refine r_op oM ?_
   refine r_op oM ?_
   refine r_op (o_subSh rfl Tryz.underlying9 rfl rfl (by omega) (by decide)) ?_
   refine r_op (o_call 2 2 false (Go.Proofs.enters_of Tryz.func43 (by kernel_rfl) rfl) (c_impl_RelationIndex (rs) ((([32] : List UInt8)).take ((1 : Int)).toNat) (by omega)) rfl (.cons rfl (.c .t0) (.cons rfl (.c .t0) .nil)) rfl rfl rfl) ?_
   refine r_op (o_build rfl (pl := [(0, 1), (1, 1)]) (zs := [.int .i64 (0), .slice none 0 0]) (by kernel_rfl) (by kernel_rfl) rfl rfl rfl) ?_
   refine r_op (o_alloc 2 (zs := [.int .i64 (0), .slice none 0 0]) rfl rfl (by kernel_rfl) rfl) ?_
   refine r_op (oS 2) ?_
   refine r_end ?_
   refine t_seq ?_
   refine tsr ?_
   refine r_op oA ?_
   refine r_end ?_
   refine t_block ?_
   refine gt_nilb 3 (b := 2) (o := 1) (et := 3) (sz := 1) true encI rfl rfl rfl ?_
   have hxl := spl_mem (b := 32) (s := s) (List.mem_of_getElem? hz3); have hx2 : (([32] : List UInt8)).length ≤ 1048577 := (by decide)
   refine t_loopL (fun n => ⟨[(0, some (.c (.t none (.sl 3 (enS3 encS encI encB) (rs))))), (4, some (.c (.t none (.v (.slice none 0 0))))), (5, some (.c (.own 0))), (7, some (.c (.t none (.v (.string (mkS (([32] : List UInt8)))))))), (8, some (.c (.ptr 2 0))), (9, some (.c (.t none (.v (.int .i64 ((n : Int))))))), (12, some (.c (.own 1))), (13, some (.c (.t none (.v (.int .i64 (((splP (([32] : List UInt8)) (s)).length : Int))))))), (14, some (.c (.t none (.v (.int .i64 ((m : Int)))))))], [(0, some (.row none 64 true 2 (enS2 encI (enSl 1 encI)) (((splP [32] s).take m).map (pAt rs)))), (1, some (.row none 9 true 1 encS (splP (([32] : List UInt8)) (s)))), (2, some (.box [.t none (.v (.int .i64 (relIx (rs) ((([32] : List UInt8)).take ((1 : Int)).toNat)))), .own 3])), (3, some (.row none 3 true 1 encI ((((([32] : List UInt8)).take n).drop 1).map pT)))], 4⟩ : Nat → St) (fun n => 1 ≤ n ∧ n ≤ (([32] : List UInt8)).length) (fun n => (([32] : List UInt8)).length - n) 1 ⟨⟨rfl, ⟨rfl, ⟨rfl, ⟨rfl, ⟨rfl, ⟨rfl, ⟨rfl, ⟨rfl, ⟨rfl, trivial⟩⟩⟩⟩⟩⟩⟩⟩⟩, ⟨rfl, ⟨rfl, ⟨rfl, ⟨(eqR pd_init), trivial⟩⟩⟩⟩, rfl⟩ (by exact ⟨Nat.le_refl _, by (decide)⟩) ?_
   rintro n hI ih1
   try dsimp only at hI ih1
   obtain ⟨j1, j2⟩ := hI
   refine t_seq ?_
   refine tsr ?_
   refine r_op oM ?_
   refine r_op oM ?_
   refine r_op (o_lenS rfl Tryz.underlying9 rfl) ?_
   refine r_op oB ?_
   refine r_end ?_
   refine t_cond rfl (fun h6 => ?_) (fun h6 => ?_)
   ·
    have h6' := of_decide_eq_true h6
    refine t_skip ?_
    refine t_seq ?_
    refine t_block ?_
    refine t_draw (fun i => !(Nat.beq i 7 || Nat.beq i 9)) (by kernel_rfl) ?_
    refine dT 0 rfl (pF 1) ?_
    refine dT 1 rfl pL ?_
    refine dT 2 rfl pM ?_
    refine dT 3 rfl pM ?_
    obtain ⟨z7, hz8, b9⟩ := at_get (xs := ([32] : List UInt8)) (n := (n : Int)) (by omega) (by omega)
    refine dT 4 rfl (p_indexS Tryz.underlying9 rfl rfl b9 hz8) ?_
    refine dO 5 rfl (o_call 4 4 false (Go.Proofs.enters_of Tryz.func27 (by kernel_rfl) rfl) (c_impl_parseTerm (z7.toNat : Int) (by exact u8_rng _)) rfl (.cons rfl (.c .t0) .nil) rfl rfl rfl) ?_
    refine dO 6 rfl (o_litS 4 (e := 3) (sz := 1) (zs := [.int .i64 (0)]) rfl rfl (by kernel_rfl) rfl rfl rfl rfl rfl) ?_
    refine dO 7 rfl (o_append 3 (e := 3) (sz := 1) (by' := 8) (pT (u8 (z7.toNat : Int))) rfl (by kernel_rfl) rfl rfl rfl rfl rfl rfl (.cons .sc .nil) rfl (by (simp; omega)) (by (simp; omega))) ?_
    refine dT 8 rfl (pF 1) ?_
    refine dO 9 rfl (oS 1) ?_
    refine d_end (by kernel_rfl) ?_
    refine t_endblock ?_
    refine t_region ?_
    refine r_op oM ?_
    refine r_op oB ?_
    refine r_op oA ?_
    refine r_end ?_
    refine t_le ?_ (ih1 (n + 1) (by (try dsimp only); omega) (by (try dsimp only); omega))
    exact ⟨⟨rfl, ⟨rfl, ⟨rfl, ⟨rfl, ⟨rfl, ⟨(eqI (wr64 (by omega) (by omega))), ⟨rfl, ⟨rfl, ⟨rfl, trivial⟩⟩⟩⟩⟩⟩⟩⟩⟩, ⟨rfl, ⟨rfl, ⟨rfl, ⟨(eqR (pd_char (by omega) hz8)), trivial⟩⟩⟩⟩, rfl⟩
   ·
    have h6' := of_decide_eq_false h6
    refine t_exit rfl ?_
    refine t_region ?_
    refine r_op oM ?_
    refine r_op (oC 2) ?_
    refine r_op (o_litS 4 (e := 64) (sz := 2) (zs := [.int .i64 (0), .slice none 0 0]) rfl rfl (by kernel_rfl) rfl rfl rfl rfl rfl) ?_
    refine r_op (o_append 0 (e := 64) (sz := 2) (by' := 32) ((relIx (rs) ((([32] : List UInt8)).take ((1 : Int)).toNat), (((([32] : List UInt8)).take n).drop 1).map pT)) rfl (by kernel_rfl) rfl rfl rfl rfl rfl rfl (.cons .sc (.take (.own rfl) rfl .nil)) rfl (by (simp; omega)) (by (simp; omega))) ?_
    refine r_op oA ?_
    refine r_end ?_
    refine t_endblock ?_
    refine t_region ?_
    refine r_op oB ?_
    refine r_op oM ?_
    refine r_end ?_
    refine t_le ?_ (ih0 (m + 1) (by (try dsimp only); omega) (by (try dsimp only); omega))
    exact ⟨⟨rfl, ⟨rfl, ⟨rfl, ⟨rfl, ⟨rfl, ⟨(eqI (wr64 (by omega) (by omega))), trivial⟩⟩⟩⟩⟩⟩, ⟨(eqR (by exact pd_step0 hz3 (by assumption))), ⟨rfl, trivial⟩⟩, rfl⟩
  ·
   have h5' := of_decide_eq_false h5
   refine t_skip ?_
   refine tsr ?_
   refine r_op oM ?_
   refine r_op oM ?_
   refine r_op (o_subSh rfl Tryz.underlying9 rfl rfl (by omega) (by (have e8 := ne_len (by assumption); omega))) ?_
   refine r_op (o_call 2 2 false (Go.Proofs.enters_of Tryz.func43 (by kernel_rfl) rfl) (c_impl_RelationIndex (rs) ((z2).take ((1 : Int)).toNat) (by omega)) rfl (.cons rfl (.c .t0) (.cons rfl (.c .t0) .nil)) rfl rfl rfl) ?_
   refine r_op (o_build rfl (pl := [(0, 1), (1, 1)]) (zs := [.int .i64 (0), .slice none 0 0]) (by kernel_rfl) (by kernel_rfl) rfl rfl rfl) ?_
   refine r_op (o_alloc 2 (zs := [.int .i64 (0), .slice none 0 0]) rfl rfl (by kernel_rfl) rfl) ?_
   refine r_op (oS 2) ?_
   refine r_end ?_
   refine t_seq ?_
   refine tsr ?_
   refine r_op oA ?_
   refine r_end ?_
   refine t_block ?_
   refine gt_nilb 3 (b := 2) (o := 1) (et := 3) (sz := 1) true encI rfl rfl rfl ?_
   have hxl := spl_mem (b := 32) (s := s) (List.mem_of_getElem? hz3); have hx2 : (z2).length ≤ 1048577 := (by omega)
   refine t_loopL (fun n => ⟨[(0, some (.c (.t none (.sl 3 (enS3 encS encI encB) (rs))))), (4, some (.c (.t none (.v (.slice none 0 0))))), (5, some (.c (.own 0))), (7, some (.c (.t none (.v (.string (mkS (z2))))))), (8, some (.c (.ptr 2 0))), (9, some (.c (.t none (.v (.int .i64 ((n : Int))))))), (12, some (.c (.own 1))), (13, some (.c (.t none (.v (.int .i64 (((splP (([32] : List UInt8)) (s)).length : Int))))))), (14, some (.c (.t none (.v (.int .i64 ((m : Int)))))))], [(0, some (.row none 64 true 2 (enS2 encI (enSl 1 encI)) (((splP [32] s).take m).map (pAt rs)))), (1, some (.row none 9 true 1 encS (splP (([32] : List UInt8)) (s)))), (2, some (.box [.t none (.v (.int .i64 (relIx (rs) ((z2).take ((1 : Int)).toNat)))), .own 3])), (3, some (.row none 3 true 1 encI ((((z2).take n).drop 1).map pT)))], 4⟩ : Nat → St) (fun n => 1 ≤ n ∧ n ≤ (z2).length) (fun n => (z2).length - n) 1 ⟨⟨rfl, ⟨rfl, ⟨rfl, ⟨rfl, ⟨rfl, ⟨rfl, ⟨rfl, ⟨rfl, ⟨rfl, trivial⟩⟩⟩⟩⟩⟩⟩⟩⟩, ⟨rfl, ⟨rfl, ⟨rfl, ⟨(eqR pd_init), trivial⟩⟩⟩⟩, rfl⟩ (by exact ⟨Nat.le_refl _, by (exact ne_len (by assumption))⟩) ?_
   rintro n hI ih1
   try dsimp only at hI ih1
   obtain ⟨j1, j2⟩ := hI
   refine t_seq ?_
   refine tsr ?_
   refine r_op oM ?_
   refine r_op oM ?_
   refine r_op (o_lenS rfl Tryz.underlying9 rfl) ?_
   refine r_op oB ?_
   refine r_end ?_
   refine t_cond rfl (fun h10 => ?_) (fun h10 => ?_)
   ·
    have h10' := of_decide_eq_true h10
    refine t_skip ?_
    refine t_seq ?_
    refine t_block ?_
    refine t_draw (fun i => !(Nat.beq i 7 || Nat.beq i 9)) (by kernel_rfl) ?_
    refine dT 0 rfl (pF 1) ?_
    refine dT 1 rfl pL ?_
    refine dT 2 rfl pM ?_
    refine dT 3 rfl pM ?_
    obtain ⟨z11, hz12, b13⟩ := at_get (xs := z2) (n := (n : Int)) (by omega) (by omega)
    refine dT 4 rfl (p_indexS Tryz.underlying9 rfl rfl b13 hz12) ?_
    refine dO 5 rfl (o_call 4 4 false (Go.Proofs.enters_of Tryz.func27 (by kernel_rfl) rfl) (c_impl_parseTerm (z11.toNat : Int) (by exact u8_rng _)) rfl (.cons rfl (.c .t0) .nil) rfl rfl rfl) ?_
    refine dO 6 rfl (o_litS 4 (e := 3) (sz := 1) (zs := [.int .i64 (0)]) rfl rfl (by kernel_rfl) rfl rfl rfl rfl rfl) ?_
    refine dO 7 rfl (o_append 3 (e := 3) (sz := 1) (by' := 8) (pT (u8 (z11.toNat : Int))) rfl (by kernel_rfl) rfl rfl rfl rfl rfl rfl (.cons .sc .nil) rfl (by (simp; omega)) (by (simp; omega))) ?_
    refine dT 8 rfl (pF 1) ?_
    refine dO 9 rfl (oS 1) ?_
    refine d_end (by kernel_rfl) ?_
    refine t_endblock ?_
    refine t_region ?_
    refine r_op oM ?_
    refine r_op oB ?_
    refine r_op oA ?_
    refine r_end ?_
    refine t_le ?_ (ih1 (n + 1) (by (try dsimp only); omega) (by (try dsimp only); omega))
    exact ⟨⟨rfl, ⟨rfl, ⟨rfl, ⟨rfl, ⟨rfl, ⟨(eqI (wr64 (by omega) (by omega))), ⟨rfl, ⟨rfl, ⟨rfl, trivial⟩⟩⟩⟩⟩⟩⟩⟩⟩, ⟨rfl, ⟨rfl, ⟨rfl, ⟨(eqR (pd_char (by omega) hz12)), trivial⟩⟩⟩⟩, rfl⟩
   ·
    have h10' := of_decide_eq_false h10
    refine t_exit rfl ?_
    refine t_region ?_
    refine r_op oM ?_
    refine r_op (oC 2) ?_
    refine r_op (o_litS 4 (e := 64) (sz := 2) (zs := [.int .i64 (0), .slice none 0 0]) rfl rfl (by kernel_rfl) rfl rfl rfl rfl rfl) ?_
    refine r_op (o_append 0 (e := 64) (sz := 2) (by' := 32) ((relIx (rs) ((z2).take ((1 : Int)).toNat), (((z2).take n).drop 1).map pT)) rfl (by kernel_rfl) rfl rfl rfl rfl rfl rfl (.cons .sc (.take (.own rfl) rfl .nil)) rfl (by (simp; omega)) (by (simp; omega))) ?_
    refine r_op oA ?_
    refine r_end ?_
    refine t_endblock ?_
    refine t_region ?_
    refine r_op oB ?_
    refine r_op oM ?_
    refine r_end ?_
    refine t_le ?_ (ih0 (m + 1) (by (try dsimp only); omega) (by (try dsimp only); omega))
    exact ⟨⟨rfl, ⟨rfl, ⟨rfl, ⟨rfl, ⟨rfl, ⟨(eqI (wr64 (by omega) (by omega))), trivial⟩⟩⟩⟩⟩⟩, ⟨(eqR (by exact pd_step hz3 (by assumption) (by omega))), ⟨rfl, trivial⟩⟩, rfl⟩
 ·
  have h1' := of_decide_eq_false h1
  refine t_exit rfl ?_
  refine tsr ?_
  refine r_op oM ?_
  refine r_op oA ?_
  refine r_end ?_
  refine t_ret Tryz.func26 (.tmp rfl .nil) rfl fun E S w u hI hd => ?_
  refine post_mk hI hd ?_ ⟨eqR ?_, trivial⟩ rfl rfl rfl <;> clear hI hd <;> (try clear ih0) <;> (try clear ih1)
  all_goals first | rfl | ((rw [List.take_of_length_le (by omega)]; rfl))
set_option maxHeartbeats 1000000 in
set_option maxRecDepth 10000 in
theorem c_slices_IndexFunc___int_int_ (l : List (Int)) (f : Nat) (cs : List ((Nat → T) × Nat)) (p : Int → Bool) (hl : l.length ≤ 9223372036854775807) (hf : ∀ x ∈ l, Fu Tryz.prog f ([.c (.t none (.v (.int .i64 (x))))] ++ pels cs) (.c (.t none (.v (.bool (p x)))))) : Pu Tryz.prog 111 [.c (.t none (.sl 1 encI (l))), .c (.fv f cs)] [] 0 (.c (.t none (.v (.int .i64 (idxI p l))))) := by
 refine pu_enter Tryz.func111 rfl (Nat.le_of_ble_eq_true rfl) fun w S => ?_
 refine tsr ?_
 refine r_op oA ?_
 refine r_end ?_
 refine t_seq ?_
 refine tsr ?_
 refine r_op oM ?_
 refine r_op (o_len rfl rfl rfl) ?_
 refine r_op oM ?_
 refine r_end ?_
 refine t_block ?_
 refine t_loopL (fun m => ⟨[(0, some (.c (.t none (.sl 1 encI (l))))), (1, some (.c (.fv f cs))), (7, some (.c (.t none (.v (.int .i64 (((l).length : Int))))))), (8, some (.c (.t none (.v (.int .i64 ((m : Int)))))))], [], 0⟩ : Nat → St) (fun m => m ≤ l.length ∧ ∀ j z, j < m → l[j]? = some z → p z = false) (fun m => l.length - m) 0 ⟨⟨rfl, ⟨rfl, ⟨rfl, ⟨rfl, trivial⟩⟩⟩⟩, trivial, rfl⟩ (by exact ⟨Nat.zero_le _, fun j z h => by omega⟩) ?_
 rintro m hI ih0
 try dsimp only at hI ih0
 obtain ⟨i1, i2⟩ := hI
 refine tsr ?_
 refine r_op oB ?_
 refine r_end ?_
 refine t_seq ?_
 refine t_cond rfl (fun h1 => ?_) (fun h1 => ?_)
 ·
  have h1' := of_decide_eq_true h1
  refine t_skip ?_
  refine t_seq ?_
  refine t_block ?_
  refine tsr ?_
  refine r_op oM ?_
  refine r_op oA ?_
  refine etr ?_
  refine r_op oM ?_
  refine r_op oM ?_
  refine r_op oM ?_
  obtain ⟨z2, hz3, b4⟩ := at_get (xs := l) (n := (m : Int)) (by omega) (by omega)
  refine r_op (o_index rfl (by kernel_rfl) rfl rfl b4 hz3) ?_
  refine r_op (o_load1 rfl (by kernel_rfl) rfl rfl) ?_
  refine r_op (o_callv 0 0 false (hf z2 (List.mem_of_getElem? (by assumption))).1 (hf z2 (List.mem_of_getElem? (by assumption))).2 rfl rfl (.c .fv) (.cons rfl (.c .t0) .nil) rfl rfl rfl) ?_
  refine r_end ?_
  refine t_cond rfl (fun h5 => ?_) (fun h5 => ?_)
  ·
   have h5' := h5
   refine tsr ?_
   refine r_op oM ?_
   refine r_op oA ?_
   refine r_end ?_
   refine t_ret Tryz.func111 (.tmp rfl .nil) rfl fun E S w u hI hd => ?_
   refine post_mk hI hd ?_ trivial rfl rfl rfl <;> clear hI hd <;> (try clear ih0)
   all_goals (rw [idx_hit i2 (by assumption) (by assumption)])
  ·
   have h5' := h5
   refine t_skip ?_
   refine t_endblock ?_
   refine t_region ?_
   refine r_op oB ?_
   refine r_op oM ?_
   refine r_end ?_
   refine t_le ?_ (ih0 (m + 1) (by (try dsimp only); omega) (by (try dsimp only); exact ⟨by omega, no_step i2 (by assumption) rfl (by assumption)⟩))
   exact ⟨⟨rfl, ⟨rfl, ⟨rfl, ⟨(eqI (wr64 (by omega) (by omega))), trivial⟩⟩⟩⟩, trivial, rfl⟩
 ·
  have h1' := of_decide_eq_false h1
  refine t_exit rfl ?_
  refine tsr ?_
  refine r_op oA ?_
  refine r_end ?_
  refine t_ret Tryz.func111 (.tmp rfl .nil) rfl fun E S w u hI hd => ?_
  refine post_mk hI hd ?_ trivial rfl rfl rfl <;> clear hI hd <;> (try clear ih0)
  all_goals (rw [idx_none i2 (by omega)])
set_option maxHeartbeats 1000000 in
set_option maxRecDepth 10000 in
theorem c_slices_ContainsFunc___int_int_ (l : List (Int)) (f : Nat) (cs : List ((Nat → T) × Nat)) (p : Int → Bool) (hl : l.length ≤ 9223372036854775807) (hf : ∀ x ∈ l, Fu Tryz.prog f ([.c (.t none (.v (.int .i64 (x))))] ++ pels cs) (.c (.t none (.v (.bool (p x)))))) : Pu Tryz.prog 103 [.c (.t none (.sl 1 encI (l))), .c (.fv f cs)] [] 0 (.c (.t none (.v (.bool (l.any p))))) := by
 refine pu_enter Tryz.func103 rfl (Nat.le_of_ble_eq_true rfl) fun w S => ?_
 refine tsr ?_
 refine r_op oA ?_
 refine etr ?_
 refine r_op oM ?_
 refine r_op oM ?_
 refine r_op (o_call 0 0 false (Go.Proofs.enters_of Tryz.func111 (by kernel_rfl) rfl) (c_slices_IndexFunc___int_int_ (l) (f) (cs) (p) (by omega) (hf)) rfl (.cons rfl (.c .t0) (.cons rfl (.c .fv) .nil)) rfl rfl rfl) ?_
 refine r_op oB ?_
 refine r_op oA ?_
 refine r_end ?_
 refine t_ret Tryz.func103 (.tmp rfl .nil) rfl fun E S w u hI hd => ?_
 refine post_mk hI hd ?_ trivial rfl rfl rfl <;> clear hI hd
 all_goals (exact scB idx_any)
set_option maxHeartbeats 1000000 in
set_option maxRecDepth 10000 in
theorem c_impl_IsValidAtom_1 (t : Int) : Pu Tryz.prog 104 [.c (.t none (.v (.int .i64 (t))))] [] 0 (.c (.t none (.v (.bool (!(termOk t)))))) := by
 refine pu_enter Tryz.func104 rfl (Nat.le_of_ble_eq_true rfl) fun w S => ?_
 refine tsr ?_
 refine r_op oA ?_
 refine etr ?_
 refine r_op oM ?_
 refine r_op (o_call 0 0 false (Go.Proofs.enters_of Tryz.func72 (by kernel_rfl) rfl) (c_impl_within (t) (-10) (4)) rfl (.cons rfl (.c .t0) (.cons rfl (.c .t0) (.cons rfl (.c .t0) .nil))) rfl rfl rfl) ?_
 refine r_op (o_not rfl rfl) ?_
 refine r_op oA ?_
 refine r_end ?_
 refine t_ret Tryz.func104 (.tmp rfl .nil) rfl fun E S w u hI hd => ?_
 refine post_mk hI hd ?_ trivial rfl rfl rfl <;> clear hI hd
 all_goals (rfl)
set_option maxHeartbeats 1000000 in
set_option maxRecDepth 10000 in
theorem c_impl_IsValidAtom (rs : List (List UInt8 × Int × Bool)) (r : Int) (ts : List Int) (hrs : rs.length ≤ 4611686018427387904) (hts : ts.length ≤ 4611686018427387904) : Pu Tryz.prog 90 [.c (.t none (.sl 3 (enS3 encS encI encB) (rs))), .agg [.t none (.v (.int .i64 (r))), .t none (.sl 1 encI (ts))]] [] 0 (.c (.t none (.v (.bool (atomOk rs r ts))))) := by
 refine pu_enter Tryz.func90 rfl (Nat.le_of_ble_eq_true rfl) fun w S => ?_
 refine tsr ?_
 refine r_op (o_box 0 rfl rfl rfl rfl) ?_
 refine r_op oA ?_
 refine r_end ?_
 refine t_seq ?_
 refine t_seq ?_
 refine t_draw (fun _ => true) (by kernel_rfl) ?_
 refine dT 0 rfl pM ?_
 refine dO 1 rfl (o_call 1 1 false (Go.Proofs.enters_of Tryz.func35 (by kernel_rfl) rfl) (c_impl_AreValidRelations (rs) (by omega)) rfl (.cons rfl (.c .t0) .nil) rfl rfl rfl) ?_
 refine dT 2 rfl (p_not rfl) ?_
 refine dT 3 rfl pM ?_
 refine dH 4 rfl (fun _ => pF 0) (fun g1 => ?_) (fun g1 => ?_)
 ·
  have g1' := (bnf g1)
  refine dH 5 rfl (fun _ => pL) (fun _ => ?_) (ncf g1)
  refine dH 6 rfl (fun _ => pM) (fun _ => ?_) (ncf g1)
  refine dH 7 rfl (fun _ => p_len rfl rfl) (fun _ => ?_) (ncf g1)
  refine dH 8 rfl (fun _ => pB) (fun _ => ?_) (ncf g1)
  refine d_onlyG 9 rfl rfl (by kernel_rfl) rfl rfl rfl (fun _ => (o_call 1 1 false (Go.Proofs.enters_of Tryz.func72 (by kernel_rfl) rfl) (c_impl_within (r) (0) (IntKind.i64.wrap (((rs).length : Int) - 1))) rfl (.cons rfl (.c .t0) (.cons rfl (.c .t0) (.cons rfl (.c .t0) .nil))) rfl rfl rfl)) (fun _ => ?_) (ncf g1)
  refine dH 10 rfl (fun _ => p_not rfl) (fun _ => ?_) (ncf g1)
  refine dT 11 rfl (p_pickF rfl g1 rfl) ?_
  refine dT 12 rfl pM ?_
  refine dH 13 rfl (fun _ => pF 1) (fun g2 => ?_) (fun g2 => ?_)
  ·
   have g2' := of_decide_eq_true (bnf g2)
   refine dH 14 rfl (fun _ => pL) (fun _ => ?_) (ncf g2)
   refine dH 15 rfl (fun _ => p_len rfl rfl) (fun _ => ?_) (ncf g2)
   refine dH 16 rfl (fun _ => pM) (fun _ => ?_) (ncf g2)
   refine dH 17 rfl (fun _ => pF 0) (fun _ => ?_) (ncf g2)
   refine dH 18 rfl (fun _ => pL) (fun _ => ?_) (ncf g2)
   obtain ⟨z3, hz4, b5⟩ := at_get (xs := rs) (n := r) (by omega) (by (simp only [IntKind.wrap_i64] at *; omega))
   refine dH 19 rfl (fun _ => p_index (by kernel_rfl) rfl rfl b5 hz4) (fun _ => ?_) (ncf g2)
   refine dH 20 rfl (fun _ => p_field (off := 1) (by kernel_rfl) rfl) (fun _ => ?_) (ncf g2)
   refine dH 21 rfl (fun _ => p_load1 (by kernel_rfl) rfl rfl) (fun _ => ?_) (ncf g2)
   refine dH 22 rfl (fun _ => pB) (fun _ => ?_) (ncf g2)
   refine dT 23 rfl (p_pickF rfl g2 rfl) ?_
   refine d_end (by kernel_rfl) ?_
   refine t_cond rfl (fun h6 => ?_) (fun h6 => ?_)
   ·
    have h6' := of_decide_eq_true h6
    refine tsr ?_
    refine r_op oA ?_
    refine r_end ?_
    refine t_ret Tryz.func90 (.tmp rfl .nil) rfl fun E S w u hI hd => ?_
    refine post_mk hI hd ?_ trivial rfl rfl rfl <;> clear hI hd
    all_goals (refine scB ?_; (rw [atom_no3 (by assumption) (by assumption)]; done))
   ·
    have h6' := of_decide_eq_false h6
    refine t_skip ?_
    refine tsr ?_
    refine r_op (oF 1) ?_
    refine r_op oL ?_
    refine r_op (o_call 1 1 false (Go.Proofs.enters_of Tryz.func103 (by kernel_rfl) rfl) (c_slices_ContainsFunc___int_int_ (ts) (104) ([]) (fun (x0 : Int) => !(termOk (x0))) (by omega) (fun x0 mx0 => ⟨Go.Proofs.enters_of Tryz.func104 (by kernel_rfl) rfl, c_impl_IsValidAtom_1 (x0)⟩)) rfl (.cons rfl (.c .t0) (.cons rfl (.c (.clo .nil)) .nil)) rfl rfl rfl) ?_
    refine r_op (o_not rfl rfl) ?_
    refine r_op oA ?_
    refine r_end ?_
    refine t_ret Tryz.func90 (.tmp rfl .nil) rfl fun E S w u hI hd => ?_
    refine post_mk hI hd ?_ trivial rfl rfl rfl <;> clear hI hd
    all_goals (refine scB ?_; (rw [atom_yes (by assumption) (by simp only [IntKind.wrap_i64] at *; omega) (by assumption) (by omega)]; done))
  ·
   have g2' := of_decide_eq_false (bnt g2)
   refine dG 14 (nc g2) (fun _ => ?_)
   refine dG 15 (nc g2) (fun _ => ?_)
   refine dG 16 (nc g2) (fun _ => ?_)
   refine dG 17 (nc g2) (fun _ => ?_)
   refine dG 18 (nc g2) (fun _ => ?_)
   refine dG 19 (nc g2) (fun _ => ?_)
   refine dG 20 (nc g2) (fun _ => ?_)
   refine dG 21 (nc g2) (fun _ => ?_)
   refine dG 22 (nc g2) (fun _ => ?_)
   refine dT 23 rfl (p_pickT rfl g2 rfl) ?_
   refine d_end (by kernel_rfl) ?_
   refine t_cond rfl (fun _ => ?_) (nc rfl)
   refine tsr ?_
   refine r_op oA ?_
   refine r_end ?_
   refine t_ret Tryz.func90 (.tmp rfl .nil) rfl fun E S w u hI hd => ?_
   refine post_mk hI hd ?_ trivial rfl rfl rfl <;> clear hI hd
   all_goals (refine scB ?_; (rw [atom_no2 (by simp only [IntKind.wrap_i64] at *; omega)]; done))
 ·
  have g1' := (bnt g1)
  refine dG 5 (nc g1) (fun _ => ?_)
  refine dG 6 (nc g1) (fun _ => ?_)
  refine dG 7 (nc g1) (fun _ => ?_)
  refine dG 8 (nc g1) (fun _ => ?_)
  refine dG 9 (nc g1) (fun _ => ?_)
  refine dG 10 (nc g1) (fun _ => ?_)
  refine dT 11 rfl (p_pickT rfl g1 rfl) ?_
  refine dT 12 rfl pM ?_
  refine dG 13 (nc rfl) (fun _ => ?_)
  refine dG 14 (nc rfl) (fun _ => ?_)
  refine dG 15 (nc rfl) (fun _ => ?_)
  refine dG 16 (nc rfl) (fun _ => ?_)
  refine dG 17 (nc rfl) (fun _ => ?_)
  refine dG 18 (nc rfl) (fun _ => ?_)
  refine dG 19 (nc rfl) (fun _ => ?_)
  refine dG 20 (nc rfl) (fun _ => ?_)
  refine dG 21 (nc rfl) (fun _ => ?_)
  refine dG 22 (nc rfl) (fun _ => ?_)
  refine dT 23 rfl (p_pickT rfl rfl rfl) ?_
  refine d_end (by kernel_rfl) ?_
  refine t_cond rfl (fun _ => ?_) (nc rfl)
  refine tsr ?_
  refine r_op oA ?_
  refine r_end ?_
  refine t_ret Tryz.func90 (.tmp rfl .nil) rfl fun E S w u hI hd => ?_
  refine post_mk hI hd ?_ trivial rfl rfl rfl <;> clear hI hd
  all_goals (refine scB ?_; (rw [atom_no1 (by assumption)]; done))
set_option maxHeartbeats 1000000 in
set_option maxRecDepth 10000 in
theorem c_impl_areAtoms_1 (r : Int) (ts : List Int) (rs : Rels) (hrs : rs.length ≤ 4611686018427387904) (hts : ts.length ≤ 4611686018427387904) : Pu Tryz.prog 89 [.agg [.t none (.v (.int .i64 (r))), .t none (.sl 1 encI (ts))], .c (.pel none ((enSl 3 (enS3 encS encI encB)) (rs)) 1)] [] 0 (.c (.t none (.v (.bool (badA rs (r, ts)))))) := by
 refine pu_enter Tryz.func89 rfl (Nat.le_of_ble_eq_true rfl) fun w S => ?_
 refine tsr ?_
 refine r_op (o_box 0 rfl rfl rfl rfl) ?_
 refine r_op oA ?_
 refine etr ?_
 refine r_op (o_load1 rfl (by kernel_rfl) rfl rfl) ?_
 refine r_op (oC 2) ?_
 refine r_op (o_call 1 1 false (Go.Proofs.enters_of Tryz.func90 (by kernel_rfl) rfl) (c_impl_IsValidAtom (rs) (r) (ts) (by omega) (by omega)) rfl (.cons rfl (.c .t0) (.cons rfl (.agg (.cons .t0 (.cons .t0 .nil))) .nil)) rfl rfl rfl) ?_
 refine r_op (o_not rfl rfl) ?_
 refine r_op oA ?_
 refine r_end ?_
 refine t_ret Tryz.func89 (.tmp rfl .nil) rfl fun E S w u hI hd => ?_
 refine post_mk hI hd ?_ trivial rfl rfl rfl <;> clear hI hd
 all_goals (rfl)
set_option maxHeartbeats 1000000 in
set_option maxRecDepth 10000 in
theorem c_slices_IndexFunc___impl_Atom_impl_Atom_ (l : List (Int × (List (Int)))) (f : Nat) (cs : List ((Nat → T) × Nat)) (p : Int × (List (Int)) → Bool) (hl : l.length ≤ 9223372036854775807) (hf : ∀ x ∈ l, Fu Tryz.prog f ([.agg [.t none (.v (.int .i64 (x.1))), .t none (.sl 1 encI (x.2))]] ++ pels cs) (.c (.t none (.v (.bool (p x)))))) : Pu Tryz.prog 94 [.c (.t none (.sl 2 (enS2 encI (enSl 1 encI)) (l))), .c (.fv f cs)] [] 0 (.c (.t none (.v (.int .i64 (idxI p l))))) := by
 refine pu_enter Tryz.func94 rfl (Nat.le_of_ble_eq_true rfl) fun w S => ?_
 refine tsr ?_
 refine r_op oA ?_
 refine r_end ?_
 refine t_seq ?_
 refine tsr ?_
 refine r_op oM ?_
 refine r_op (o_len rfl rfl rfl) ?_
 refine r_op oM ?_
 refine r_end ?_
 refine t_block ?_
 refine t_loopL (fun m => ⟨[(0, some (.c (.t none (.sl 2 (enS2 encI (enSl 1 encI)) (l))))), (1, some (.c (.fv f cs))), (7, some (.c (.t none (.v (.int .i64 (((l).length : Int))))))), (8, some (.c (.t none (.v (.int .i64 ((m : Int)))))))], [], 0⟩ : Nat → St) (fun m => m ≤ l.length ∧ ∀ j z, j < m → l[j]? = some z → p z = false) (fun m => l.length - m) 0 ⟨⟨rfl, ⟨rfl, ⟨rfl, ⟨rfl, trivial⟩⟩⟩⟩, trivial, rfl⟩ (by exact ⟨Nat.zero_le _, fun j z h => by omega⟩) ?_
 rintro m hI ih0
 try dsimp only at hI ih0
 obtain ⟨i1, i2⟩ := hI
 refine tsr ?_
 refine r_op oB ?_
 refine r_end ?_
 refine t_seq ?_
 refine t_cond rfl (fun h1 => ?_) (fun h1 => ?_)
 ·
  have h1' := of_decide_eq_true h1
  refine t_skip ?_
  refine t_seq ?_
  refine t_block ?_
  refine tsr ?_
  refine r_op oM ?_
  refine r_op oA ?_
  refine etr ?_
  refine r_op oM ?_
  refine r_op oM ?_
  refine r_op oM ?_
  obtain ⟨z2, hz3, b4⟩ := at_get (xs := l) (n := (m : Int)) (by omega) (by omega)
  refine r_op (o_index rfl (by kernel_rfl) rfl rfl b4 hz3) ?_
  refine r_op (o_loadA rfl (n := 2) (by kernel_rfl) (by kernel_rfl) rfl rfl) ?_
  refine r_op (o_callv 0 0 false (hf z2 (List.mem_of_getElem? (by assumption))).1 (hf z2 (List.mem_of_getElem? (by assumption))).2 rfl rfl (.c .fv) (.cons rfl (.agg (.cons .t0 (.cons .t0 .nil))) .nil) rfl rfl rfl) ?_
  refine r_end ?_
  refine t_cond rfl (fun h5 => ?_) (fun h5 => ?_)
  ·
   have h5' := h5
   refine tsr ?_
   refine r_op oM ?_
   refine r_op oA ?_
   refine r_end ?_
   refine t_ret Tryz.func94 (.tmp rfl .nil) rfl fun E S w u hI hd => ?_
   refine post_mk hI hd ?_ trivial rfl rfl rfl <;> clear hI hd <;> (try clear ih0)
   all_goals (rw [idx_hit i2 (by assumption) (by assumption)])
  ·
   have h5' := h5
   refine t_skip ?_
   refine t_endblock ?_
   refine t_region ?_
   refine r_op oB ?_
   refine r_op oM ?_
   refine r_end ?_
   refine t_le ?_ (ih0 (m + 1) (by (try dsimp only); omega) (by (try dsimp only); exact ⟨by omega, no_step i2 (by assumption) rfl (by assumption)⟩))
   exact ⟨⟨rfl, ⟨rfl, ⟨rfl, ⟨(eqI (wr64 (by omega) (by omega))), trivial⟩⟩⟩⟩, trivial, rfl⟩
 ·
  have h1' := of_decide_eq_false h1
  refine t_exit rfl ?_
  refine tsr ?_
  refine r_op oA ?_
  refine r_end ?_
  refine t_ret Tryz.func94 (.tmp rfl .nil) rfl fun E S w u hI hd => ?_
  refine post_mk hI hd ?_ trivial rfl rfl rfl <;> clear hI hd <;> (try clear ih0)
  all_goals (rw [idx_none i2 (by omega)])
set_option maxHeartbeats 1000000 in
set_option maxRecDepth 10000 in
theorem c_slices_ContainsFunc___impl_Atom_impl_Atom_ (l : List (Int × (List (Int)))) (f : Nat) (cs : List ((Nat → T) × Nat)) (p : Int × (List (Int)) → Bool) (hl : l.length ≤ 9223372036854775807) (hf : ∀ x ∈ l, Fu Tryz.prog f ([.agg [.t none (.v (.int .i64 (x.1))), .t none (.sl 1 encI (x.2))]] ++ pels cs) (.c (.t none (.v (.bool (p x)))))) : Pu Tryz.prog 69 [.c (.t none (.sl 2 (enS2 encI (enSl 1 encI)) (l))), .c (.fv f cs)] [] 0 (.c (.t none (.v (.bool (l.any p))))) := by
 refine pu_enter Tryz.func69 rfl (Nat.le_of_ble_eq_true rfl) fun w S => ?_
 refine tsr ?_
 refine r_op oA ?_
 refine etr ?_
 refine r_op oM ?_
 refine r_op oM ?_
 refine r_op (o_call 0 0 false (Go.Proofs.enters_of Tryz.func94 (by kernel_rfl) rfl) (c_slices_IndexFunc___impl_Atom_impl_Atom_ (l) (f) (cs) (p) (by omega) (hf)) rfl (.cons rfl (.c .t0) (.cons rfl (.c .fv) .nil)) rfl rfl rfl) ?_
 refine r_op oB ?_
 refine r_op oA ?_
 refine r_end ?_
 refine t_ret Tryz.func69 (.tmp rfl .nil) rfl fun E S w u hI hd => ?_
 refine post_mk hI hd ?_ trivial rfl rfl rfl <;> clear hI hd
 all_goals (exact scB idx_any)
set_option maxHeartbeats 1000000 in
set_option maxRecDepth 10000 in
theorem c_impl_areAtoms (rs : Rels) (l : Atoms) (k : Int) (hrs : rs.length ≤ 4611686018427387904) (hs : szS (fun (x : Int × (List (Int))) => (x.2).length) l ≤ 1048600) : Pu Tryz.prog 66 [.c (.t none (.sl 3 (enS3 encS encI encB) (rs))), .c (.t none (.sl 2 (enS2 encI (enSl 1 encI)) (l))), .c (.t none (.v (.int .i64 (k))))] [] 0 (.c (.t none (.v (.bool (atomsOk rs l k))))) := by
 refine pu_enter Tryz.func66 rfl (Nat.le_of_ble_eq_true rfl) fun w S => ?_
 have gl := sz_len (f := (fun (x : Int × (List (Int))) => (x.2).length)) (l := l)
 refine tsr ?_
 refine r_op (o_box 0 rfl rfl rfl rfl) ?_
 refine r_op oA ?_
 refine etr ?_
 refine r_op oM ?_
 refine r_op (o_len rfl rfl rfl) ?_
 refine r_op oM ?_
 refine r_op (o_call 1 1 false (Go.Proofs.enters_of Tryz.func72 (by kernel_rfl) rfl) (c_impl_within (((l).length : Int)) (1) (k)) rfl (.cons rfl (.c .t0) (.cons rfl (.c .t0) (.cons rfl (.c .t0) .nil))) rfl rfl rfl) ?_
 refine r_op oM ?_
 refine r_guard rfl rfl rfl (fun g1 => ?_) (fun g1 => ?_)
 ·
  have g1' := of_decide_eq_true g1
  refine r_op oM ?_
  refine r_guard rfl rfl rfl (fun _ => ?_) (nc g1)
  refine r_op (o_makeFunc rfl (.cons rfl .nil)) ?_
  refine r_guard rfl rfl rfl (fun _ => ?_) (nc g1)
  refine r_op (o_call 1 1 false (Go.Proofs.enters_of Tryz.func69 (by kernel_rfl) rfl) (c_slices_ContainsFunc___impl_Atom_impl_Atom_ (l) (89) ([((enSl 3 (enS3 encS encI encB)) (rs), 1)]) (fun (x0 : Int × (List (Int))) => badA (rs) ((x0.1), (x0.2))) (by omega) (fun x0 mx0 => ⟨Go.Proofs.enters_of Tryz.func89 (by kernel_rfl) rfl, c_impl_areAtoms_1 (x0.1) (x0.2) (rs) (by omega) (by (have e1 := sz_mem (f := (fun (x : Int × (List (Int))) => (x.2).length)) (l := l) (by assumption); (try dsimp only at e1); omega))⟩)) rfl (.cons rfl (.c .t0) (.cons rfl (.c (.clo (.cons rfl rfl rfl (.cons .t .nil) .nil))) .nil)) rfl rfl rfl) ?_
  refine r_guard rfl rfl rfl (fun _ => ?_) (nc g1)
  refine r_op (o_not rfl rfl) ?_
  refine r_op (o_pickT rfl rfl g1 rfl) ?_
  refine r_op oA ?_
  refine r_end ?_
  refine t_ret Tryz.func66 (.tmp rfl .nil) rfl fun E S w u hI hd => ?_
  refine post_mk hI hd ?_ trivial rfl rfl rfl <;> clear hI hd
  all_goals (refine scB ?_; unfold atomsOk; (rw [decide_eq_true (by assumption)]; rfl))
 ·
  have g1' := of_decide_eq_false g1
  refine r_guard rfl rfl rfl (ncf g1) (fun _ => ?_)
  refine r_guard rfl rfl rfl (ncf g1) (fun _ => ?_)
  refine r_guard rfl rfl rfl (ncf g1) (fun _ => ?_)
  refine r_op (o_pickF rfl rfl g1 rfl) ?_
  refine r_op oA ?_
  refine r_end ?_
  refine t_ret Tryz.func66 (.tmp rfl .nil) rfl fun E S w u hI hd => ?_
  refine post_mk hI hd ?_ trivial rfl rfl rfl <;> clear hI hd
  all_goals (refine scB ?_; unfold atomsOk; (rw [decide_eq_false (by assumption)]; rfl))
def Tryz.sortL_ren : Go.Shelf.Ren := ⟨fun | 5 => 91 | 8 => 106 | 7 => 105 | 19 => 121 | 20 => 122 | 10 => 112 | 11 => 113 | 12 => 114 | 13 => 115 | 14 => 116 | 15 => 117 | 16 => 118 | 17 => 119 | 18 => 120 | 30 => 124 | 31 => 125 | 32 => 126 | 33 => 127 | 34 => 128 | 35 => 129 | 40 => 134 | n => n, fun | 23 => 62 | 25 => 3 | 3 => 3 | 32 => 100 | 22 => 62 | 0 => 0 | 44 => 108 | 46 => 130 | 4 => 4 | 36 => 121 | 35 => 120 | 41 => 126 | 5 => 5 | 9 => 9 | 53 => 136 | 57 => 140 | 63 => 146 | 64 => 147 | n => n, fun | n => n⟩
theorem Tryz.sortL : Go.Proofs.SlLaysM.n5 Tryz.prog Tryz.sortL_ren := {
 mixed := by kernel_rfl
 f5 := ⟨Tryz.f91.name, by decide, Tryz.func91.trans (congrArg some (by kernel_rfl))⟩
 f7 := ⟨Tryz.f105.name, by decide, Tryz.func105.trans (congrArg some (by kernel_rfl))⟩
 f8 := Tryz.func106.trans (congrArg some (by kernel_rfl))
 f10 := ⟨Tryz.f112.name, by decide, Tryz.func112.trans (congrArg some (by kernel_rfl))⟩
 f11 := ⟨Tryz.f113.name, by decide, Tryz.func113.trans (congrArg some (by kernel_rfl))⟩
 f12 := ⟨Tryz.f114.name, by decide, Tryz.func114.trans (congrArg some (by kernel_rfl))⟩
 f13 := ⟨Tryz.f115.name, by decide, Tryz.func115.trans (congrArg some (by kernel_rfl))⟩
 f14 := ⟨Tryz.f116.name, by decide, Tryz.func116.trans (congrArg some (by kernel_rfl))⟩
 f15 := ⟨Tryz.f117.name, by decide, Tryz.func117.trans (congrArg some (by kernel_rfl))⟩
 f16 := ⟨Tryz.f118.name, by decide, Tryz.func118.trans (congrArg some (by kernel_rfl))⟩
 f17 := ⟨Tryz.f119.name, by decide, Tryz.func119.trans (congrArg some (by kernel_rfl))⟩
 f18 := ⟨Tryz.f120.name, by decide, Tryz.func120.trans (congrArg some (by kernel_rfl))⟩
 f19 := Tryz.func121.trans (congrArg some (by kernel_rfl))
 f20 := Tryz.func122.trans (congrArg some (by kernel_rfl))
 f30 := ⟨Tryz.f124.name, by decide, Tryz.func124.trans (congrArg some (by kernel_rfl))⟩
 f31 := Tryz.func125.trans (congrArg some (by kernel_rfl))
 f32 := Tryz.func126.trans (congrArg some (by kernel_rfl))
 f33 := ⟨Tryz.f127.name, by decide, Tryz.func127.trans (congrArg some (by kernel_rfl))⟩
 f34 := ⟨Tryz.f128.name, by decide, Tryz.func128.trans (congrArg some (by kernel_rfl))⟩
 f35 := ⟨Tryz.f129.name, by decide, Tryz.func129.trans (congrArg some (by kernel_rfl))⟩
 f40 := ⟨Tryz.f134.name, by decide, Tryz.func134.trans (congrArg some (by kernel_rfl))⟩
 t0 := Tryz.underlying0
 a0 := Tryz.isAgg0
 z0 := Tryz.sizeOf0
 v0 := Tryz.zeroValue0
 t3 := Tryz.underlying3
 a3 := Tryz.isAgg3
 z3 := Tryz.sizeOf3
 v3 := Tryz.zeroValue3
 t4 := Tryz.underlying4
 a4 := Tryz.isAgg4
 z4 := Tryz.sizeOf4
 v4 := Tryz.zeroValue4
 t5 := Tryz.underlying5
 a5 := Tryz.isAgg5
 z5 := Tryz.sizeOf5
 v5 := Tryz.zeroValue5
 t9 := Tryz.underlying9
 a9 := Tryz.isAgg9
 z9 := Tryz.sizeOf9
 v9 := Tryz.zeroValue9
 t22 := Tryz.underlying62
 a22 := Tryz.isAgg62
 z22 := Tryz.sizeOf62
 v22 := Tryz.zeroValue62
 t23 := Tryz.underlying62
 a23 := Tryz.isAgg62
 z23 := Tryz.sizeOf62
 v23 := Tryz.zeroValue62
 t25 := Tryz.underlying3
 a25 := Tryz.isAgg3
 z25 := Tryz.sizeOf3
 v25 := Tryz.zeroValue3
 t32 := Tryz.underlying100
 a32 := Tryz.isAgg100
 z32 := Tryz.sizeOf100
 v32 := Tryz.zeroValue100
 t35 := Tryz.underlying120
 a35 := Tryz.isAgg120
 z35 := Tryz.sizeOf120
 v35 := Tryz.zeroValue120
 t36 := Tryz.underlying121
 a36 := Tryz.isAgg121
 z36 := Tryz.sizeOf121
 v36 := Tryz.zeroValue121
 t41 := Tryz.underlying126
 a41 := Tryz.isAgg126
 z41 := Tryz.sizeOf126
 v41 := Tryz.zeroValue126
 t44 := Tryz.underlying108
 a44 := Tryz.isAgg108
 z44 := Tryz.sizeOf108
 v44 := Tryz.zeroValue108
 t46 := Tryz.underlying130
 a46 := Tryz.isAgg130
 z46 := Tryz.sizeOf130
 v46 := Tryz.zeroValue130
 t53 := Tryz.underlying136
 a53 := Tryz.isAgg136
 z53 := Tryz.sizeOf136
 v53 := Tryz.zeroValue136
 t57 := Tryz.underlying140
 a57 := Tryz.isAgg140
 z57 := Tryz.sizeOf140
 v57 := Tryz.zeroValue140
 t63 := Tryz.underlying146
 a63 := Tryz.isAgg146
 z63 := Tryz.sizeOf146
 v63 := Tryz.zeroValue146
 t64 := Tryz.underlying147
 a64 := Tryz.isAgg147
 z64 := Tryz.sizeOf147
 v64 := Tryz.zeroValue147 }
set_option maxHeartbeats 1000000 in
set_option maxRecDepth 10000 in
theorem c_slices_Sort___int_int_ (U : Nat → Value) (e0 : Nat) (l : List Int) (hl : l.length ≤ 1099511627776) : Mu Tryz.prog 91 [.c (.own 0)] [(0, some (.row (some (U 0)) e0 true 1 encI (l)))] 1 [(0, some (.row (some (U 0)) e0 true 1 encI (sortI l)))] 1 (.tup []) := by
 exact sort_mu Tryz.sortL U e0 l (by omega)
end Go.Eng
