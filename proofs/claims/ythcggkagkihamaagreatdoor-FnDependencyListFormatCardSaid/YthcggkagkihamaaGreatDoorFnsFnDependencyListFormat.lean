/- What the functions that FnDependencyListFormat reaches answer. -/
import Derived.Test.YthcggkagkihamaaGreatDoorFnsFnDependencyListFormatp1
import Derived.Test.YthcggkagkihamaaGreatDoorEngZJ
import Derived.Test.YthcggkagkihamaaGreatDoorChecked
set_option linter.unusedVariables false
set_option linter.unusedSimpArgs false
namespace Go.Eng
open Go Go.RowKit Go.Proofs
set_option maxHeartbeats 1000000 in
set_option maxRecDepth 10000 in
theorem c_spec_DrawParseDependencies (code : List Int) (hc : code.length ≤ 1048576) : PuG Tryz.prog 24 [.c (.t none (.sl 1 encU (code)))] (fun (t : (List UInt8)) => t.length ≤ 1000) (fun (t : (List UInt8)) => []) 0 (fun (t : (List UInt8)) => .tup [(false, [.t none (.sl 3 (enS3 encS encI encB) (sigs5))]), (false, [.t none (.v (.string (mkS (t))))])]) := by
 refine pu_enterG Tryz.func24 rfl (Nat.le_of_ble_eq_true rfl) fun w S => ?_
 refine tsr ?_
 refine r_op oA ?_
 refine r_op oA ?_
 refine etr ?_
 refine r_op oM ?_
 refine r_opX (o_callG 0 1 (Go.Proofs.enters_of Tryz.func39 (by kernel_rfl) rfl) (c_spec_l1New (code) (by omega)) rfl (.cons rfl (.c .t0) .nil) rfl rfl) ?_
 rintro ⟨h1, hq2⟩
 try dsimp only at hq2
 try dsimp only
 refine r_op oA ?_
 refine etr ?_
 refine r_op oM ?_
 refine r_opX (o_callG 1 1 (Go.Proofs.enters_of Tryz.func51 (by kernel_rfl) rfl) (c_spec_DrawAreValidDependencies (code) (by omega)) rfl (.cons rfl (.c .t0) .nil) rfl rfl) ?_
 rintro ⟨ds4, hq5⟩
 try dsimp only at hq5
 try dsimp only
 obtain ⟨q6, q7⟩ := hq5
 have dl : ds4.length ≤ 6 := (by assumption); have dd : ∀ d ∈ ds4, depL d := (by assumption); have dz := dep6_sz dl dd; have hod := hod_L dd; have fl := fmtDs_len (rs := sigs5) (ds := ds4)
 refine r_op oM ?_
 refine r_op (o_extract rfl rfl rfl rfl) ?_
 refine r_op (o_extract rfl rfl rfl rfl) ?_
 refine r_op oA ?_
 refine r_op oA ?_
 refine etr ?_
 refine r_op oM ?_
 refine r_op oM ?_
 refine r_op (o_call 1 1 false (Go.Proofs.enters_of Tryz.func56 (by kernel_rfl) rfl) (c_spec_FormatDependencies (sigs5) ((ds4)) (by (rw [sigs5_len]; omega)) (by omega) (by omega)) rfl (.cons rfl (.c .t0) (.cons rfl (.c .t0) .nil)) rfl rfl rfl) ?_
 refine r_op oA ?_
 refine r_end ?_
 refine t_seq ?_
 refine tsr ?_
 refine r_op oM ?_
 refine r_opX (o_callGM 0 1 2 (pv := none) (Go.Proofs.enters_of Tryz.func57 (by kernel_rfl) rfl) (c_spec_l1Once ((code)) (0) ((h1)) (4) (by omega) (by omega) (by omega) (by omega) (by omega)) rfl rfl (.cur rfl (.cons rfl .nil)) rfl (fun ⟨_, _, _⟩ => rfl) (fun _ => rfl) (fun ⟨_, _, _⟩ => rfl) rfl rfl) ?_
 rintro ⟨⟨b8, i29, h210⟩, hq11⟩
 try dsimp only at hq11
 try dsimp only
 refine r_end ?_
 refine t_cond rfl (fun h13 => ?_) (fun h13 => ?_)
 ·
  have h13' := h13
  refine tsr ?_
  refine r_op oM ?_
  refine r_op oM ?_
  refine r_op oM ?_
  refine r_op oM ?_
  refine r_opX (o_callGM 0 2 3 (pv := none) (Go.Proofs.enters_of Tryz.func59 (by kernel_rfl) rfl) (c_spec_l1Spoil (((code))) ((i29)) ((h210)) (fmtDs (sigs5) ((ds4))) (by omega) (by omega) (by omega) (by omega)) rfl rfl (.cur rfl (.cons rfl .nil)) rfl (fun ⟨_, _, _⟩ => rfl) (fun _ => rfl) (fun ⟨_, _, _⟩ => rfl) rfl rfl) ?_
  rintro ⟨⟨t14, i215, h216⟩, hq17⟩
  try dsimp only at hq17
  try dsimp only
  obtain ⟨q18, q19⟩ := hq17
  refine r_op (o_litN 3 (e := 9) (sz := 1) (zs := [.string (mkS ([]))]) (enc := encS) [([] : List UInt8), ([59] : List UInt8), ([97, 120, 121, 62, 114, 120, 59] : List UInt8), ([97, 120, 121, 62, 114, 120, 59, 59, 98, 121, 62, 114, 121] : List UInt8), (t14)] rfl rfl (by kernel_rfl) rfl rfl rfl rfl rfl rfl rfl rfl (.cons .sc (.cons .sc (.cons .sc (.cons .sc (.cons .sc .nil))))) rfl) ?_
  refine r_freeze 3 rfl (frz_pu rfl) ?_
  refine r_opX (o_callGM 0 4 5 (pv := none) (Go.Proofs.enters_of Tryz.func58 (by kernel_rfl) rfl) (c_spec_l1Pick ((((code)))) ((i215)) ((h216)) ([([] : List UInt8), ([59] : List UInt8), ([97, 120, 121, 62, 114, 120, 59] : List UInt8), ([97, 120, 121, 62, 114, 120, 59, 59, 98, 121, 62, 114, 121] : List UInt8), (t14)]) (by omega) (by omega) (by omega) (by (simp only [List.length_cons, List.length_nil]; omega)) (by (simp only [List.length_cons, List.length_nil]; omega))) rfl rfl (.cur rfl (.cons rfl .nil)) rfl (fun ⟨_, _, _⟩ => rfl) (fun _ => rfl) (fun ⟨_, _, _⟩ => rfl) rfl rfl) ?_
  rintro ⟨⟨x20, i221, h222⟩, hq23⟩
  try dsimp only at hq23
  try dsimp only
  obtain ⟨q24, q25⟩ := hq23
  refine r_op oA ?_
  refine r_op oA ?_
  refine r_end ?_
  refine t_ret Tryz.func24 (.tmp rfl (.tmp rfl .nil)) rfl fun E S w u hI hd => ?_
  refine post_mkG ((x20)) ?_ hI hd ?_ trivial rfl rfl <;> clear hI hd
  · (try dsimp only) <;> ((exact pick_len (by assumption) (by decide) (by decide) (by decide) (by decide) (by assumption)))
  · rfl
 ·
  have h13' := h13
  refine t_skip ?_
  refine tsr ?_
  refine r_op oM ?_
  refine r_op oM ?_
  refine r_op oA ?_
  refine r_op oA ?_
  refine r_end ?_
  refine t_ret Tryz.func24 (.tmp rfl (.tmp rfl .nil)) rfl fun E S w u hI hd => ?_
  refine post_mkG (fmtDs (sigs5) ((ds4))) ?_ hI hd ?_ trivial rfl rfl <;> clear hI hd
  · (try dsimp only) <;> (((try dsimp only); omega))
  · rfl
set_option maxHeartbeats 1000000 in
set_option maxRecDepth 10000 in
theorem c_spec_l3Cut (s : List UInt8) (bi : Int) (hs : s.length ≤ 1048576) (hb : 0 ≤ bi ∧ bi < 256) : Pu Tryz.prog 60 [.c (.t none (.v (.string (mkS (s))))), .c (.t none (.v (.int .u8 (bi))))] [(0, some (.row none 9 true 1 encS (spl (u8 bi) s)))] 1 (.c (.own 0)) := by
 refine pu_enter Tryz.func60 rfl (Nat.le_of_ble_eq_true rfl) fun w S => ?_
 refine tsr ?_
 refine r_op oA ?_
 refine etr ?_
 refine r_op (o_lit0 0 (e := 9) (sz := 1) (zs := [.string (mkS ([]))]) encS rfl rfl (by kernel_rfl) rfl) ?_
 refine r_op oA ?_
 refine etr ?_
 refine r_op oA ?_
 refine r_end ?_
 refine t_seq ?_
 refine tsr ?_
 refine r_op oA ?_
 refine r_end ?_
 refine t_block ?_
 refine t_loopL (fun (m, st, L) => ⟨[(0, some (.c (.t none (.v (.string (mkS (s))))))), (1, some (.c (.t none (.v (.int .u8 (bi)))))), (4, some (.c (.t none (.v (.slice none 0 0))))), (5, some (.c (.own 0))), (6, some (.c (.t none (.v (.int .i64 ((st : Int))))))), (7, some (.c (.t none (.v (.int .i64 ((m : Int)))))))], [(0, some (.row none 9 true 1 encS (L)))], 1⟩ : Nat × Nat × List (List UInt8) → St) (fun (m, st, L) => cutK (u8 bi) s L st m ∧ L.length ≤ m) (fun (m, st, L) => s.length - m) (0, 0, []) ⟨⟨rfl, ⟨rfl, ⟨rfl, ⟨rfl, ⟨rfl, ⟨rfl, trivial⟩⟩⟩⟩⟩⟩, ⟨rfl, trivial⟩, rfl⟩ (by exact ⟨cut0, Nat.le_refl _⟩) ?_
 rintro ⟨m, st, L⟩ hI ih0
 try dsimp only at hI ih0
 obtain ⟨i1, i4⟩ := hI; have i2 := i1.2.1; have i3 := i1.2.2
 refine t_seq ?_
 refine tsr ?_
 refine r_op oM ?_
 refine r_op oM ?_
 refine r_op (o_lenS rfl Tryz.underlying9 rfl) ?_
 refine r_op oB ?_
 refine r_end ?_
 refine t_cond rfl (fun h1 => ?_) (fun h1 => ?_)
 ·
  have h1' := of_decide_eq_true h1
  refine t_skip ?_
  refine t_seq ?_
  refine t_block ?_
  refine tsr ?_
  refine r_op oM ?_
  refine r_op oM ?_
  obtain ⟨z2, hz3, b4⟩ := at_get (xs := s) (n := (m : Int)) (by omega) (by omega)
  refine r_op (o_indexS rfl Tryz.underlying9 rfl rfl b4 hz3) ?_
  refine r_op oM ?_
  refine r_op oB ?_
  refine r_end ?_
  refine t_cond rfl (fun h5 => ?_) (fun h5 => ?_)
  ·
   have h5' := of_decide_eq_true h5
   refine tsr ?_
   refine r_op oM ?_
   refine r_op oM ?_
   refine r_op oM ?_
   refine r_op oM ?_
   refine r_op (o_subS rfl Tryz.underlying9 rfl rfl rfl (by omega) (by omega) (by omega)) ?_
   refine r_op (o_litS 1 (e := 9) (sz := 1) (zs := [.string (mkS ([]))]) rfl rfl (by kernel_rfl) rfl rfl rfl rfl rfl) ?_
   refine r_op (o_append 0 (e := 9) (sz := 1) (by' := 16) (((s).take ((m : Int)).toNat).drop ((st : Int)).toNat) rfl (by kernel_rfl) rfl rfl rfl rfl rfl rfl (.cons .sc .nil) rfl (by omega) (by omega)) ?_
   refine r_op oA ?_
   refine rtr ?_
   refine r_op oM ?_
   refine r_op oB ?_
   refine r_op oA ?_
   refine r_end ?_
   refine t_endblock ?_
   refine t_region ?_
   refine r_op oM ?_
   refine r_op oB ?_
   refine r_op oA ?_
   refine r_end ?_
   refine t_le ?_ (ih0 (m + 1, m + 1, L ++ [((s).take ((m : Int)).toNat).drop ((st : Int)).toNat]) (by (try dsimp only); omega) (by (try dsimp only); exact ⟨cut_sep i1 hz3 (u8_is (by assumption)), by simp; omega⟩))
   exact ⟨⟨rfl, ⟨rfl, ⟨rfl, ⟨rfl, ⟨(eqI (wr64 (by omega) (by omega))), ⟨(eqI (wr64 (by omega) (by omega))), trivial⟩⟩⟩⟩⟩⟩, ⟨rfl, trivial⟩, rfl⟩
  ·
   have h5' := of_decide_eq_false h5
   refine t_skip ?_
   refine t_endblock ?_
   refine t_region ?_
   refine r_op oM ?_
   refine r_op oB ?_
   refine r_op oA ?_
   refine r_end ?_
   refine t_le ?_ (ih0 (m + 1, st, L) (by (try dsimp only); omega) (by (try dsimp only); exact ⟨cut_ch i1 hz3 (u8_not hb (by assumption)), by omega⟩))
   exact ⟨⟨rfl, ⟨rfl, ⟨rfl, ⟨rfl, ⟨rfl, ⟨(eqI (wr64 (by omega) (by omega))), trivial⟩⟩⟩⟩⟩⟩, ⟨rfl, trivial⟩, rfl⟩
 ·
  have h1' := of_decide_eq_false h1
  refine t_exit rfl ?_
  refine tsr ?_
  refine r_op oM ?_
  refine r_op oM ?_
  refine r_op oM ?_
  refine r_op (o_subSl rfl Tryz.underlying9 rfl rfl (by omega) (by omega)) ?_
  refine r_op (o_litS 1 (e := 9) (sz := 1) (zs := [.string (mkS ([]))]) rfl rfl (by kernel_rfl) rfl rfl rfl rfl rfl) ?_
  refine r_op (o_append 0 (e := 9) (sz := 1) (by' := 16) ((s).drop ((st : Int)).toNat) rfl (by kernel_rfl) rfl rfl rfl rfl rfl rfl (.cons .sc .nil) rfl (by omega) (by omega)) ?_
  refine r_op oA ?_
  refine r_end ?_
  refine t_ret Tryz.func60 (.tmp rfl .nil) rfl fun E S w u hI hd => ?_
  refine post_mk hI hd ?_ ⟨eqR ?_, trivial⟩ rfl rfl rfl <;> clear hI hd <;> (try clear ih0)
  all_goals first | rfl | ((have e7 := cut_end i1 (by omega)); simpa using e7)
set_option maxHeartbeats 1000000 in
set_option maxRecDepth 10000 in
theorem c_spec_RelationIndex (rs : Rels) (n : List UInt8) (hrs : rs.length ≤ 1048576) : Pu Tryz.prog 173 [.c (.t none (.sl 3 (enS3 encS encI encB) (rs))), .c (.t none (.v (.string (mkS (n)))))] [] 0 (.c (.t none (.v (.int .i64 (relIx rs n))))) := by
 refine pu_enter Tryz.func173 rfl (Nat.le_of_ble_eq_true rfl) fun w S => ?_
 refine tsr ?_
 refine r_op oA ?_
 refine r_end ?_
 refine t_seq ?_
 refine tsr ?_
 refine r_op oA ?_
 refine r_end ?_
 refine t_block ?_
 refine t_loopL (fun m => ⟨[(0, some (.c (.t none (.sl 3 (enS3 encS encI encB) (rs))))), (1, some (.c (.t none (.v (.string (mkS (n))))))), (5, some (.c (.t none (.v (.int .i64 ((m : Int)))))))], [], 0⟩ : Nat → St) (fun m => m ≤ rs.length ∧ ∀ j z, j < m → rs[j]? = some z → (fun (z : List UInt8 × Int × Bool) => decide (z.1 = n)) z = false) (fun m => rs.length - m) 0 ⟨⟨rfl, ⟨rfl, ⟨rfl, trivial⟩⟩⟩, trivial, rfl⟩ (by exact ⟨Nat.zero_le _, fun j z h => by omega⟩) ?_
 rintro m hI ih0
 try dsimp only at hI ih0
 obtain ⟨i1, i2⟩ := hI
 refine t_seq ?_
 refine tsr ?_
 refine r_op oM ?_
 refine r_op oM ?_
 refine r_op (o_len rfl rfl rfl) ?_
 refine r_op oB ?_
 refine r_end ?_
 refine t_cond rfl (fun h1 => ?_) (fun h1 => ?_)
 ·
  have h1' := of_decide_eq_true h1
  refine t_skip ?_
  refine t_seq ?_
  refine t_block ?_
  refine tsr ?_
  refine r_op oM ?_
  refine r_op oM ?_
  obtain ⟨z2, hz3, b4⟩ := at_get (xs := rs) (n := (m : Int)) (by omega) (by omega)
  refine r_op (o_index rfl (by kernel_rfl) rfl rfl b4 hz3) ?_
  refine r_op (o_field rfl (off := 0) (by kernel_rfl) rfl) ?_
  refine r_op (o_load1 rfl (by kernel_rfl) rfl rfl) ?_
  refine r_op oM ?_
  refine r_op (o_str rfl rfl rfl rfl) ?_
  refine r_end ?_
  refine t_cond rfl (fun h5 => ?_) (fun h5 => ?_)
  ·
   have h5' := of_decide_eq_true h5
   refine tsr ?_
   refine r_op oM ?_
   refine r_op oA ?_
   refine r_end ?_
   refine t_ret Tryz.func173 (.tmp rfl .nil) rfl fun E S w u hI hd => ?_
   refine post_mk hI hd ?_ trivial rfl rfl rfl <;> clear hI hd <;> (try clear ih0)
   all_goals (refine scI ?_; unfold relIx; rw [idx_hit i2 hz3 (by simpa using (by assumption))])
  ·
   have h5' := of_decide_eq_false h5
   refine t_skip ?_
   refine t_endblock ?_
   refine t_region ?_
   refine r_op oM ?_
   refine r_op oB ?_
   refine r_op oA ?_
   refine r_end ?_
   refine t_le ?_ (ih0 (m + 1) (by (try dsimp only); omega) (by (try dsimp only); exact ⟨by omega, no_step i2 hz3 rfl (by simpa using (by assumption))⟩))
   exact ⟨⟨rfl, ⟨rfl, ⟨(eqI (wr64 (by omega) (by omega))), trivial⟩⟩⟩, trivial, rfl⟩
 ·
  have h1' := of_decide_eq_false h1
  refine t_exit rfl ?_
  refine tsr ?_
  refine r_op oA ?_
  refine r_end ?_
  refine t_ret Tryz.func173 (.tmp rfl .nil) rfl fun E S w u hI hd => ?_
  refine post_mk hI hd ?_ trivial rfl rfl rfl <;> clear hI hd <;> (try clear ih0)
  all_goals (refine scI ?_; unfold relIx; rw [idx_none i2 (by omega)])
set_option maxHeartbeats 1000000 in
set_option maxRecDepth 10000 in
theorem c_spec_l10Term (s : List UInt8) : Pu Tryz.prog 120 [.c (.t none (.v (.string (mkS (s)))))] [] 0 (.c (.t none (.v (.int .i64 (tmF s))))) := by
 refine pu_enter Tryz.func120 rfl (Nat.le_of_ble_eq_true rfl) fun w S => ?_
 refine tsr ?_
 refine r_op oA ?_
 refine r_end ?_
 refine t_seq ?_
 refine tsr ?_
 refine r_op oA ?_
 refine r_end ?_
 refine t_block ?_
 refine t_loopL (fun k => ⟨[(0, some (.c (.t none (.v (.string (mkS (s))))))), (3, some (.c (.t none (.v (.int .i64 ((k : Int) - 10))))))], [], 0⟩ : Nat → St) (fun k => k ≤ 15 ∧ ∀ j : Nat, j < k → fmtT ((j : Int) - 10) ≠ s) (fun k => 15 - k) 0 ⟨⟨rfl, ⟨(eqI rfl), trivial⟩⟩, trivial, rfl⟩ (by exact ⟨Nat.zero_le _, fun j h => by omega⟩) ?_
 rintro k hI ih0
 try dsimp only at hI ih0
 obtain ⟨i1, i2⟩ := hI
 refine t_seq ?_
 refine tsr ?_
 refine r_op oM ?_
 refine r_op oB ?_
 refine r_end ?_
 refine t_cond rfl (fun h1 => ?_) (fun h1 => ?_)
 ·
  have h1' := of_decide_eq_true h1
  refine t_skip ?_
  refine t_seq ?_
  refine t_block ?_
  refine tsr ?_
  refine r_op oM ?_
  refine r_op (o_call 0 0 false (Go.Proofs.enters_of Tryz.func172 (by kernel_rfl) rfl) (c_spec_FormatTerm ((k : Int) - 10) (by (unfold okI; omega))) rfl (.cons rfl (.c .t0) .nil) rfl rfl rfl) ?_
  refine r_op oM ?_
  refine r_op (o_str rfl rfl rfl rfl) ?_
  refine r_end ?_
  refine t_cond rfl (fun h2 => ?_) (fun h2 => ?_)
  ·
   have h2' := of_decide_eq_true h2
   refine tsr ?_
   refine r_op oM ?_
   refine r_op oA ?_
   refine r_end ?_
   refine t_ret Tryz.func120 (.tmp rfl .nil) rfl fun E S w u hI hd => ?_
   refine post_mk hI hd ?_ trivial rfl rfl rfl <;> clear hI hd <;> (try clear ih0)
   all_goals (refine scI ?_; exact (tmF_hit (by omega) i2 (by assumption)).symm)
  ·
   have h2' := of_decide_eq_false h2
   refine t_skip ?_
   refine t_endblock ?_
   refine t_region ?_
   refine r_op oM ?_
   refine r_op oB ?_
   refine r_op oA ?_
   refine r_end ?_
   refine t_le ?_ (ih0 (k + 1) (by (try dsimp only); omega) (by (try dsimp only); exact ⟨by omega, fun j hj => by (by_cases e : j = k; (subst e; simpa using (by assumption : ¬ fmtT _ = s)); exact i2 j (by omega))⟩))
   exact ⟨⟨rfl, ⟨(eqI (by simp only [IntKind.wrap_i64]; omega)), trivial⟩⟩, trivial, rfl⟩
 ·
  have h1' := of_decide_eq_false h1
  refine t_exit rfl ?_
  refine tsr ?_
  refine r_op oA ?_
  refine r_end ?_
  refine t_ret Tryz.func120 (.tmp rfl .nil) rfl fun E S w u hI hd => ?_
  refine post_mk hI hd ?_ trivial rfl rfl rfl <;> clear hI hd <;> (try clear ih0)
  all_goals (refine scI ?_; exact (tmF_none (by omega) i2).symm)
set_option maxHeartbeats 1000000 in
set_option maxRecDepth 10000 in
theorem c_spec_l10Read (rs : Rels) (s : List UInt8) (hrs : rs.length ≤ 1048576) (hs : s.length ≤ 1048576) : Pu Tryz.prog 119 [.c (.t none (.sl 3 (enS3 encS encI encB) (rs))), .c (.t none (.v (.string (mkS (s)))))] [(0, some (.row none 103 true 2 (enS2 encI (enSl 1 encI)) (rAs rs s)))] 1 (.c (.own 0)) := by
 refine pu_enter Tryz.func119 rfl (Nat.le_of_ble_eq_true rfl) fun w S => ?_
 refine tsr ?_
 refine r_op oA ?_
 refine etr ?_
 refine r_op (o_lit0 0 (e := 103) (sz := 2) (zs := [.int .i64 (0), .slice none 0 0]) (enS2 encI (enSl 1 encI)) rfl rfl (by kernel_rfl) rfl) ?_
 refine r_op oA ?_
 refine etr ?_
 refine r_op oM ?_
 refine r_op (o_call 1 2 false (Go.Proofs.enters_of Tryz.func60 (by kernel_rfl) rfl) (c_spec_l3Cut (s) (32) (by omega) (by omega)) rfl (.cons rfl (.c .t0) (.cons rfl (.c .t0) .nil)) rfl rfl rfl) ?_
 refine r_op oA ?_
 refine r_end ?_
 refine t_seq ?_
 refine tsr ?_
 refine r_op oA ?_
 refine r_end ?_
 refine t_block ?_
 refine t_loopL (fun m => ⟨[(0, some (.c (.t none (.sl 3 (enS3 encS encI encB) (rs))))), (4, some (.c (.t none (.v (.slice none 0 0))))), (5, some (.c (.own 0))), (6, some (.c (.own 1))), (7, some (.c (.t none (.v (.int .i64 ((m : Int)))))))], [(0, some (.row none 103 true 2 (enS2 encI (enSl 1 encI)) (((spl (u8 32) s).take m).map (rAt rs)))), (1, some (.row none 9 true 1 encS (spl (u8 (32)) (s))))], 2⟩ : Nat → St) (fun m => m ≤ (spl (u8 32) s).length) (fun m => (spl (u8 32) s).length - m) 0 ⟨⟨rfl, ⟨rfl, ⟨rfl, ⟨rfl, ⟨rfl, trivial⟩⟩⟩⟩⟩, ⟨rfl, ⟨rfl, trivial⟩⟩, rfl⟩ (by exact Nat.zero_le _) ?_
 rintro m hI ih0
 try dsimp only at hI ih0
 have i1 := hI; have l1 := spl_len (b := u8 32) (s := s)
 refine t_seq ?_
 refine tsr ?_
 refine r_op oM ?_
 refine r_op oM ?_
 refine r_op (o_leno rfl rfl rfl rfl) ?_
 refine r_op oB ?_
 refine r_end ?_
 refine t_cond rfl (fun h1 => ?_) (fun h1 => ?_)
 ·
  have h1' := of_decide_eq_true h1
  refine t_skip ?_
  refine t_seq ?_
  refine t_block ?_
  refine tsr ?_
  refine r_op (o_build rfl (pl := [(0, 1), (1, 1)]) (zs := [.int .i64 (0), .slice none 0 0]) (by kernel_rfl) (by kernel_rfl) rfl rfl rfl) ?_
  refine r_op (o_alloc 2 (zs := [.int .i64 (0), .slice none 0 0]) rfl rfl (by kernel_rfl) rfl) ?_
  refine r_op (oS 2) ?_
  refine r_end ?_
  refine t_seq ?_
  refine tsr ?_
  refine r_op oA ?_
  refine r_end ?_
  refine t_block ?_
  refine gt_nilb 3 (b := 2) (o := 1) (et := 3) (sz := 1) true encI rfl rfl rfl ?_
  have hx : (spl (u8 32) s)[((m : Int)).toNat]? = some ((spl (u8 32) s).getD m []) := getD_some (by omega); have hxb : (0 : Int) ≤ (m : Int) := Int.natCast_nonneg m; have hxl := spl_mem (b := u8 32) (s := s) (List.mem_of_getElem? hx)
  refine t_loopL (fun n => ⟨[(0, some (.c (.t none (.sl 3 (enS3 encS encI encB) (rs))))), (4, some (.c (.t none (.v (.slice none 0 0))))), (5, some (.c (.own 0))), (6, some (.c (.own 1))), (7, some (.c (.t none (.v (.int .i64 ((m : Int))))))), (8, some (.c (.ptr 2 0))), (9, some (.c (.t none (.v (.int .i64 ((n : Int)))))))], [(0, some (.row none 103 true 2 (enS2 encI (enSl 1 encI)) (((spl (u8 32) s).take m).map (rAt rs)))), (1, some (.row none 9 true 1 encS (spl (u8 (32)) (s)))), (2, some (.box [.t none (.v (.int .i64 ((if n = 0 then -1 else relIx rs ((((spl (u8 32) s).getD m [])).take 1))))), .own 3])), (3, some (.row none 3 true 1 encI ((((((spl (u8 32) s).getD m [])).take n).drop 1).map (fun c => tmF [c]))))], 4⟩ : Nat → St) (fun n => n ≤ (((spl (u8 32) s).getD m [])).length) (fun n => (((spl (u8 32) s).getD m [])).length - n) 0 ⟨⟨rfl, ⟨rfl, ⟨rfl, ⟨rfl, ⟨rfl, ⟨rfl, ⟨rfl, trivial⟩⟩⟩⟩⟩⟩⟩, ⟨rfl, ⟨rfl, ⟨rfl, ⟨rfl, trivial⟩⟩⟩⟩, rfl⟩ (by exact Nat.zero_le _) ?_
  rintro n hI ih1
  try dsimp only at hI ih1
  have j1 := hI
  refine t_seq ?_
  refine tsr ?_
  refine r_op oM ?_
  refine r_op oM ?_
  refine r_op oM ?_
  refine r_op (o_indexo rfl (by kernel_rfl) rfl rfl rfl hxb (at_lt hxb hx)) ?_
  refine r_op (o_load1o rfl (by kernel_rfl) rfl rfl rfl hx) ?_
  refine r_op (o_lenS rfl Tryz.underlying9 rfl) ?_
  refine r_op oB ?_
  refine r_end ?_
  refine t_cond rfl (fun h2 => ?_) (fun h2 => ?_)
  ·
   have h2' := of_decide_eq_true h2
   refine t_skip ?_
   refine t_seq ?_
   refine t_block ?_
   refine tsr ?_
   refine r_op oM ?_
   refine r_op oB ?_
   refine r_end ?_
   refine t_cond rfl (fun h3 => ?_) (fun h3 => ?_)
   ·
    have h3' := of_decide_eq_true h3
    refine t_region ?_
    refine r_op oM ?_
    refine r_op oM ?_
    refine r_op oM ?_
    refine r_op (o_indexo rfl (by kernel_rfl) rfl rfl rfl hxb (at_lt hxb hx)) ?_
    refine r_op (o_load1o rfl (by kernel_rfl) rfl rfl rfl hx) ?_
    refine r_op (o_subSh rfl Tryz.underlying9 rfl rfl (by omega) (by omega)) ?_
    refine r_op (o_call 4 4 false (Go.Proofs.enters_of Tryz.func173 (by kernel_rfl) rfl) (c_spec_RelationIndex (rs) ((((spl (u8 32) s).getD m [])).take ((1 : Int)).toNat) (by omega)) rfl (.cons rfl (.c .t0) (.cons rfl (.c .t0) .nil)) rfl rfl rfl) ?_
    refine r_op (oF 0) ?_
    refine r_op (oS 1) ?_
    refine r_end ?_
    refine t_endblock ?_
    refine t_region ?_
    refine r_op oM ?_
    refine r_op oB ?_
    refine r_op oA ?_
    refine r_end ?_
    refine t_le ?_ (ih1 (n + 1) (by (try dsimp only); omega) (by (try dsimp only); omega))
    exact ⟨⟨rfl, ⟨rfl, ⟨rfl, ⟨rfl, ⟨rfl, ⟨rfl, ⟨(eqI (wr64 (by omega) (by omega))), trivial⟩⟩⟩⟩⟩⟩⟩, ⟨rfl, ⟨rfl, ⟨(boxI (by exact (if_neg (by omega)).symm)), ⟨(eqR (by exact rd_zero (by omega))), trivial⟩⟩⟩⟩, rfl⟩
   ·
    have h3' := of_decide_eq_false h3
    refine t_draw (fun i => !(Nat.beq i 12 || Nat.beq i 14)) (by kernel_rfl) ?_
    refine dT 0 rfl (pF 1) ?_
    refine dT 1 rfl pL ?_
    refine dT 2 rfl pM ?_
    refine dT 3 rfl pM ?_
    refine dT 4 rfl (p_indexo (by kernel_rfl) rfl rfl rfl hxb (at_lt hxb hx)) ?_
    refine dT 5 rfl (p_load1o (by kernel_rfl) rfl rfl rfl hx) ?_
    refine dT 6 rfl pM ?_
    refine dT 7 rfl pM ?_
    refine dT 8 rfl pB ?_
    refine dT 9 rfl (p_subS Tryz.underlying9 rfl rfl rfl (by omega) (by (simp only [IntKind.wrap_i64]; omega)) (by (simp only [IntKind.wrap_i64]; omega))) ?_
    refine dO 10 rfl (o_call 4 4 false (Go.Proofs.enters_of Tryz.func120 (by kernel_rfl) rfl) (c_spec_l10Term (((((spl (u8 32) s).getD m [])).take (IntKind.i64.wrap ((n : Int) + 1)).toNat).drop ((n : Int)).toNat)) rfl (.cons rfl (.c .t0) .nil) rfl rfl rfl) ?_
    refine dO 11 rfl (o_litS 4 (e := 3) (sz := 1) (zs := [.int .i64 (0)]) rfl rfl (by kernel_rfl) rfl rfl rfl rfl rfl) ?_
    refine dO 12 rfl (o_append 3 (e := 3) (sz := 1) (by' := 8) (tmF (((((spl (u8 32) s).getD m [])).take (IntKind.i64.wrap ((n : Int) + 1)).toNat).drop ((n : Int)).toNat)) rfl (by kernel_rfl) rfl rfl rfl rfl rfl rfl (.cons .sc .nil) rfl (by (simp; omega)) (by (simp; omega))) ?_
    refine dT 13 rfl (pF 1) ?_
    refine dO 14 rfl (oS 1) ?_
    refine d_end (by kernel_rfl) ?_
    refine t_endblock ?_
    refine t_region ?_
    refine r_op oM ?_
    refine r_op oB ?_
    refine r_op oA ?_
    refine r_end ?_
    refine t_le ?_ (ih1 (n + 1) (by (try dsimp only); omega) (by (try dsimp only); omega))
    exact ⟨⟨rfl, ⟨rfl, ⟨rfl, ⟨rfl, ⟨rfl, ⟨rfl, ⟨(eqI (wr64 (by omega) (by omega))), trivial⟩⟩⟩⟩⟩⟩⟩, ⟨rfl, ⟨rfl, ⟨(boxI (by (rw [if_neg (by omega), if_neg (by omega)]))), ⟨(eqR (by (rw [wrN (by omega)]; exact rd_char (by omega) (by omega)))), trivial⟩⟩⟩⟩, rfl⟩
  ·
   have h2' := of_decide_eq_false h2
   refine t_exit rfl ?_
   refine t_region ?_
   refine r_op oM ?_
   refine r_op (oC 2) ?_
   refine r_op (o_litS 4 (e := 103) (sz := 2) (zs := [.int .i64 (0), .slice none 0 0]) rfl rfl (by kernel_rfl) rfl rfl rfl rfl rfl) ?_
   refine r_op (o_append 0 (e := 103) (sz := 2) (by' := 32) (((if n = 0 then -1 else relIx rs ((((spl (u8 32) s).getD m [])).take 1)), (((((spl (u8 32) s).getD m [])).take n).drop 1).map (fun c => tmF [c]))) rfl (by kernel_rfl) rfl rfl rfl rfl rfl rfl (.cons .sc (.take (.own rfl) rfl .nil)) rfl (by (simp; omega)) (by (simp; omega))) ?_
   refine r_op oA ?_
   refine r_end ?_
   refine t_endblock ?_
   refine t_region ?_
   refine r_op oM ?_
   refine r_op oB ?_
   refine r_op oA ?_
   refine r_end ?_
   refine t_le ?_ (ih0 (m + 1) (by (try dsimp only); omega) (by (try dsimp only); omega))
   exact ⟨⟨rfl, ⟨rfl, ⟨rfl, ⟨rfl, ⟨(eqI (wr64 (by omega) (by omega))), trivial⟩⟩⟩⟩⟩, ⟨(eqR (rd_step hx (by omega) (by omega))), ⟨rfl, trivial⟩⟩, rfl⟩
 ·
  have h1' := of_decide_eq_false h1
  refine t_exit rfl ?_
  refine tsr ?_
  refine r_op oM ?_
  refine r_op oA ?_
  refine r_end ?_
  refine t_ret Tryz.func119 (.tmp rfl .nil) rfl fun E S w u hI hd => ?_
  refine post_mk hI hd ?_ ⟨eqR ?_, trivial⟩ rfl rfl rfl <;> clear hI hd <;> (try clear ih0) <;> (try clear ih1)
  all_goals first | rfl | ((rw [List.take_of_length_le (by omega)]; rfl))
set_option maxHeartbeats 1000000 in
set_option maxRecDepth 10000 in
theorem c_spec_ParseDependency (rs : Rels) (s : List UInt8) (hrs : rs.length ≤ 1048576) (hs : s.length ≤ 1048576) : Pu Tryz.prog 61 [.c (.t none (.sl 3 (enS3 encS encI encB) (rs))), .c (.t none (.v (.string (mkS (s)))))] [(4, some (.row none 103 true 2 (enS2 encI (enSl 1 encI)) ((parD (rD rs) rs s).1.1))), (5, some (.row none 103 true 2 (enS2 encI (enSl 1 encI)) ((parD (rD rs) rs s).1.2.1)))] 6 (.tup [(true, [.own 4, .own 5, .t none (.v (.bool ((parD (rD rs) rs s).1.2.2.1))), .t none (.v (.int .i64 ((parD (rD rs) rs s).1.2.2.2.1))), .t none (.v (.int .i64 ((parD (rD rs) rs s).1.2.2.2.2)))]), (false, [.t none (.v (.bool ((parD (rD rs) rs s).2)))])]) := by
 refine pu_enter Tryz.func61 rfl (Nat.le_of_ble_eq_true rfl) fun w S => ?_
 refine tsr ?_
 refine r_op (o_alloc 0 (zs := [.slice none 0 0, .slice none 0 0, .bool (false), .int .i64 (0), .int .i64 (0)]) rfl rfl (by kernel_rfl) rfl) ?_
 refine r_op oA ?_
 refine etr ?_
 refine r_op (o_build rfl (pl := [(0, 1), (1, 1), (2, 1), (3, 1), (4, 1)]) (zs := [.slice none 0 0, .slice none 0 0, .bool (false), .int .i64 (0), .int .i64 (0)]) (by kernel_rfl) (by kernel_rfl) rfl rfl rfl) ?_
 refine r_op (o_alloc 1 (zs := [.slice none 0 0, .slice none 0 0, .bool (false), .int .i64 (0), .int .i64 (0)]) rfl rfl (by kernel_rfl) rfl) ?_
 refine r_op (oS 5) ?_
 refine etr ?_
 refine r_op oM ?_
 refine r_op (o_call 2 3 false (Go.Proofs.enters_of Tryz.func60 (by kernel_rfl) rfl) (c_spec_l3Cut (s) (62) (by omega) (by omega)) rfl (.cons rfl (.c .t0) (.cons rfl (.c .t0) .nil)) rfl rfl rfl) ?_
 refine r_op oA ?_
 refine etr ?_
 refine r_op oM ?_
 refine r_op (o_call 3 4 false (Go.Proofs.enters_of Tryz.func60 (by kernel_rfl) rfl) (c_spec_l3Cut (s) (61) (by omega) (by omega)) rfl (.cons rfl (.c .t0) (.cons rfl (.c .t0) .nil)) rfl rfl rfl) ?_
 refine r_op oA ?_
 refine r_end ?_
 refine t_seq ?_
 refine tsr ?_
 refine r_op oM ?_
 refine r_op (o_leno rfl rfl rfl rfl) ?_
 refine r_op oB ?_
 refine r_op oM ?_
 refine r_guard rfl rfl rfl (fun g1 => ?_) (fun g1 => ?_)
 ·
  have g1' := of_decide_eq_true g1
  refine r_op oM ?_
  refine r_guard rfl rfl rfl (fun _ => ?_) (nc g1)
  obtain ⟨z2, hz3, b4⟩ := at_get (xs := spl (u8 (61)) (s)) (n := 1) (by omega) (by omega)
  refine r_op (o_indexo rfl (by kernel_rfl) rfl rfl rfl b4 (at_lt b4 hz3)) ?_
  refine r_guard rfl rfl rfl (fun _ => ?_) (nc g1)
  refine r_op (o_load1o rfl (by kernel_rfl) rfl rfl rfl hz3) ?_
  refine r_guard rfl rfl rfl (fun _ => ?_) (nc g1)
  refine r_op (o_lenS rfl Tryz.underlying9 rfl) ?_
  refine r_guard rfl rfl rfl (fun _ => ?_) (nc g1)
  refine r_op oB ?_
  refine r_op (o_pickT rfl rfl g1 rfl) ?_
  refine r_end ?_
  refine t_cond rfl (fun h5 => ?_) (fun h5 => ?_)
  ·
   have h5' := of_decide_eq_true h5
   refine t_draw (fun i => !(Nat.beq i 16)) (by kernel_rfl) ?_
   refine dT 0 rfl pM ?_
   refine dT 1 rfl pM ?_
   obtain ⟨z6, hz7, b8⟩ := at_get (xs := spl (u8 (61)) (s)) (n := 0) (by omega) (by omega)
   refine dT 2 rfl (p_indexo (by kernel_rfl) rfl rfl rfl b8 (at_lt b8 hz7)) ?_
   refine dT 3 rfl (p_load1o (by kernel_rfl) rfl rfl rfl hz7) ?_
   refine dT 5 rfl pM ?_
   refine dT 6 rfl (p_indexo (by kernel_rfl) rfl rfl rfl b4 (at_lt b4 hz3)) ?_
   refine dT 7 rfl (p_load1o (by kernel_rfl) rfl rfl rfl hz3) ?_
   refine dT 8 rfl (p_subSh Tryz.underlying9 rfl rfl (by omega) (by omega)) ?_
   refine dT 10 rfl pM ?_
   refine dT 11 rfl (p_indexo (by kernel_rfl) rfl rfl rfl b4 (at_lt b4 hz3)) ?_
   refine dT 12 rfl (p_load1o (by kernel_rfl) rfl rfl rfl hz3) ?_
   refine dT 13 rfl (p_subSl Tryz.underlying9 rfl rfl (by omega) (by omega)) ?_
   refine dO 4 rfl (o_call 4 5 false (Go.Proofs.enters_of Tryz.func119 (by kernel_rfl) rfl) (c_spec_l10Read (rs) (z6) (by omega) (by exact Nat.le_trans (piece_len (by assumption)) (by omega))) rfl (.cons rfl (.c .t0) (.cons rfl (.c .t0) .nil)) rfl rfl rfl) ?_
   refine dO 9 rfl (o_call 5 5 false (Go.Proofs.enters_of Tryz.func120 (by kernel_rfl) rfl) (c_spec_l10Term ((z2).take ((1 : Int)).toNat)) rfl (.cons rfl (.c .t0) .nil) rfl rfl rfl) ?_
   refine dO 14 rfl (o_call 5 5 false (Go.Proofs.enters_of Tryz.func120 (by kernel_rfl) rfl) (c_spec_l10Term ((z2).drop ((1 : Int)).toNat)) rfl (.cons rfl (.c .t0) .nil) rfl rfl rfl) ?_
   refine dT 15 rfl (p_build (pl := [(0, 1), (1, 1), (2, 1), (3, 1), (4, 1)]) (zs := [.slice none 0 0, .slice none 0 0, .bool (false), .int .i64 (0), .int .i64 (0)]) (by kernel_rfl) (by kernel_rfl) rfl rfl rfl) ?_
   refine dO 16 rfl (oS 5) ?_
   refine d_end (by kernel_rfl) ?_
   refine t_seq ?_
   refine tsr ?_
   refine r_op oM ?_
   refine r_op (oC 5) ?_
   refine r_op (o_call 5 5 false (Go.Proofs.enters_of Tryz.func117 (by kernel_rfl) rfl) (c_spec_FormatDependency (rs) (rAs (rs) (z6)) ([]) (true) (tmF ((z2).take ((1 : Int)).toNat)) (tmF ((z2).drop ((1 : Int)).toNat)) (by omega) (by exact Nat.le_trans (Nat.add_le_add (rAs_in (by assumption)) (Nat.le_of_eq szS_nil)) (by omega)) (by exact rAs_ok) (by (simp only [List.not_mem_nil, false_implies, implies_true])) (by exact tmF_okI _) (by exact tmF_okI _)) rfl (.cons rfl (.c .t0) (.cons rfl (.agg (.cons (.own rfl) (.cons .nil (.cons .t0 (.cons .t0 (.cons .t0 .nil)))))) .nil)) rfl rfl rfl) ?_
   refine r_op oM ?_
   refine r_op (o_str rfl rfl rfl rfl) ?_
   refine r_op oM ?_
   refine r_guard rfl rfl rfl (fun g9 => ?_) (fun g9 => ?_)
   ·
    have g9' := of_decide_eq_false g9
    refine r_op oM ?_
    refine r_guard rfl rfl rfl (fun _ => ?_) (ncf g9)
    refine r_op (o_str rfl rfl rfl rfl) ?_
    refine r_op (o_pickF rfl rfl g9 rfl) ?_
    refine r_end ?_
    refine t_cond rfl (fun h10 => ?_) (fun h10 => ?_)
    ·
     have h10' := of_decide_eq_true h10
     refine tsr ?_
     refine r_op (o_build rfl (pl := [(0, 1), (1, 1), (2, 1), (3, 1), (4, 1)]) (zs := [.slice none 0 0, .slice none 0 0, .bool (false), .int .i64 (0), .int .i64 (0)]) (by kernel_rfl) (by kernel_rfl) rfl rfl rfl) ?_
     refine r_op (oS 5) ?_
     refine r_op oA ?_
     refine r_end ?_
     refine gt_nilb 5 (b := 0) (o := 0) (et := 103) (sz := 2) true (enS2 encI (enSl 1 encI)) rfl rfl rfl ?_
     refine gt_nilb 6 (b := 0) (o := 1) (et := 103) (sz := 2) true (enS2 encI (enSl 1 encI)) rfl rfl rfl ?_
     refine gt_mv 4 5 rfl rfl rfl ?_
     refine gt_mv 5 6 rfl rfl rfl ?_
     refine t_ret Tryz.func61 (.cells (n := 5) (by kernel_rfl) (by kernel_rfl) rfl rfl rfl (.tmp rfl .nil)) rfl fun E S w u hI hd => ?_
     refine post_mk hI hd ?_ ⟨eqR ?_, ⟨eqR ?_, trivial⟩⟩ rfl rfl rfl <;> clear hI hd
     all_goals ((have K : rD rs s = _ := (by exact rD_a (by omega) (by assumption) (by assumption) (by omega))); (have K2 := par_is (p := rD rs) (rs := rs) K); (rw [K2.2 (by grind)]; first | done | rfl))
    ·
     have h10' := of_decide_eq_false h10
     refine t_skip ?_
     refine tsr ?_
     refine r_op (oC 5) ?_
     refine r_op (oS 5) ?_
     refine r_op oA ?_
     refine r_end ?_
     refine gt_nilb 5 (b := 0) (o := 1) (et := 103) (sz := 2) true (enS2 encI (enSl 1 encI)) rfl rfl rfl ?_
     refine t_ret Tryz.func61 (.cells (n := 5) (by kernel_rfl) (by kernel_rfl) rfl rfl rfl (.tmp rfl .nil)) rfl fun E S w u hI hd => ?_
     refine post_mk hI hd ?_ ⟨eqR ?_, ⟨eqR ?_, trivial⟩⟩ rfl rfl rfl <;> clear hI hd
     all_goals ((have K : rD rs s = _ := (by exact rD_a (by omega) (by assumption) (by assumption) (by omega))); (have K2 := par_is (p := rD rs) (rs := rs) K); (rw [K2.1 (by grind)]; first | done | rfl))
   ·
    have g9' := of_decide_eq_true g9
    refine r_guard rfl rfl rfl (nc g9) (fun _ => ?_)
    refine r_op (o_pickT rfl rfl g9 rfl) ?_
    refine r_end ?_
    refine t_cond rfl (fun _ => ?_) (nc rfl)
    refine tsr ?_
    refine r_op (o_build rfl (pl := [(0, 1), (1, 1), (2, 1), (3, 1), (4, 1)]) (zs := [.slice none 0 0, .slice none 0 0, .bool (false), .int .i64 (0), .int .i64 (0)]) (by kernel_rfl) (by kernel_rfl) rfl rfl rfl) ?_
    refine r_op (oS 5) ?_
    refine r_op oA ?_
    refine r_end ?_
    refine gt_nilb 5 (b := 0) (o := 0) (et := 103) (sz := 2) true (enS2 encI (enSl 1 encI)) rfl rfl rfl ?_
    refine gt_nilb 6 (b := 0) (o := 1) (et := 103) (sz := 2) true (enS2 encI (enSl 1 encI)) rfl rfl rfl ?_
    refine gt_mv 4 5 rfl rfl rfl ?_
    refine gt_mv 5 6 rfl rfl rfl ?_
    refine t_ret Tryz.func61 (.cells (n := 5) (by kernel_rfl) (by kernel_rfl) rfl rfl rfl (.tmp rfl .nil)) rfl fun E S w u hI hd => ?_
    refine post_mk hI hd ?_ ⟨eqR ?_, ⟨eqR ?_, trivial⟩⟩ rfl rfl rfl <;> clear hI hd
    all_goals ((have K : rD rs s = _ := (by exact rD_a (by omega) (by assumption) (by assumption) (by omega))); (have K2 := par_is (p := rD rs) (rs := rs) K); (rw [K2.2 (by grind)]; first | done | rfl))
  ·
   have h5' := of_decide_eq_false h5
   refine tsr ?_
   refine r_op oM ?_
   refine r_op (o_leno rfl rfl rfl rfl) ?_
   refine r_op oB ?_
   refine r_end ?_
   refine t_cond rfl (fun h11 => ?_) (fun h11 => ?_)
   ·
    have h11' := of_decide_eq_true h11
    refine t_draw (fun i => !(Nat.beq i 11)) (by kernel_rfl) ?_
    refine dT 0 rfl pM ?_
    refine dT 1 rfl pM ?_
    obtain ⟨z12, hz13, b14⟩ := at_get (xs := spl (u8 (62)) (s)) (n := 0) (by omega) (by omega)
    refine dT 2 rfl (p_indexo (by kernel_rfl) rfl rfl rfl b14 (at_lt b14 hz13)) ?_
    refine dT 3 rfl (p_load1o (by kernel_rfl) rfl rfl rfl hz13) ?_
    refine dT 5 rfl pM ?_
    refine dT 6 rfl pM ?_
    obtain ⟨z15, hz16, b17⟩ := at_get (xs := spl (u8 (62)) (s)) (n := 1) (by omega) (by omega)
    refine dT 7 rfl (p_indexo (by kernel_rfl) rfl rfl rfl b17 (at_lt b17 hz16)) ?_
    refine dT 8 rfl (p_load1o (by kernel_rfl) rfl rfl rfl hz16) ?_
    refine dO 4 rfl (o_call 4 5 false (Go.Proofs.enters_of Tryz.func119 (by kernel_rfl) rfl) (c_spec_l10Read (rs) (z12) (by omega) (by exact Nat.le_trans (piece_len (by assumption)) (by omega))) rfl (.cons rfl (.c .t0) (.cons rfl (.c .t0) .nil)) rfl rfl rfl) ?_
    refine dO 9 rfl (o_call 5 6 false (Go.Proofs.enters_of Tryz.func119 (by kernel_rfl) rfl) (c_spec_l10Read (rs) (z15) (by omega) (by exact Nat.le_trans (piece_len (by assumption)) (by omega))) rfl (.cons rfl (.c .t0) (.cons rfl (.c .t0) .nil)) rfl rfl rfl) ?_
    refine dT 10 rfl (p_build (pl := [(0, 1), (1, 1), (2, 1), (3, 1), (4, 1)]) (zs := [.slice none 0 0, .slice none 0 0, .bool (false), .int .i64 (0), .int .i64 (0)]) (by kernel_rfl) (by kernel_rfl) rfl rfl rfl) ?_
    refine dO 11 rfl (oS 5) ?_
    refine d_end (by kernel_rfl) ?_
    refine t_seq ?_
    refine tsr ?_
    refine r_op oM ?_
    refine r_op (oC 5) ?_
    refine r_op (o_call 6 6 false (Go.Proofs.enters_of Tryz.func117 (by kernel_rfl) rfl) (c_spec_FormatDependency (rs) (rAs (rs) (z12)) (rAs (rs) (z15)) (false) (0) (0) (by omega) (by exact Nat.le_trans (rAs_two (b := u8 62) (s := s) (by omega) (by assumption) (by assumption)) (by omega)) (by exact rAs_ok) (by exact rAs_ok) (by (unfold okI; omega)) (by (unfold okI; omega))) rfl (.cons rfl (.c .t0) (.cons rfl (.agg (.cons (.own rfl) (.cons (.own rfl) (.cons .t0 (.cons .t0 (.cons .t0 .nil)))))) .nil)) rfl rfl rfl) ?_
    refine r_op oM ?_
    refine r_op (o_str rfl rfl rfl rfl) ?_
    refine r_op oM ?_
    refine r_guard rfl rfl rfl (fun g18 => ?_) (fun g18 => ?_)
    ·
     have g18' := of_decide_eq_false g18
     refine r_op oM ?_
     refine r_guard rfl rfl rfl (fun _ => ?_) (ncf g18)
     refine r_op (o_str rfl rfl rfl rfl) ?_
     refine r_op (o_pickF rfl rfl g18 rfl) ?_
     refine r_end ?_
     refine t_cond rfl (fun h19 => ?_) (fun h19 => ?_)
     ·
      have h19' := of_decide_eq_true h19
      refine tsr ?_
      refine r_op (o_build rfl (pl := [(0, 1), (1, 1), (2, 1), (3, 1), (4, 1)]) (zs := [.slice none 0 0, .slice none 0 0, .bool (false), .int .i64 (0), .int .i64 (0)]) (by kernel_rfl) (by kernel_rfl) rfl rfl rfl) ?_
      refine r_op (oS 5) ?_
      refine r_op oA ?_
      refine r_end ?_
      refine gt_nilb 6 (b := 0) (o := 0) (et := 103) (sz := 2) true (enS2 encI (enSl 1 encI)) rfl rfl rfl ?_
      refine gt_nilb 7 (b := 0) (o := 1) (et := 103) (sz := 2) true (enS2 encI (enSl 1 encI)) rfl rfl rfl ?_
      refine gt_mv 4 6 rfl rfl rfl ?_
      refine gt_mv 5 7 rfl rfl rfl ?_
      refine t_ret Tryz.func61 (.cells (n := 5) (by kernel_rfl) (by kernel_rfl) rfl rfl rfl (.tmp rfl .nil)) rfl fun E S w u hI hd => ?_
      refine post_mk hI hd ?_ ⟨eqR ?_, ⟨eqR ?_, trivial⟩⟩ rfl rfl rfl <;> clear hI hd
      all_goals ((have K : rD rs s = _ := (by exact rD_b (rD_n2 (by assumption) (by omega)) (by omega) (by assumption) (by assumption))); (have K2 := par_is (p := rD rs) (rs := rs) K); (rw [K2.2 (by grind)]; first | done | rfl))
     ·
      have h19' := of_decide_eq_false h19
      refine t_skip ?_
      refine tsr ?_
      refine r_op (oC 5) ?_
      refine r_op (oS 5) ?_
      refine r_op oA ?_
      refine r_end ?_
      refine t_ret Tryz.func61 (.cells (n := 5) (by kernel_rfl) (by kernel_rfl) rfl rfl rfl (.tmp rfl .nil)) rfl fun E S w u hI hd => ?_
      refine post_mk hI hd ?_ ⟨eqR ?_, ⟨eqR ?_, trivial⟩⟩ rfl rfl rfl <;> clear hI hd
      all_goals ((have K : rD rs s = _ := (by exact rD_b (rD_n2 (by assumption) (by omega)) (by omega) (by assumption) (by assumption))); (have K2 := par_is (p := rD rs) (rs := rs) K); (rw [K2.1 (by grind)]; first | done | rfl))
    ·
     have g18' := of_decide_eq_true g18
     refine r_guard rfl rfl rfl (nc g18) (fun _ => ?_)
     refine r_op (o_pickT rfl rfl g18 rfl) ?_
     refine r_end ?_
     refine t_cond rfl (fun _ => ?_) (nc rfl)
     refine tsr ?_
     refine r_op (o_build rfl (pl := [(0, 1), (1, 1), (2, 1), (3, 1), (4, 1)]) (zs := [.slice none 0 0, .slice none 0 0, .bool (false), .int .i64 (0), .int .i64 (0)]) (by kernel_rfl) (by kernel_rfl) rfl rfl rfl) ?_
     refine r_op (oS 5) ?_
     refine r_op oA ?_
     refine r_end ?_
     refine gt_nilb 6 (b := 0) (o := 0) (et := 103) (sz := 2) true (enS2 encI (enSl 1 encI)) rfl rfl rfl ?_
     refine gt_nilb 7 (b := 0) (o := 1) (et := 103) (sz := 2) true (enS2 encI (enSl 1 encI)) rfl rfl rfl ?_
     refine gt_mv 4 6 rfl rfl rfl ?_
     refine gt_mv 5 7 rfl rfl rfl ?_
     refine t_ret Tryz.func61 (.cells (n := 5) (by kernel_rfl) (by kernel_rfl) rfl rfl rfl (.tmp rfl .nil)) rfl fun E S w u hI hd => ?_
     refine post_mk hI hd ?_ ⟨eqR ?_, ⟨eqR ?_, trivial⟩⟩ rfl rfl rfl <;> clear hI hd
     all_goals ((have K : rD rs s = _ := (by exact rD_b (rD_n2 (by assumption) (by omega)) (by omega) (by assumption) (by assumption))); (have K2 := par_is (p := rD rs) (rs := rs) K); (rw [K2.2 (by grind)]; first | done | rfl))
   ·
    have h11' := of_decide_eq_false h11
    refine t_skip ?_
    refine t_seq ?_
    refine tsr ?_
    refine r_op oM ?_
    refine r_op (oC 5) ?_
    refine r_op (o_call 4 4 false (Go.Proofs.enters_of Tryz.func117 (by kernel_rfl) rfl) (c_spec_FormatDependency (rs) ([]) ([]) (false) (0) (0) (by omega) (by (simp [szS]; done)) (by (simp only [List.not_mem_nil, false_implies, implies_true])) (by (simp only [List.not_mem_nil, false_implies, implies_true])) (by (unfold okI; omega)) (by (unfold okI; omega))) rfl (.cons rfl (.c .t0) (.cons rfl (.agg (.cons .nil (.cons .nil (.cons .t0 (.cons .t0 (.cons .t0 .nil)))))) .nil)) rfl rfl rfl) ?_
    refine r_op oM ?_
    refine r_op (o_str rfl rfl rfl rfl) ?_
    refine r_op oM ?_
    refine r_guard rfl rfl rfl (fun g20 => ?_) (fun g20 => ?_)
    ·
     have g20' := of_decide_eq_false g20
     refine r_op oM ?_
     refine r_guard rfl rfl rfl (fun _ => ?_) (ncf g20)
     refine r_op (o_str rfl rfl rfl rfl) ?_
     refine r_op (o_pickF rfl rfl g20 rfl) ?_
     refine r_end ?_
     refine t_cond rfl (fun h21 => ?_) (fun h21 => ?_)
     ·
      have h21' := of_decide_eq_true h21
      refine tsr ?_
      refine r_op (o_build rfl (pl := [(0, 1), (1, 1), (2, 1), (3, 1), (4, 1)]) (zs := [.slice none 0 0, .slice none 0 0, .bool (false), .int .i64 (0), .int .i64 (0)]) (by kernel_rfl) (by kernel_rfl) rfl rfl rfl) ?_
      refine r_op (oS 5) ?_
      refine r_op oA ?_
      refine r_end ?_
      refine gt_nilb 4 (b := 0) (o := 0) (et := 103) (sz := 2) true (enS2 encI (enSl 1 encI)) rfl rfl rfl ?_
      refine gt_nilb 5 (b := 0) (o := 1) (et := 103) (sz := 2) true (enS2 encI (enSl 1 encI)) rfl rfl rfl ?_
      refine t_ret Tryz.func61 (.cells (n := 5) (by kernel_rfl) (by kernel_rfl) rfl rfl rfl (.tmp rfl .nil)) rfl fun E S w u hI hd => ?_
      refine post_mk hI hd ?_ ⟨eqR ?_, ⟨eqR ?_, trivial⟩⟩ rfl rfl rfl <;> clear hI hd
      all_goals ((have K : rD rs s = _ := (by exact rD_c (rD_n2 (by assumption) (by omega)) (by omega))); (have K2 := par_is (p := rD rs) (rs := rs) K); (rw [K2.2 (by grind)]; first | done | rfl))
     ·
      have h21' := of_decide_eq_false h21
      refine t_skip ?_
      refine tsr ?_
      refine r_op (oC 5) ?_
      refine r_op (oS 5) ?_
      refine r_op oA ?_
      refine r_end ?_
      refine gt_nilb 4 (b := 0) (o := 0) (et := 103) (sz := 2) true (enS2 encI (enSl 1 encI)) rfl rfl rfl ?_
      refine gt_nilb 5 (b := 0) (o := 1) (et := 103) (sz := 2) true (enS2 encI (enSl 1 encI)) rfl rfl rfl ?_
      refine t_ret Tryz.func61 (.cells (n := 5) (by kernel_rfl) (by kernel_rfl) rfl rfl rfl (.tmp rfl .nil)) rfl fun E S w u hI hd => ?_
      refine post_mk hI hd ?_ ⟨eqR ?_, ⟨eqR ?_, trivial⟩⟩ rfl rfl rfl <;> clear hI hd
      all_goals ((have K : rD rs s = _ := (by exact rD_c (rD_n2 (by assumption) (by omega)) (by omega))); (have K2 := par_is (p := rD rs) (rs := rs) K); (rw [K2.1 (by grind)]; first | done | rfl))
    ·
     have g20' := of_decide_eq_true g20
     refine r_guard rfl rfl rfl (nc g20) (fun _ => ?_)
     refine r_op (o_pickT rfl rfl g20 rfl) ?_
     refine r_end ?_
     refine t_cond rfl (fun _ => ?_) (nc rfl)
     refine tsr ?_
     refine r_op (o_build rfl (pl := [(0, 1), (1, 1), (2, 1), (3, 1), (4, 1)]) (zs := [.slice none 0 0, .slice none 0 0, .bool (false), .int .i64 (0), .int .i64 (0)]) (by kernel_rfl) (by kernel_rfl) rfl rfl rfl) ?_
     refine r_op (oS 5) ?_
     refine r_op oA ?_
     refine r_end ?_
     refine gt_nilb 4 (b := 0) (o := 0) (et := 103) (sz := 2) true (enS2 encI (enSl 1 encI)) rfl rfl rfl ?_
     refine gt_nilb 5 (b := 0) (o := 1) (et := 103) (sz := 2) true (enS2 encI (enSl 1 encI)) rfl rfl rfl ?_
     refine t_ret Tryz.func61 (.cells (n := 5) (by kernel_rfl) (by kernel_rfl) rfl rfl rfl (.tmp rfl .nil)) rfl fun E S w u hI hd => ?_
     refine post_mk hI hd ?_ ⟨eqR ?_, ⟨eqR ?_, trivial⟩⟩ rfl rfl rfl <;> clear hI hd
     all_goals ((have K : rD rs s = _ := (by exact rD_c (rD_n2 (by assumption) (by omega)) (by omega))); (have K2 := par_is (p := rD rs) (rs := rs) K); (rw [K2.2 (by grind)]; first | done | rfl))
 ·
  have g1' := of_decide_eq_false g1
  refine r_guard rfl rfl rfl (ncf g1) (fun _ => ?_)
  refine r_guard rfl rfl rfl (ncf g1) (fun _ => ?_)
  refine r_guard rfl rfl rfl (ncf g1) (fun _ => ?_)
  refine r_guard rfl rfl rfl (ncf g1) (fun _ => ?_)
  refine r_op (o_pickF rfl rfl g1 rfl) ?_
  refine r_end ?_
  refine t_cond rfl (ncf rfl) (fun _ => ?_)
  refine tsr ?_
  refine r_op oM ?_
  refine r_op (o_leno rfl rfl rfl rfl) ?_
  refine r_op oB ?_
  refine r_end ?_
  refine t_cond rfl (fun h22 => ?_) (fun h22 => ?_)
  ·
   have h22' := of_decide_eq_true h22
   refine t_draw (fun i => !(Nat.beq i 11)) (by kernel_rfl) ?_
   refine dT 0 rfl pM ?_
   refine dT 1 rfl pM ?_
   obtain ⟨z23, hz24, b25⟩ := at_get (xs := spl (u8 (62)) (s)) (n := 0) (by omega) (by omega)
   refine dT 2 rfl (p_indexo (by kernel_rfl) rfl rfl rfl b25 (at_lt b25 hz24)) ?_
   refine dT 3 rfl (p_load1o (by kernel_rfl) rfl rfl rfl hz24) ?_
   refine dT 5 rfl pM ?_
   refine dT 6 rfl pM ?_
   obtain ⟨z26, hz27, b28⟩ := at_get (xs := spl (u8 (62)) (s)) (n := 1) (by omega) (by omega)
   refine dT 7 rfl (p_indexo (by kernel_rfl) rfl rfl rfl b28 (at_lt b28 hz27)) ?_
   refine dT 8 rfl (p_load1o (by kernel_rfl) rfl rfl rfl hz27) ?_
   refine dO 4 rfl (o_call 4 5 false (Go.Proofs.enters_of Tryz.func119 (by kernel_rfl) rfl) (c_spec_l10Read (rs) (z23) (by omega) (by exact Nat.le_trans (piece_len (by assumption)) (by omega))) rfl (.cons rfl (.c .t0) (.cons rfl (.c .t0) .nil)) rfl rfl rfl) ?_
   refine dO 9 rfl (o_call 5 6 false (Go.Proofs.enters_of Tryz.func119 (by kernel_rfl) rfl) (c_spec_l10Read (rs) (z26) (by omega) (by exact Nat.le_trans (piece_len (by assumption)) (by omega))) rfl (.cons rfl (.c .t0) (.cons rfl (.c .t0) .nil)) rfl rfl rfl) ?_
   refine dT 10 rfl (p_build (pl := [(0, 1), (1, 1), (2, 1), (3, 1), (4, 1)]) (zs := [.slice none 0 0, .slice none 0 0, .bool (false), .int .i64 (0), .int .i64 (0)]) (by kernel_rfl) (by kernel_rfl) rfl rfl rfl) ?_
   refine dO 11 rfl (oS 5) ?_
   refine d_end (by kernel_rfl) ?_
   refine t_seq ?_
   refine tsr ?_
   refine r_op oM ?_
   refine r_op (oC 5) ?_
   refine r_op (o_call 6 6 false (Go.Proofs.enters_of Tryz.func117 (by kernel_rfl) rfl) (c_spec_FormatDependency (rs) (rAs (rs) (z23)) (rAs (rs) (z26)) (false) (0) (0) (by omega) (by exact Nat.le_trans (rAs_two (b := u8 62) (s := s) (by omega) (by assumption) (by assumption)) (by omega)) (by exact rAs_ok) (by exact rAs_ok) (by (unfold okI; omega)) (by (unfold okI; omega))) rfl (.cons rfl (.c .t0) (.cons rfl (.agg (.cons (.own rfl) (.cons (.own rfl) (.cons .t0 (.cons .t0 (.cons .t0 .nil)))))) .nil)) rfl rfl rfl) ?_
   refine r_op oM ?_
   refine r_op (o_str rfl rfl rfl rfl) ?_
   refine r_op oM ?_
   refine r_guard rfl rfl rfl (fun g29 => ?_) (fun g29 => ?_)
   ·
    have g29' := of_decide_eq_false g29
    refine r_op oM ?_
    refine r_guard rfl rfl rfl (fun _ => ?_) (ncf g29)
    refine r_op (o_str rfl rfl rfl rfl) ?_
    refine r_op (o_pickF rfl rfl g29 rfl) ?_
    refine r_end ?_
    refine t_cond rfl (fun h30 => ?_) (fun h30 => ?_)
    ·
     have h30' := of_decide_eq_true h30
     refine tsr ?_
     refine r_op (o_build rfl (pl := [(0, 1), (1, 1), (2, 1), (3, 1), (4, 1)]) (zs := [.slice none 0 0, .slice none 0 0, .bool (false), .int .i64 (0), .int .i64 (0)]) (by kernel_rfl) (by kernel_rfl) rfl rfl rfl) ?_
     refine r_op (oS 5) ?_
     refine r_op oA ?_
     refine r_end ?_
     refine gt_nilb 6 (b := 0) (o := 0) (et := 103) (sz := 2) true (enS2 encI (enSl 1 encI)) rfl rfl rfl ?_
     refine gt_nilb 7 (b := 0) (o := 1) (et := 103) (sz := 2) true (enS2 encI (enSl 1 encI)) rfl rfl rfl ?_
     refine gt_mv 4 6 rfl rfl rfl ?_
     refine gt_mv 5 7 rfl rfl rfl ?_
     refine t_ret Tryz.func61 (.cells (n := 5) (by kernel_rfl) (by kernel_rfl) rfl rfl rfl (.tmp rfl .nil)) rfl fun E S w u hI hd => ?_
     refine post_mk hI hd ?_ ⟨eqR ?_, ⟨eqR ?_, trivial⟩⟩ rfl rfl rfl <;> clear hI hd
     all_goals ((have K : rD rs s = _ := (by exact rD_b (rD_n1 (by omega)) (by omega) (by assumption) (by assumption))); (have K2 := par_is (p := rD rs) (rs := rs) K); (rw [K2.2 (by grind)]; first | done | rfl))
    ·
     have h30' := of_decide_eq_false h30
     refine t_skip ?_
     refine tsr ?_
     refine r_op (oC 5) ?_
     refine r_op (oS 5) ?_
     refine r_op oA ?_
     refine r_end ?_
     refine t_ret Tryz.func61 (.cells (n := 5) (by kernel_rfl) (by kernel_rfl) rfl rfl rfl (.tmp rfl .nil)) rfl fun E S w u hI hd => ?_
     refine post_mk hI hd ?_ ⟨eqR ?_, ⟨eqR ?_, trivial⟩⟩ rfl rfl rfl <;> clear hI hd
     all_goals ((have K : rD rs s = _ := (by exact rD_b (rD_n1 (by omega)) (by omega) (by assumption) (by assumption))); (have K2 := par_is (p := rD rs) (rs := rs) K); (rw [K2.1 (by grind)]; first | done | rfl))
   ·
    have g29' := of_decide_eq_true g29
    refine r_guard rfl rfl rfl (nc g29) (fun _ => ?_)
    refine r_op (o_pickT rfl rfl g29 rfl) ?_
    refine r_end ?_
    refine t_cond rfl (fun _ => ?_) (nc rfl)
    refine tsr ?_
    refine r_op (o_build rfl (pl := [(0, 1), (1, 1), (2, 1), (3, 1), (4, 1)]) (zs := [.slice none 0 0, .slice none 0 0, .bool (false), .int .i64 (0), .int .i64 (0)]) (by kernel_rfl) (by kernel_rfl) rfl rfl rfl) ?_
    refine r_op (oS 5) ?_
    refine r_op oA ?_
    refine r_end ?_
    refine gt_nilb 6 (b := 0) (o := 0) (et := 103) (sz := 2) true (enS2 encI (enSl 1 encI)) rfl rfl rfl ?_
    refine gt_nilb 7 (b := 0) (o := 1) (et := 103) (sz := 2) true (enS2 encI (enSl 1 encI)) rfl rfl rfl ?_
    refine gt_mv 4 6 rfl rfl rfl ?_
    refine gt_mv 5 7 rfl rfl rfl ?_
    refine t_ret Tryz.func61 (.cells (n := 5) (by kernel_rfl) (by kernel_rfl) rfl rfl rfl (.tmp rfl .nil)) rfl fun E S w u hI hd => ?_
    refine post_mk hI hd ?_ ⟨eqR ?_, ⟨eqR ?_, trivial⟩⟩ rfl rfl rfl <;> clear hI hd
    all_goals ((have K : rD rs s = _ := (by exact rD_b (rD_n1 (by omega)) (by omega) (by assumption) (by assumption))); (have K2 := par_is (p := rD rs) (rs := rs) K); (rw [K2.2 (by grind)]; first | done | rfl))
  ·
   have h22' := of_decide_eq_false h22
   refine t_skip ?_
   refine t_seq ?_
   refine tsr ?_
   refine r_op oM ?_
   refine r_op (oC 5) ?_
   refine r_op (o_call 4 4 false (Go.Proofs.enters_of Tryz.func117 (by kernel_rfl) rfl) (c_spec_FormatDependency (rs) ([]) ([]) (false) (0) (0) (by omega) (by (simp [szS]; done)) (by (simp only [List.not_mem_nil, false_implies, implies_true])) (by (simp only [List.not_mem_nil, false_implies, implies_true])) (by (unfold okI; omega)) (by (unfold okI; omega))) rfl (.cons rfl (.c .t0) (.cons rfl (.agg (.cons .nil (.cons .nil (.cons .t0 (.cons .t0 (.cons .t0 .nil)))))) .nil)) rfl rfl rfl) ?_
   refine r_op oM ?_
   refine r_op (o_str rfl rfl rfl rfl) ?_
   refine r_op oM ?_
   refine r_guard rfl rfl rfl (fun g31 => ?_) (fun g31 => ?_)
   ·
    have g31' := of_decide_eq_false g31
    refine r_op oM ?_
    refine r_guard rfl rfl rfl (fun _ => ?_) (ncf g31)
    refine r_op (o_str rfl rfl rfl rfl) ?_
    refine r_op (o_pickF rfl rfl g31 rfl) ?_
    refine r_end ?_
    refine t_cond rfl (fun h32 => ?_) (fun h32 => ?_)
    ·
     have h32' := of_decide_eq_true h32
     refine tsr ?_
     refine r_op (o_build rfl (pl := [(0, 1), (1, 1), (2, 1), (3, 1), (4, 1)]) (zs := [.slice none 0 0, .slice none 0 0, .bool (false), .int .i64 (0), .int .i64 (0)]) (by kernel_rfl) (by kernel_rfl) rfl rfl rfl) ?_
     refine r_op (oS 5) ?_
     refine r_op oA ?_
     refine r_end ?_
     refine gt_nilb 4 (b := 0) (o := 0) (et := 103) (sz := 2) true (enS2 encI (enSl 1 encI)) rfl rfl rfl ?_
     refine gt_nilb 5 (b := 0) (o := 1) (et := 103) (sz := 2) true (enS2 encI (enSl 1 encI)) rfl rfl rfl ?_
     refine t_ret Tryz.func61 (.cells (n := 5) (by kernel_rfl) (by kernel_rfl) rfl rfl rfl (.tmp rfl .nil)) rfl fun E S w u hI hd => ?_
     refine post_mk hI hd ?_ ⟨eqR ?_, ⟨eqR ?_, trivial⟩⟩ rfl rfl rfl <;> clear hI hd
     all_goals ((have K : rD rs s = _ := (by exact rD_c (rD_n1 (by omega)) (by omega))); (have K2 := par_is (p := rD rs) (rs := rs) K); (rw [K2.2 (by grind)]; first | done | rfl))
    ·
     have h32' := of_decide_eq_false h32
     refine t_skip ?_
     refine tsr ?_
     refine r_op (oC 5) ?_
     refine r_op (oS 5) ?_
     refine r_op oA ?_
     refine r_end ?_
     refine gt_nilb 4 (b := 0) (o := 0) (et := 103) (sz := 2) true (enS2 encI (enSl 1 encI)) rfl rfl rfl ?_
     refine gt_nilb 5 (b := 0) (o := 1) (et := 103) (sz := 2) true (enS2 encI (enSl 1 encI)) rfl rfl rfl ?_
     refine t_ret Tryz.func61 (.cells (n := 5) (by kernel_rfl) (by kernel_rfl) rfl rfl rfl (.tmp rfl .nil)) rfl fun E S w u hI hd => ?_
     refine post_mk hI hd ?_ ⟨eqR ?_, ⟨eqR ?_, trivial⟩⟩ rfl rfl rfl <;> clear hI hd
     all_goals ((have K : rD rs s = _ := (by exact rD_c (rD_n1 (by omega)) (by omega))); (have K2 := par_is (p := rD rs) (rs := rs) K); (rw [K2.1 (by grind)]; first | done | rfl))
   ·
    have g31' := of_decide_eq_true g31
    refine r_guard rfl rfl rfl (nc g31) (fun _ => ?_)
    refine r_op (o_pickT rfl rfl g31 rfl) ?_
    refine r_end ?_
    refine t_cond rfl (fun _ => ?_) (nc rfl)
    refine tsr ?_
    refine r_op (o_build rfl (pl := [(0, 1), (1, 1), (2, 1), (3, 1), (4, 1)]) (zs := [.slice none 0 0, .slice none 0 0, .bool (false), .int .i64 (0), .int .i64 (0)]) (by kernel_rfl) (by kernel_rfl) rfl rfl rfl) ?_
    refine r_op (oS 5) ?_
    refine r_op oA ?_
    refine r_end ?_
    refine gt_nilb 4 (b := 0) (o := 0) (et := 103) (sz := 2) true (enS2 encI (enSl 1 encI)) rfl rfl rfl ?_
    refine gt_nilb 5 (b := 0) (o := 1) (et := 103) (sz := 2) true (enS2 encI (enSl 1 encI)) rfl rfl rfl ?_
    refine t_ret Tryz.func61 (.cells (n := 5) (by kernel_rfl) (by kernel_rfl) rfl rfl rfl (.tmp rfl .nil)) rfl fun E S w u hI hd => ?_
    refine post_mk hI hd ?_ ⟨eqR ?_, ⟨eqR ?_, trivial⟩⟩ rfl rfl rfl <;> clear hI hd
    all_goals ((have K : rD rs s = _ := (by exact rD_c (rD_n1 (by omega)) (by omega))); (have K2 := par_is (p := rD rs) (rs := rs) K); (rw [K2.2 (by grind)]; first | done | rfl))
set_option maxHeartbeats 1000000 in
set_option maxRecDepth 10000 in
theorem c_spec_ParseDependencies (rs : Rels) (s : List UInt8) (hrs : rs.length ≤ 1048576) (hs : s.length ≤ 1048576) : Pu Tryz.prog 25 [.c (.t none (.sl 3 (enS3 encS encI encB) (rs))), .c (.t none (.v (.string (mkS (s)))))] [(0, some (.row none 57 true 5 (enS5 (enSl 2 (enS2 encI (enSl 1 encI))) (enSl 2 (enS2 encI (enSl 1 encI))) encB encI encI) ((parS rs s).1)))] 1 (.tup [(false, [.own 0]), (false, [.t none (.v (.bool ((parS rs s).2)))])]) := by
 refine pu_enter Tryz.func25 rfl (Nat.le_of_ble_eq_true rfl) fun w S => ?_
 refine tsr ?_
 refine r_op oA ?_
 refine r_op oA ?_
 refine etr ?_
 refine r_op (o_lit0 0 (e := 57) (sz := 5) (zs := [.slice none 0 0, .slice none 0 0, .bool (false), .int .i64 (0), .int .i64 (0)]) (enS5 (enSl 2 (enS2 encI (enSl 1 encI))) (enSl 2 (enS2 encI (enSl 1 encI))) encB encI encI) rfl rfl (by kernel_rfl) rfl) ?_
 refine r_op oA ?_
 refine etr ?_
 refine r_op oM ?_
 refine r_op (o_call 1 2 false (Go.Proofs.enters_of Tryz.func60 (by kernel_rfl) rfl) (c_spec_l3Cut (s) (59) (by omega) (by omega)) rfl (.cons rfl (.c .t0) (.cons rfl (.c .t0) .nil)) rfl rfl rfl) ?_
 refine r_op oA ?_
 refine r_end ?_
 refine t_seq ?_
 refine tsr ?_
 refine r_op oA ?_
 refine r_end ?_
 refine t_block ?_
 refine t_loopL (fun m => ⟨[(0, some (.c (.t none (.sl 3 (enS3 encS encI encB) (rs))))), (1, some (.c (.t none (.v (.string (mkS (s))))))), (6, some (.c (.own 0))), (7, some (.c (.own 1))), (8, some (.c (.t none (.v (.int .i64 ((m : Int)))))))], [(0, some (.row none 57 true 5 (enS5 (enSl 2 (enS2 encI (enSl 1 encI))) (enSl 2 (enS2 encI (enSl 1 encI))) encB encI encI) (((spl (u8 59) s).take m).map (fun x => (parD (rD rs) rs x).1)))), (1, some (.row none 9 true 1 encS (spl (u8 (59)) (s))))], 2⟩ : Nat → St) (fun m => m ≤ (spl (u8 59) s).length ∧ (((spl (u8 59) s).take m).all (okP rs) = true ∧ (s = [] → m = 0))) (fun m => (spl (u8 59) s).length - m) 0 ⟨⟨rfl, ⟨rfl, ⟨rfl, ⟨rfl, ⟨rfl, trivial⟩⟩⟩⟩⟩, ⟨rfl, ⟨rfl, trivial⟩⟩, rfl⟩ (by exact ⟨Nat.zero_le _, rfl, fun _ => rfl⟩) ?_
 rintro m hI ih0
 try dsimp only at hI ih0
 obtain ⟨i1, i2, i3⟩ := hI; have l1 := spl_len (b := u8 59) (s := s)
 refine t_seq ?_
 refine tsr ?_
 refine r_op oM ?_
 refine r_op oM ?_
 refine r_op (o_leno rfl rfl rfl rfl) ?_
 refine r_op oB ?_
 refine r_op oM ?_
 refine r_guard rfl rfl rfl (fun g1 => ?_) (fun g1 => ?_)
 ·
  have g1' := of_decide_eq_true g1
  refine r_op oM ?_
  refine r_guard rfl rfl rfl (fun _ => ?_) (nc g1)
  refine r_op (o_str rfl rfl rfl rfl) ?_
  refine r_op (o_pickT rfl rfl g1 rfl) ?_
  refine r_end ?_
  refine t_cond rfl (fun h2 => ?_) (fun h2 => ?_)
  ·
   have h2' := of_decide_eq_true h2
   refine t_skip ?_
   refine t_seq ?_
   refine t_block ?_
   refine tsr ?_
   refine r_op oM ?_
   refine r_op oM ?_
   refine r_op oM ?_
   obtain ⟨z3, hz4, b5⟩ := at_get (xs := spl (u8 (59)) (s)) (n := (m : Int)) (by omega) (by omega)
   refine r_op (o_indexo rfl (by kernel_rfl) rfl rfl rfl b5 (at_lt b5 hz4)) ?_
   refine r_op (o_load1o rfl (by kernel_rfl) rfl rfl rfl hz4) ?_
   refine r_op (o_call 2 8 false (Go.Proofs.enters_of Tryz.func61 (by kernel_rfl) rfl) (c_spec_ParseDependency (rs) (z3) (by omega) (by exact Nat.le_trans (piece_len (by assumption)) (by omega))) rfl (.cons rfl (.c .t0) (.cons rfl (.c .t0) .nil)) rfl rfl rfl) ?_
   refine r_op oM ?_
   refine r_op (o_extract rfl rfl rfl rfl) ?_
   refine r_op (o_extract rfl rfl rfl rfl) ?_
   refine r_op (o_alloc 8 (zs := [.slice none 0 0, .slice none 0 0, .bool (false), .int .i64 (0), .int .i64 (0)]) rfl rfl (by kernel_rfl) rfl) ?_
   refine r_op (oS 5) ?_
   refine r_op oA ?_
   refine r_end ?_
   refine t_seq ?_
   refine tsr ?_
   refine r_op oM ?_
   refine r_op (o_not rfl rfl) ?_
   refine r_end ?_
   refine t_cond rfl (fun h6 => ?_) (fun h6 => ?_)
   ·
    have h6' := (bnt h6)
    refine tsr ?_
    refine r_op (o_lit0 9 (e := 57) (sz := 5) (zs := [.slice none 0 0, .slice none 0 0, .bool (false), .int .i64 (0), .int .i64 (0)]) (enS5 (enSl 2 (enS2 encI (enSl 1 encI))) (enSl 2 (enS2 encI (enSl 1 encI))) encB encI encI) rfl rfl (by kernel_rfl) rfl) ?_
    refine r_op oA ?_
    refine r_op oA ?_
    refine r_end ?_
    refine gt_mv 0 9 rfl rfl rfl ?_
    refine t_ret Tryz.func25 (.tmp rfl (.tmp rfl .nil)) rfl fun E S w u hI hd => ?_
    refine post_mk hI hd ?_ ⟨eqR ?_, trivial⟩ rfl rfl rfl <;> clear hI hd <;> (try clear ih0)
    all_goals ((have K : parS rs s = _ := (by exact ps_rej (of_decide_eq_true (by assumption)) hz4 (by assumption))); rw [K]; (first | done | rfl))
   ·
    have h6' := (bnf h6)
    refine t_skip ?_
    refine t_region ?_
    refine r_op oM ?_
    refine r_op (oC 5) ?_
    refine r_op (o_litS 9 (e := 57) (sz := 5) (zs := [.slice none 0 0, .slice none 0 0, .bool (false), .int .i64 (0), .int .i64 (0)]) rfl rfl (by kernel_rfl) rfl rfl rfl rfl rfl) ?_
    refine r_op (o_append 0 (e := 57) (sz := 5) (by' := 72) (((parD (rD (rs)) (rs) (z3)).1.1, (parD (rD (rs)) (rs) (z3)).1.2.1, (parD (rD (rs)) (rs) (z3)).1.2.2.1, (parD (rD (rs)) (rs) (z3)).1.2.2.2.1, (parD (rD (rs)) (rs) (z3)).1.2.2.2.2)) rfl (by kernel_rfl) rfl rfl rfl rfl rfl rfl (.take (.own rfl) rfl (.take (.own rfl) rfl (.cons .sc (.cons .sc (.cons .sc .nil))))) rfl (by (simp; omega)) (by (simp; omega))) ?_
    refine r_op oA ?_
    refine r_end ?_
    refine t_endblock ?_
    refine t_region ?_
    refine r_op oM ?_
    refine r_op oB ?_
    refine r_op oA ?_
    refine r_end ?_
    refine t_le ?_ (ih0 (m + 1) (by (try dsimp only); omega) (by (try dsimp only); exact ⟨by omega, all_snoc i2 hz4 (by assumption), fun e => absurd e (of_decide_eq_true (by assumption))⟩))
    exact ⟨⟨rfl, ⟨rfl, ⟨rfl, ⟨rfl, ⟨(eqI (wr64 (by omega) (by omega))), trivial⟩⟩⟩⟩⟩, ⟨(eqR (map_snoc hz4)), ⟨rfl, trivial⟩⟩, rfl⟩
  ·
   have h2' := of_decide_eq_false h2
   refine t_exit rfl ?_
   refine t_seq ?_
   refine tsr ?_
   refine r_op oM ?_
   refine r_op oM ?_
   refine r_op (o_call 2 2 false (Go.Proofs.enters_of Tryz.func27 (by kernel_rfl) rfl) (c_spec_AreValidDependencies (rs) (((spl (u8 59) s).take m).map (fun x => (parD (rD rs) rs x).1)) (by omega) (by exact Nat.le_trans (ds_room i2) (by omega))) rfl (.cons rfl (.c .t0) (.cons rfl (.c (.own rfl)) .nil)) rfl rfl rfl) ?_
   refine r_op (o_not rfl rfl) ?_
   refine r_end ?_
   refine t_cond rfl (fun h7 => ?_) (fun h7 => ?_)
   ·
    have h7' := (bnt h7)
    refine tsr ?_
    refine r_op (o_lit0 2 (e := 57) (sz := 5) (zs := [.slice none 0 0, .slice none 0 0, .bool (false), .int .i64 (0), .int .i64 (0)]) (enS5 (enSl 2 (enS2 encI (enSl 1 encI))) (enSl 2 (enS2 encI (enSl 1 encI))) encB encI encI) rfl rfl (by kernel_rfl) rfl) ?_
    refine r_op oA ?_
    refine r_op oA ?_
    refine r_end ?_
    refine gt_mv 0 2 rfl rfl rfl ?_
    refine t_ret Tryz.func25 (.tmp rfl (.tmp rfl .nil)) rfl fun E S w u hI hd => ?_
    refine post_mk hI hd ?_ ⟨eqR ?_, trivial⟩ rfl rfl rfl <;> clear hI hd <;> (try clear ih0)
    all_goals ((have K : parS rs s = _ := (by exact ps_nil_no (by assumption) i3 (by assumption))); rw [K]; (first | done | rfl))
   ·
    have h7' := (bnf h7)
    refine t_skip ?_
    refine tsr ?_
    refine r_op oM ?_
    refine r_op oA ?_
    refine r_op oA ?_
    refine r_end ?_
    refine t_ret Tryz.func25 (.tmp rfl (.tmp rfl .nil)) rfl fun E S w u hI hd => ?_
    refine post_mk hI hd ?_ ⟨eqR ?_, trivial⟩ rfl rfl rfl <;> clear hI hd <;> (try clear ih0)
    all_goals ((have K : parS rs s = _ := (by exact ps_nil_yes (by assumption) i3 (by assumption))); rw [K]; ((done)))
 ·
  have g1' := of_decide_eq_false g1
  refine r_guard rfl rfl rfl (ncf g1) (fun _ => ?_)
  refine r_op (o_pickF rfl rfl g1 rfl) ?_
  refine r_end ?_
  refine t_cond rfl (ncf rfl) (fun _ => ?_)
  refine t_exit rfl ?_
  refine t_seq ?_
  refine tsr ?_
  refine r_op oM ?_
  refine r_op oM ?_
  refine r_op (o_call 2 2 false (Go.Proofs.enters_of Tryz.func27 (by kernel_rfl) rfl) (c_spec_AreValidDependencies (rs) (((spl (u8 59) s).take m).map (fun x => (parD (rD rs) rs x).1)) (by omega) (by exact Nat.le_trans (ds_room i2) (by omega))) rfl (.cons rfl (.c .t0) (.cons rfl (.c (.own rfl)) .nil)) rfl rfl rfl) ?_
  refine r_op (o_not rfl rfl) ?_
  refine r_end ?_
  refine t_cond rfl (fun h8 => ?_) (fun h8 => ?_)
  ·
   have h8' := (bnt h8)
   refine tsr ?_
   refine r_op (o_lit0 2 (e := 57) (sz := 5) (zs := [.slice none 0 0, .slice none 0 0, .bool (false), .int .i64 (0), .int .i64 (0)]) (enS5 (enSl 2 (enS2 encI (enSl 1 encI))) (enSl 2 (enS2 encI (enSl 1 encI))) encB encI encI) rfl rfl (by kernel_rfl) rfl) ?_
   refine r_op oA ?_
   refine r_op oA ?_
   refine r_end ?_
   refine gt_mv 0 2 rfl rfl rfl ?_
   refine t_ret Tryz.func25 (.tmp rfl (.tmp rfl .nil)) rfl fun E S w u hI hd => ?_
   refine post_mk hI hd ?_ ⟨eqR ?_, trivial⟩ rfl rfl rfl <;> clear hI hd <;> (try clear ih0)
   all_goals ((have K : parS rs s = _ := (by exact ps_no (by omega) i3 (by assumption))); rw [K]; (first | done | rfl))
  ·
   have h8' := (bnf h8)
   refine t_skip ?_
   refine tsr ?_
   refine r_op oM ?_
   refine r_op oA ?_
   refine r_op oA ?_
   refine r_end ?_
   refine t_ret Tryz.func25 (.tmp rfl (.tmp rfl .nil)) rfl fun E S w u hI hd => ?_
   refine post_mk hI hd ?_ ⟨eqR ?_, trivial⟩ rfl rfl rfl <;> clear hI hd <;> (try clear ih0)
   all_goals ((have K : parS rs s = _ := (by exact ps_yes (by omega) i3 i2 (by assumption))); rw [K]; ((done)))
set_option maxHeartbeats 1000000 in
set_option maxRecDepth 10000 in
theorem c_spec_l4Ints (a b : List Int) (ha : a.length ≤ 4611686018427387904) (hb : b.length ≤ 4611686018427387904) : Pu Tryz.prog 88 [.c (.t none (.sl 1 encI (a))), .c (.t none (.sl 1 encI (b)))] [] 0 (.c (.t none (.v (.int .i64 (cmpL a b))))) := by
 refine pu_enter Tryz.func88 rfl (Nat.le_of_ble_eq_true rfl) fun w S => ?_
 refine tsr ?_
 refine r_op oA ?_
 refine r_end ?_
 refine t_seq ?_
 refine tsr ?_
 refine r_op oA ?_
 refine r_end ?_
 refine t_block ?_
 refine t_loopL (fun m => ⟨[(0, some (.c (.t none (.sl 1 encI (a))))), (1, some (.c (.t none (.sl 1 encI (b))))), (5, some (.c (.t none (.v (.int .i64 ((m : Int)))))))], [], 0⟩ : Nat → St) (fun m => m ≤ a.length ∧ m ≤ b.length ∧ a.take m = b.take m) (fun m => a.length - m) 0 ⟨⟨rfl, ⟨rfl, ⟨rfl, trivial⟩⟩⟩, trivial, rfl⟩ (by exact ⟨Nat.zero_le _, Nat.zero_le _, rfl⟩) ?_
 rintro m hI ih0
 try dsimp only at hI ih0
 obtain ⟨i1, i2, i3⟩ := hI
 refine t_seq ?_
 refine tsr ?_
 refine r_op oM ?_
 refine r_op oM ?_
 refine r_op (o_len rfl rfl rfl) ?_
 refine r_op oB ?_
 refine r_op oM ?_
 refine r_guard rfl rfl rfl (fun g1 => ?_) (fun g1 => ?_)
 ·
  have g1' := of_decide_eq_true g1
  refine r_op oM ?_
  refine r_guard rfl rfl rfl (fun _ => ?_) (nc g1)
  refine r_op oM ?_
  refine r_guard rfl rfl rfl (fun _ => ?_) (nc g1)
  refine r_op (o_len rfl rfl rfl) ?_
  refine r_guard rfl rfl rfl (fun _ => ?_) (nc g1)
  refine r_op oB ?_
  refine r_op (o_pickT rfl rfl g1 rfl) ?_
  refine r_end ?_
  refine t_cond rfl (fun h2 => ?_) (fun h2 => ?_)
  ·
   have h2' := of_decide_eq_true h2
   refine t_skip ?_
   refine t_seq ?_
   refine t_block ?_
   refine t_seq ?_
   refine t_seq ?_
   refine t_draw (fun _ => true) (by kernel_rfl) ?_
   refine dT 0 rfl pM ?_
   refine dT 1 rfl pM ?_
   obtain ⟨z3, hz4, b5⟩ := at_get (xs := a) (n := (m : Int)) (by omega) (by omega)
   refine dT 2 rfl (p_index (by kernel_rfl) rfl rfl b5 hz4) ?_
   refine dT 3 rfl (p_load1 (by kernel_rfl) rfl rfl) ?_
   refine dT 4 rfl pM ?_
   refine dT 5 rfl pM ?_
   obtain ⟨z6, hz7, b8⟩ := at_get (xs := b) (n := (m : Int)) (by omega) (by omega)
   refine dT 6 rfl (p_index (by kernel_rfl) rfl rfl b8 hz7) ?_
   refine dT 7 rfl (p_load1 (by kernel_rfl) rfl rfl) ?_
   refine dT 8 rfl pB ?_
   refine d_end (by kernel_rfl) ?_
   refine t_cond rfl (fun h9 => ?_) (fun h9 => ?_)
   ·
    have h9' := of_decide_eq_true h9
    refine tsr ?_
    refine r_op oA ?_
    refine r_end ?_
    refine t_ret Tryz.func88 (.tmp rfl .nil) rfl fun E S w u hI hd => ?_
    refine post_mk hI hd ?_ trivial rfl rfl rfl <;> clear hI hd <;> (try clear ih0)
    all_goals (refine scI ?_; (rw [(cmpL_at i3 (by assumption) (by assumption)).1 (by omega)]; done))
   ·
    have h9' := of_decide_eq_false h9
    refine t_skip ?_
    refine t_seq ?_
    refine t_draw (fun _ => true) (by kernel_rfl) ?_
    refine dT 0 rfl pM ?_
    refine dT 1 rfl pM ?_
    refine dT 2 rfl (p_index (by kernel_rfl) rfl rfl b5 hz4) ?_
    refine dT 3 rfl (p_load1 (by kernel_rfl) rfl rfl) ?_
    refine dT 4 rfl pM ?_
    refine dT 5 rfl pM ?_
    refine dT 6 rfl (p_index (by kernel_rfl) rfl rfl b8 hz7) ?_
    refine dT 7 rfl (p_load1 (by kernel_rfl) rfl rfl) ?_
    refine dT 8 rfl pB ?_
    refine d_end (by kernel_rfl) ?_
    refine t_cond rfl (fun h10 => ?_) (fun h10 => ?_)
    ·
     have h10' := of_decide_eq_true h10
     refine tsr ?_
     refine r_op oA ?_
     refine r_end ?_
     refine t_ret Tryz.func88 (.tmp rfl .nil) rfl fun E S w u hI hd => ?_
     refine post_mk hI hd ?_ trivial rfl rfl rfl <;> clear hI hd <;> (try clear ih0)
     all_goals (refine scI ?_; (rw [(cmpL_at i3 (by assumption) (by assumption)).2 (by omega)]; done))
    ·
     have h10' := of_decide_eq_false h10
     refine t_skip ?_
     refine t_endblock ?_
     refine t_region ?_
     refine r_op oM ?_
     refine r_op oB ?_
     refine r_op oA ?_
     refine r_end ?_
     refine t_le ?_ (ih0 (m + 1) (by (try dsimp only); omega) (by (try dsimp only); exact ⟨by omega, by omega, take_same i3 (same_at (by assumption) (by assumption) (by omega))⟩))
     exact ⟨⟨rfl, ⟨rfl, ⟨(eqI (wr64 (by omega) (by omega))), trivial⟩⟩⟩, trivial, rfl⟩
  ·
   have h2' := of_decide_eq_false h2
   refine t_exit rfl ?_
   refine t_seq ?_
   refine tsr ?_
   refine r_op oM ?_
   refine r_op (o_len rfl rfl rfl) ?_
   refine r_op oM ?_
   refine r_op (o_len rfl rfl rfl) ?_
   refine r_op oB ?_
   refine r_end ?_
   refine t_cond rfl (fun h11 => ?_) (fun h11 => ?_)
   ·
    have h11' := of_decide_eq_true h11
    refine tsr ?_
    refine r_op oA ?_
    refine r_end ?_
    refine t_ret Tryz.func88 (.tmp rfl .nil) rfl fun E S w u hI hd => ?_
    refine post_mk hI hd ?_ trivial rfl rfl rfl <;> clear hI hd <;> (try clear ih0)
    all_goals (refine scI ?_; (rw [(cmpL_end i3 i1 i2).1 (by omega) (by omega)]; done))
   ·
    have h11' := of_decide_eq_false h11
    refine t_skip ?_
    refine t_seq ?_
    refine tsr ?_
    refine r_op oM ?_
    refine r_op (o_len rfl rfl rfl) ?_
    refine r_op oM ?_
    refine r_op (o_len rfl rfl rfl) ?_
    refine r_op oB ?_
    refine r_end ?_
    refine t_cond rfl (fun h12 => ?_) (fun h12 => ?_)
    ·
     have h12' := of_decide_eq_true h12
     refine tsr ?_
     refine r_op oA ?_
     refine r_end ?_
     refine t_ret Tryz.func88 (.tmp rfl .nil) rfl fun E S w u hI hd => ?_
     refine post_mk hI hd ?_ trivial rfl rfl rfl <;> clear hI hd <;> (try clear ih0)
     all_goals (refine scI ?_; (rw [(cmpL_end i3 i1 i2).2.1 (by omega) (by omega)]; done))
    ·
     have h12' := of_decide_eq_false h12
     refine t_skip ?_
     refine tsr ?_
     refine r_op oA ?_
     refine r_end ?_
     refine t_ret Tryz.func88 (.tmp rfl .nil) rfl fun E S w u hI hd => ?_
     refine post_mk hI hd ?_ trivial rfl rfl rfl <;> clear hI hd <;> (try clear ih0)
     all_goals (refine scI ?_; (rw [(cmpL_end i3 i1 i2).2.2 (by omega) (by omega)]; done))
 ·
  have g1' := of_decide_eq_false g1
  refine r_guard rfl rfl rfl (ncf g1) (fun _ => ?_)
  refine r_guard rfl rfl rfl (ncf g1) (fun _ => ?_)
  refine r_guard rfl rfl rfl (ncf g1) (fun _ => ?_)
  refine r_op (o_pickF rfl rfl g1 rfl) ?_
  refine r_end ?_
  refine t_cond rfl (ncf rfl) (fun _ => ?_)
  refine t_exit rfl ?_
  refine t_seq ?_
  refine tsr ?_
  refine r_op oM ?_
  refine r_op (o_len rfl rfl rfl) ?_
  refine r_op oM ?_
  refine r_op (o_len rfl rfl rfl) ?_
  refine r_op oB ?_
  refine r_end ?_
  refine t_cond rfl (fun h13 => ?_) (fun h13 => ?_)
  ·
   have h13' := of_decide_eq_true h13
   refine tsr ?_
   refine r_op oA ?_
   refine r_end ?_
   refine t_ret Tryz.func88 (.tmp rfl .nil) rfl fun E S w u hI hd => ?_
   refine post_mk hI hd ?_ trivial rfl rfl rfl <;> clear hI hd <;> (try clear ih0)
   all_goals (refine scI ?_; (rw [(cmpL_end i3 i1 i2).1 (by omega) (by omega)]; done))
  ·
   have h13' := of_decide_eq_false h13
   refine t_skip ?_
   refine t_seq ?_
   refine tsr ?_
   refine r_op oM ?_
   refine r_op (o_len rfl rfl rfl) ?_
   refine r_op oM ?_
   refine r_op (o_len rfl rfl rfl) ?_
   refine r_op oB ?_
   refine r_end ?_
   refine t_cond rfl (fun h14 => ?_) (fun h14 => ?_)
   ·
    have h14' := of_decide_eq_true h14
    refine tsr ?_
    refine r_op oA ?_
    refine r_end ?_
    refine t_ret Tryz.func88 (.tmp rfl .nil) rfl fun E S w u hI hd => ?_
    refine post_mk hI hd ?_ trivial rfl rfl rfl <;> clear hI hd <;> (try clear ih0)
    all_goals (refine scI ?_; (rw [(cmpL_end i3 i1 i2).2.1 (by omega) (by omega)]; done))
   ·
    have h14' := of_decide_eq_false h14
    refine t_skip ?_
    refine tsr ?_
    refine r_op oA ?_
    refine r_end ?_
    refine t_ret Tryz.func88 (.tmp rfl .nil) rfl fun E S w u hI hd => ?_
    refine post_mk hI hd ?_ trivial rfl rfl rfl <;> clear hI hd <;> (try clear ih0)
    all_goals (refine scI ?_; (rw [(cmpL_end i3 i1 i2).2.2 (by omega) (by omega)]; done))
set_option maxHeartbeats 1000000 in
set_option maxRecDepth 10000 in
theorem c_spec_l9Atoms (a b : List (Int × List Int)) (hs : szS (fun (x : Int × (List (Int))) => (x.2).length) a ≤ 1048600) (hs2 : szS (fun (x : Int × (List (Int))) => (x.2).length) b ≤ 1048600) : Pu Tryz.prog 67 [.c (.t none (.sl 2 (enS2 encI (enSl 1 encI)) (a))), .c (.t none (.sl 2 (enS2 encI (enSl 1 encI)) (b)))] [] 0 (.c (.t none (.v (.bool (decide (a = b)))))) := by
 refine pu_enter Tryz.func67 rfl (Nat.le_of_ble_eq_true rfl) fun w S => ?_
 have gl := sz_len (f := (fun (x : Int × (List (Int))) => (x.2).length)) (l := a); have gl2 := sz_len (f := (fun (x : Int × (List (Int))) => (x.2).length)) (l := b)
 refine tsr ?_
 refine r_op oA ?_
 refine r_end ?_
 refine t_seq ?_
 refine tsr ?_
 refine r_op oM ?_
 refine r_op (o_len rfl rfl rfl) ?_
 refine r_op oM ?_
 refine r_op (o_len rfl rfl rfl) ?_
 refine r_op oB ?_
 refine r_end ?_
 refine t_cond rfl (fun h1 => ?_) (fun h1 => ?_)
 ·
  have h1' := of_decide_eq_true h1
  refine tsr ?_
  refine r_op oA ?_
  refine r_end ?_
  refine t_ret Tryz.func67 (.tmp rfl .nil) rfl fun E S w u hI hd => ?_
  refine post_mk hI hd ?_ trivial rfl rfl rfl <;> clear hI hd <;> (try clear ih0)
  all_goals ((have : a ≠ b := by rintro rfl; simp at *); simp [this])
 ·
  have h1' := of_decide_eq_false h1
  refine t_skip ?_
  refine t_seq ?_
  refine tsr ?_
  refine r_op oA ?_
  refine r_end ?_
  refine t_block ?_
  refine t_loopL (fun m => ⟨[(0, some (.c (.t none (.sl 2 (enS2 encI (enSl 1 encI)) (a))))), (1, some (.c (.t none (.sl 2 (enS2 encI (enSl 1 encI)) (b))))), (5, some (.c (.t none (.v (.int .i64 ((m : Int)))))))], [], 0⟩ : Nat → St) (fun m => m ≤ a.length ∧ a.length = b.length ∧ a.take m = b.take m) (fun m => a.length - m) 0 ⟨⟨rfl, ⟨rfl, ⟨rfl, trivial⟩⟩⟩, trivial, rfl⟩ (by exact ⟨Nat.zero_le _, by omega, rfl⟩) ?_
  rintro m hI ih0
  try dsimp only at hI ih0
  obtain ⟨i1, i2, i3⟩ := hI
  refine t_seq ?_
  refine tsr ?_
  refine r_op oM ?_
  refine r_op oM ?_
  refine r_op (o_len rfl rfl rfl) ?_
  refine r_op oB ?_
  refine r_end ?_
  refine t_cond rfl (fun h2 => ?_) (fun h2 => ?_)
  ·
   have h2' := of_decide_eq_true h2
   refine t_skip ?_
   refine t_seq ?_
   refine t_block ?_
   refine t_seq ?_
   refine t_draw (fun _ => true) (by kernel_rfl) ?_
   refine dT 0 rfl pM ?_
   refine dT 1 rfl pM ?_
   obtain ⟨z3, hz4, b5⟩ := at_get (xs := a) (n := (m : Int)) (by omega) (by omega)
   refine dT 2 rfl (p_index (by kernel_rfl) rfl rfl b5 hz4) ?_
   refine dT 3 rfl (p_field (off := 0) (by kernel_rfl) rfl) ?_
   refine dT 4 rfl (p_load1 (by kernel_rfl) rfl rfl) ?_
   refine dT 5 rfl pM ?_
   refine dT 6 rfl pM ?_
   obtain ⟨z6, hz7, b8⟩ := at_get (xs := b) (n := (m : Int)) (by omega) (by omega)
   refine dT 7 rfl (p_index (by kernel_rfl) rfl rfl b8 hz7) ?_
   refine dT 8 rfl (p_field (off := 0) (by kernel_rfl) rfl) ?_
   refine dT 9 rfl (p_load1 (by kernel_rfl) rfl rfl) ?_
   refine dT 10 rfl pB ?_
   refine dT 11 rfl pM ?_
   refine dH 12 rfl (fun _ => pM) (fun g9 => ?_) (fun g9 => ?_)
   ·
    have g9' := of_decide_eq_false g9
    refine dH 13 rfl (fun _ => pM) (fun _ => ?_) (ncf g9)
    refine dH 14 rfl (fun _ => p_index (by kernel_rfl) rfl rfl b5 hz4) (fun _ => ?_) (ncf g9)
    refine dH 15 rfl (fun _ => p_field (off := 1) (by kernel_rfl) rfl) (fun _ => ?_) (ncf g9)
    refine dH 16 rfl (fun _ => p_load1 (by kernel_rfl) rfl rfl) (fun _ => ?_) (ncf g9)
    refine dH 17 rfl (fun _ => pM) (fun _ => ?_) (ncf g9)
    refine dH 18 rfl (fun _ => pM) (fun _ => ?_) (ncf g9)
    refine dH 19 rfl (fun _ => p_index (by kernel_rfl) rfl rfl b8 hz7) (fun _ => ?_) (ncf g9)
    refine dH 20 rfl (fun _ => p_field (off := 1) (by kernel_rfl) rfl) (fun _ => ?_) (ncf g9)
    refine dH 21 rfl (fun _ => p_load1 (by kernel_rfl) rfl rfl) (fun _ => ?_) (ncf g9)
    refine d_onlyG 22 rfl rfl (by kernel_rfl) rfl rfl rfl (fun _ => (o_call 0 0 false (Go.Proofs.enters_of Tryz.func88 (by kernel_rfl) rfl) (c_spec_l4Ints (z3.2) (z6.2) (by (have e1 := sz_at (f := (fun (x : Int × (List (Int))) => (x.2).length)) (l := a) (m := m) (by assumption); (try dsimp only at e1); omega)) (by (have e1 := sz_at (f := (fun (x : Int × (List (Int))) => (x.2).length)) (l := b) (m := m) (by assumption); (try dsimp only at e1); omega))) rfl (.cons rfl (.c .t0) (.cons rfl (.c .t0) .nil)) rfl rfl rfl)) (fun _ => ?_) (ncf g9)
    refine dH 23 rfl (fun _ => pB) (fun _ => ?_) (ncf g9)
    refine dT 24 rfl (p_pickF rfl g9 rfl) ?_
    refine d_end (by kernel_rfl) ?_
    refine t_cond rfl (fun h10 => ?_) (fun h10 => ?_)
    ·
     have h10' := of_decide_eq_true h10
     refine tsr ?_
     refine r_op oA ?_
     refine r_end ?_
     refine t_ret Tryz.func67 (.tmp rfl .nil) rfl fun E S w u hI hd => ?_
     refine post_mk hI hd ?_ trivial rfl rfl rfl <;> clear hI hd <;> (try clear ih0)
     all_goals (have := ne_at (a := a) (b := b) (by assumption) (by assumption) (fun e => by subst e; simp_all [cmpL_zero]); simp [this])
    ·
     have h10' := of_decide_eq_false h10
     refine t_skip ?_
     refine t_endblock ?_
     refine t_region ?_
     refine r_op oM ?_
     refine r_op oB ?_
     refine r_op oA ?_
     refine r_end ?_
     refine t_le ?_ (ih0 (m + 1) (by (try dsimp only); omega) (by (try dsimp only); exact ⟨by omega, i2, take_same i3 (same_at (by assumption) (by assumption) (Prod.ext (by simp only [Decidable.not_not] at *; assumption) ((cmpL_zero _ _).1 (by simp only [Decidable.not_not] at *; assumption))))⟩))
     exact ⟨⟨rfl, ⟨rfl, ⟨(eqI (wr64 (by omega) (by omega))), trivial⟩⟩⟩, trivial, rfl⟩
   ·
    have g9' := of_decide_eq_true g9
    refine dG 13 (nc g9) (fun _ => ?_)
    refine dG 14 (nc g9) (fun _ => ?_)
    refine dG 15 (nc g9) (fun _ => ?_)
    refine dG 16 (nc g9) (fun _ => ?_)
    refine dG 17 (nc g9) (fun _ => ?_)
    refine dG 18 (nc g9) (fun _ => ?_)
    refine dG 19 (nc g9) (fun _ => ?_)
    refine dG 20 (nc g9) (fun _ => ?_)
    refine dG 21 (nc g9) (fun _ => ?_)
    refine dG 22 (nc g9) (fun _ => ?_)
    refine dG 23 (nc g9) (fun _ => ?_)
    refine dT 24 rfl (p_pickT rfl g9 rfl) ?_
    refine d_end (by kernel_rfl) ?_
    refine t_cond rfl (fun _ => ?_) (nc rfl)
    refine tsr ?_
    refine r_op oA ?_
    refine r_end ?_
    refine t_ret Tryz.func67 (.tmp rfl .nil) rfl fun E S w u hI hd => ?_
    refine post_mk hI hd ?_ trivial rfl rfl rfl <;> clear hI hd <;> (try clear ih0)
    all_goals (have := ne_at (a := a) (b := b) (by assumption) (by assumption) (fun e => by subst e; simp_all [cmpL_zero]); simp [this])
  ·
   have h2' := of_decide_eq_false h2
   refine t_exit rfl ?_
   refine tsr ?_
   refine r_op oA ?_
   refine r_end ?_
   refine t_ret Tryz.func67 (.tmp rfl .nil) rfl fun E S w u hI hd => ?_
   refine post_mk hI hd ?_ trivial rfl rfl rfl <;> clear hI hd <;> (try clear ih0)
   all_goals ((obtain rfl : m = a.length := by omega); rw [List.take_length, i2, List.take_length] at i3; simp [i3])
set_option maxHeartbeats 1000000 in
set_option maxRecDepth 10000 in
theorem c_spec_EqualDependencies (a0 : List (Int × (List (Int)))) (a1 : List (Int × (List (Int)))) (a2 : Bool) (a3 : Int) (a4 : Int) (b0 : List (Int × (List (Int)))) (b1 : List (Int × (List (Int)))) (b2 : Bool) (b3 : Int) (b4 : Int) (hs : szS (fun (x : Int × (List (Int))) => (x.2).length) a0 + szS (fun (x : Int × (List (Int))) => (x.2).length) a1 ≤ 1048600) (hs2 : szS (fun (x : Int × (List (Int))) => (x.2).length) b0 + szS (fun (x : Int × (List (Int))) => (x.2).length) b1 ≤ 1048600) : Pu Tryz.prog 28 [.agg [.t none (.sl 2 (enS2 encI (enSl 1 encI)) (a0)), .t none (.sl 2 (enS2 encI (enSl 1 encI)) (a1)), .t none (.v (.bool (a2))), .t none (.v (.int .i64 (a3))), .t none (.v (.int .i64 (a4)))], .agg [.t none (.sl 2 (enS2 encI (enSl 1 encI)) (b0)), .t none (.sl 2 (enS2 encI (enSl 1 encI)) (b1)), .t none (.v (.bool (b2))), .t none (.v (.int .i64 (b3))), .t none (.v (.int .i64 (b4)))]] [] 0 (.c (.t none (.v (.bool (decide ((a0, a1, a2, a3, a4) = (b0, b1, b2, b3, b4))))))) := by
 refine pu_enter Tryz.func28 rfl (Nat.le_of_ble_eq_true rfl) fun w S => ?_
 have g_a0 := sz_len (f := (fun (x : Int × (List (Int))) => (x.2).length)) (l := a0); have g_a1 := sz_len (f := (fun (x : Int × (List (Int))) => (x.2).length)) (l := a1); have g_b0 := sz_len (f := (fun (x : Int × (List (Int))) => (x.2).length)) (l := b0); have g_b1 := sz_len (f := (fun (x : Int × (List (Int))) => (x.2).length)) (l := b1)
 refine tsr ?_
 refine r_op (o_box 0 rfl rfl rfl rfl) ?_
 refine r_op (o_box 1 rfl rfl rfl rfl) ?_
 refine r_op oA ?_
 refine etr ?_
 refine r_op (oF 0) ?_
 refine r_op oL ?_
 refine r_op (oF 0) ?_
 refine r_op oL ?_
 refine r_op (o_call 2 2 false (Go.Proofs.enters_of Tryz.func67 (by kernel_rfl) rfl) (c_spec_l9Atoms (a0) (b0) (by omega) (by omega)) rfl (.cons rfl (.c .t0) (.cons rfl (.c .t0) .nil)) rfl rfl rfl) ?_
 refine r_op oM ?_
 refine r_guard rfl rfl rfl (fun g1 => ?_) (fun g1 => ?_)
 ·
  have g1' := of_decide_eq_true g1
  refine r_op (oF 1) ?_
  refine r_guard rfl rfl rfl (fun _ => ?_) (nc g1)
  refine r_op oL ?_
  refine r_guard rfl rfl rfl (fun _ => ?_) (nc g1)
  refine r_op (oF 1) ?_
  refine r_guard rfl rfl rfl (fun _ => ?_) (nc g1)
  refine r_op oL ?_
  refine r_guard rfl rfl rfl (fun _ => ?_) (nc g1)
  refine r_op (o_call 2 2 false (Go.Proofs.enters_of Tryz.func67 (by kernel_rfl) rfl) (c_spec_l9Atoms (a1) (b1) (by omega) (by omega)) rfl (.cons rfl (.c .t0) (.cons rfl (.c .t0) .nil)) rfl rfl rfl) ?_
  refine r_op (o_pickT rfl rfl g1 rfl) ?_
  refine r_op oM ?_
  refine r_guard rfl rfl rfl (fun g2 => ?_) (fun g2 => ?_)
  ·
   have g2' := of_decide_eq_true g2
   refine r_op (oF 2) ?_
   refine r_guard rfl rfl rfl (fun _ => ?_) (nc g2)
   refine r_op oL ?_
   refine r_guard rfl rfl rfl (fun _ => ?_) (nc g2)
   refine r_op (oF 2) ?_
   refine r_guard rfl rfl rfl (fun _ => ?_) (nc g2)
   refine r_op oL ?_
   refine r_guard rfl rfl rfl (fun _ => ?_) (nc g2)
   refine r_op (o_eqB rfl Tryz.underlying4 rfl rfl) ?_
   refine r_op (o_pickT rfl rfl g2 rfl) ?_
   refine r_op oM ?_
   refine r_guard rfl rfl rfl (fun g3 => ?_) (fun g3 => ?_)
   ·
    have g3' := g3
    refine r_op (oF 3) ?_
    refine r_guard rfl rfl rfl (fun _ => ?_) (nc g3)
    refine r_op oL ?_
    refine r_guard rfl rfl rfl (fun _ => ?_) (nc g3)
    refine r_op (oF 3) ?_
    refine r_guard rfl rfl rfl (fun _ => ?_) (nc g3)
    refine r_op oL ?_
    refine r_guard rfl rfl rfl (fun _ => ?_) (nc g3)
    refine r_op oB ?_
    refine r_op (o_pickT rfl rfl g3 rfl) ?_
    refine r_op oM ?_
    refine r_guard rfl rfl rfl (fun g4 => ?_) (fun g4 => ?_)
    ·
     have g4' := of_decide_eq_true g4
     refine r_op (oF 4) ?_
     refine r_guard rfl rfl rfl (fun _ => ?_) (nc g4)
     refine r_op oL ?_
     refine r_guard rfl rfl rfl (fun _ => ?_) (nc g4)
     refine r_op (oF 4) ?_
     refine r_guard rfl rfl rfl (fun _ => ?_) (nc g4)
     refine r_op oL ?_
     refine r_guard rfl rfl rfl (fun _ => ?_) (nc g4)
     refine r_op oB ?_
     refine r_op (o_pickT rfl rfl g4 rfl) ?_
     refine r_op oA ?_
     refine r_end ?_
     refine t_ret Tryz.func28 (.tmp rfl .nil) rfl fun E S w u hI hd => ?_
     refine post_mk hI hd ?_ trivial rfl rfl rfl <;> clear hI hd
     all_goals (refine scB ?_; (try simp only [allEq_dec (fun x y => rfl)] at *); (refine decide_eq_decide.2 ⟨fun e => ?_, fun e => ?_⟩; (simp only [Prod.mk.injEq]; refine ⟨?_, ?_, ?_, ?_, ?_⟩ <;> first | assumption | exact of_decide_eq_true (by assumption)); (simp only [Prod.mk.injEq] at e; (exact e.2.2.2.2))))
    ·
     have g4' := of_decide_eq_false g4
     refine r_guard rfl rfl rfl (ncf g4) (fun _ => ?_)
     refine r_guard rfl rfl rfl (ncf g4) (fun _ => ?_)
     refine r_guard rfl rfl rfl (ncf g4) (fun _ => ?_)
     refine r_guard rfl rfl rfl (ncf g4) (fun _ => ?_)
     refine r_op (o_pickF rfl rfl g4 rfl) ?_
     refine r_op oA ?_
     refine r_end ?_
     refine t_ret Tryz.func28 (.tmp rfl .nil) rfl fun E S w u hI hd => ?_
     refine post_mk hI hd ?_ trivial rfl rfl rfl <;> clear hI hd
     all_goals (refine scB ?_; (try simp only [allEq_dec (fun x y => rfl)] at *); (refine (decide_eq_false (fun e => ?_)).symm; simp only [Prod.mk.injEq] at e; obtain ⟨e0, e1, e2, e3, e4⟩ := e; clear hs hs2 g_a0 g_a1 g_b0 g_b1; subst e0 e1 e2 e3 e4; simp at *; done))
   ·
    have g3' := g3
    refine r_guard rfl rfl rfl (ncf g3) (fun _ => ?_)
    refine r_guard rfl rfl rfl (ncf g3) (fun _ => ?_)
    refine r_guard rfl rfl rfl (ncf g3) (fun _ => ?_)
    refine r_guard rfl rfl rfl (ncf g3) (fun _ => ?_)
    refine r_op (o_pickF rfl rfl g3 rfl) ?_
    refine r_op oM ?_
    refine r_guard rfl rfl rfl (ncf rfl) (fun _ => ?_)
    refine r_guard rfl rfl rfl (ncf rfl) (fun _ => ?_)
    refine r_guard rfl rfl rfl (ncf rfl) (fun _ => ?_)
    refine r_guard rfl rfl rfl (ncf rfl) (fun _ => ?_)
    refine r_guard rfl rfl rfl (ncf rfl) (fun _ => ?_)
    refine r_op (o_pickF rfl rfl rfl rfl) ?_
    refine r_op oA ?_
    refine r_end ?_
    refine t_ret Tryz.func28 (.tmp rfl .nil) rfl fun E S w u hI hd => ?_
    refine post_mk hI hd ?_ trivial rfl rfl rfl <;> clear hI hd
    all_goals (refine scB ?_; (try simp only [allEq_dec (fun x y => rfl)] at *); (refine (decide_eq_false (fun e => ?_)).symm; simp only [Prod.mk.injEq] at e; obtain ⟨e0, e1, e2, e3, e4⟩ := e; clear hs hs2 g_a0 g_a1 g_b0 g_b1; subst e0 e1 e2 e3 e4; simp at *; done))
  ·
   have g2' := of_decide_eq_false g2
   refine r_guard rfl rfl rfl (ncf g2) (fun _ => ?_)
   refine r_guard rfl rfl rfl (ncf g2) (fun _ => ?_)
   refine r_guard rfl rfl rfl (ncf g2) (fun _ => ?_)
   refine r_guard rfl rfl rfl (ncf g2) (fun _ => ?_)
   refine r_op (o_pickF rfl rfl g2 rfl) ?_
   refine r_op oM ?_
   refine r_guard rfl rfl rfl (ncf rfl) (fun _ => ?_)
   refine r_guard rfl rfl rfl (ncf rfl) (fun _ => ?_)
   refine r_guard rfl rfl rfl (ncf rfl) (fun _ => ?_)
   refine r_guard rfl rfl rfl (ncf rfl) (fun _ => ?_)
   refine r_guard rfl rfl rfl (ncf rfl) (fun _ => ?_)
   refine r_op (o_pickF rfl rfl rfl rfl) ?_
   refine r_op oM ?_
   refine r_guard rfl rfl rfl (ncf rfl) (fun _ => ?_)
   refine r_guard rfl rfl rfl (ncf rfl) (fun _ => ?_)
   refine r_guard rfl rfl rfl (ncf rfl) (fun _ => ?_)
   refine r_guard rfl rfl rfl (ncf rfl) (fun _ => ?_)
   refine r_guard rfl rfl rfl (ncf rfl) (fun _ => ?_)
   refine r_op (o_pickF rfl rfl rfl rfl) ?_
   refine r_op oA ?_
   refine r_end ?_
   refine t_ret Tryz.func28 (.tmp rfl .nil) rfl fun E S w u hI hd => ?_
   refine post_mk hI hd ?_ trivial rfl rfl rfl <;> clear hI hd
   all_goals (refine scB ?_; (try simp only [allEq_dec (fun x y => rfl)] at *); (refine (decide_eq_false (fun e => ?_)).symm; simp only [Prod.mk.injEq] at e; obtain ⟨e0, e1, e2, e3, e4⟩ := e; clear hs hs2 g_a0 g_a1 g_b0 g_b1; subst e0 e1 e2 e3 e4; simp at *; done))
 ·
  have g1' := of_decide_eq_false g1
  refine r_guard rfl rfl rfl (ncf g1) (fun _ => ?_)
  refine r_guard rfl rfl rfl (ncf g1) (fun _ => ?_)
  refine r_guard rfl rfl rfl (ncf g1) (fun _ => ?_)
  refine r_guard rfl rfl rfl (ncf g1) (fun _ => ?_)
  refine r_op (o_pickF rfl rfl g1 rfl) ?_
  refine r_op oM ?_
  refine r_guard rfl rfl rfl (ncf rfl) (fun _ => ?_)
  refine r_guard rfl rfl rfl (ncf rfl) (fun _ => ?_)
  refine r_guard rfl rfl rfl (ncf rfl) (fun _ => ?_)
  refine r_guard rfl rfl rfl (ncf rfl) (fun _ => ?_)
  refine r_guard rfl rfl rfl (ncf rfl) (fun _ => ?_)
  refine r_op (o_pickF rfl rfl rfl rfl) ?_
  refine r_op oM ?_
  refine r_guard rfl rfl rfl (ncf rfl) (fun _ => ?_)
  refine r_guard rfl rfl rfl (ncf rfl) (fun _ => ?_)
  refine r_guard rfl rfl rfl (ncf rfl) (fun _ => ?_)
  refine r_guard rfl rfl rfl (ncf rfl) (fun _ => ?_)
  refine r_guard rfl rfl rfl (ncf rfl) (fun _ => ?_)
  refine r_op (o_pickF rfl rfl rfl rfl) ?_
  refine r_op oM ?_
  refine r_guard rfl rfl rfl (ncf rfl) (fun _ => ?_)
  refine r_guard rfl rfl rfl (ncf rfl) (fun _ => ?_)
  refine r_guard rfl rfl rfl (ncf rfl) (fun _ => ?_)
  refine r_guard rfl rfl rfl (ncf rfl) (fun _ => ?_)
  refine r_guard rfl rfl rfl (ncf rfl) (fun _ => ?_)
  refine r_op (o_pickF rfl rfl rfl rfl) ?_
  refine r_op oA ?_
  refine r_end ?_
  refine t_ret Tryz.func28 (.tmp rfl .nil) rfl fun E S w u hI hd => ?_
  refine post_mk hI hd ?_ trivial rfl rfl rfl <;> clear hI hd
  all_goals (refine scB ?_; (try simp only [allEq_dec (fun x y => rfl)] at *); (refine (decide_eq_false (fun e => ?_)).symm; simp only [Prod.mk.injEq] at e; obtain ⟨e0, e1, e2, e3, e4⟩ := e; clear hs hs2 g_a0 g_a1 g_b0 g_b1; subst e0 e1 e2 e3 e4; simp at *; done))
set_option maxHeartbeats 1000000 in
set_option maxRecDepth 10000 in
theorem c_laws_FnDependencyListFormat (code : List Int) (hcl : code.length ≤ 9223372036854775807) : PuX (mxX 0) Tryz.prog 4 [.c (.t none (.sl 1 encU (code)))] [] 0 (.c (.t none (.v (.bool (true))))) := by
 refine pu_enterX Tryz.func4 rfl (Nat.le_of_ble_eq_true rfl) fun w S hT => ?_
 refine tsr ?_
 refine r_op oA ?_
 refine r_end ?_
 refine t_seq ?_
 refine tsr ?_
 refine r_op oM ?_
 refine r_op (o_call 0 0 false (Go.Proofs.enters_of Tryz.func5 (by kernel_rfl) rfl) (c_laws_big (code)) rfl (.cons rfl (.c .t0) .nil) rfl rfl rfl) ?_
 refine r_end ?_
 refine t_cond rfl (fun h1 => ?_) (fun h1 => ?_)
 ·
  have h1' := of_decide_eq_true h1
  refine tsr ?_
  refine r_op oA ?_
  refine r_end ?_
  refine t_ret Tryz.func4 (.tmp rfl .nil) rfl fun E S w u hI hd => ?_
  refine post_mk hI hd ?_ trivial rfl rfl rfl <;> clear hI hd <;> (try clear ih0)
  all_goals (rfl)
 ·
  have h1' := of_decide_eq_false h1
  refine t_skip ?_
  refine tsr ?_
  refine r_op oM ?_
  refine r_opX (o_callG 0 0 (Go.Proofs.enters_of Tryz.func21 (by kernel_rfl) rfl) (c_spec_DrawFormatDependencies (code) (by omega)) rfl (.cons rfl (.c .t0) .nil) rfl rfl) ?_
  rintro ⟨ds2, hq3⟩
  try dsimp only at hq3
  try dsimp only
  obtain ⟨q4, q5⟩ := hq3
  have dl : ds2.length ≤ 6 := (by assumption); have dd : ∀ d ∈ ds2, depL d := (by assumption); have dz := dep6_sz dl dd; have hod := hod_L dd; have fl := fmtDs_len (rs := sigs5) (ds := ds2); have LR : depsOk sigs5 ds2 = true → (parS sigs5 (fmtDs sigs5 ds2)) = (ds2, true) := list_rt; have p5 := parS_five (rs := sigs5) (s := fmtDs sigs5 ds2); have SA : ∀ (k : Nat) d, ds2[k]? = some d → szS (fun (x : Int × (List (Int))) => (x.2).length) d.1 + szS (fun (x : Int × (List (Int))) => (x.2).length) d.2.1 ≤ 1000 := (fun k d h => by have := szA_dep (dd d (List.mem_of_getElem? h)); omega); have SB : ∀ (k : Nat) d, (parS sigs5 (fmtDs sigs5 ds2)).1[k]? = some d → szS (fun (x : Int × (List (Int))) => (x.2).length) d.1 + szS (fun (x : Int × (List (Int))) => (x.2).length) d.2.1 ≤ 1000 := (fun k d h => by have := parS_small d (List.mem_of_getElem? h); omega)
  refine r_op oM ?_
  refine r_op (o_extract rfl rfl rfl rfl) ?_
  refine r_op (o_extract rfl rfl rfl rfl) ?_
  refine r_op oA ?_
  refine r_op oA ?_
  refine etr ?_
  refine r_op oM ?_
  refine r_op oM ?_
  refine r_op oM ?_
  refine r_op (o_call 0 0 false (Go.Proofs.enters_of Tryz.func23 (by kernel_rfl) rfl) (c_impl_FormatDependencies (sigs5) ((ds2)) (by (rw [sigs5_len]; omega)) (by omega) (by omega)) rfl (.cons rfl (.c .t0) (.cons rfl (.c .t0) .nil)) rfl rfl rfl) ?_
  refine r_op (o_callX (fun _ hk => mx_kept hk hT) 0 1 false (Go.Proofs.enters_of Tryz.func22 (by kernel_rfl) rfl) (c_impl_ParseDependencies (sigs5) (fmtDs (sigs5) ((ds2))) (by (rw [sigs5_len]; omega)) (by omega)) rfl (.cons rfl (.c .t0) (.cons rfl (.c .t0) .nil)) rfl rfl rfl) ?_
  refine r_op oM ?_
  refine r_op (o_extract rfl rfl rfl rfl) ?_
  refine r_op (o_extract rfl rfl rfl rfl) ?_
  refine r_op oA ?_
  refine r_op oA ?_
  refine etr ?_
  refine r_op oM ?_
  refine r_opX (o_callG 1 1 (Go.Proofs.enters_of Tryz.func24 (by kernel_rfl) rfl) (c_spec_DrawParseDependencies (code) (by omega)) rfl (.cons rfl (.c .t0) .nil) rfl rfl) ?_
  rintro ⟨t6, hq7⟩
  try dsimp only at hq7
  try dsimp only
  have pf : (parS sigs5 t6).2 = true → fmtDs sigs5 (parS sigs5 t6).1 = t6 := par_fmt; have pz := parS_sz (rs := sigs5) (s := t6); have po := parS_okI (rs := sigs5) (s := t6)
  refine r_op oM ?_
  refine r_op (o_extract rfl rfl rfl rfl) ?_
  refine r_op (o_extract rfl rfl rfl rfl) ?_
  refine r_op oA ?_
  refine r_op oA ?_
  refine etr ?_
  refine r_op oM ?_
  refine r_op oM ?_
  refine r_op (o_callX (fun _ hk => mx_kept hk hT) 1 2 false (Go.Proofs.enters_of Tryz.func22 (by kernel_rfl) rfl) (c_impl_ParseDependencies (sigs5) ((t6)) (by (rw [sigs5_len]; omega)) (by omega)) rfl (.cons rfl (.c .t0) (.cons rfl (.c .t0) .nil)) rfl rfl rfl) ?_
  refine r_op oM ?_
  refine r_op (o_extract rfl rfl rfl rfl) ?_
  refine r_op (o_extract rfl rfl rfl rfl) ?_
  refine r_op oA ?_
  refine r_op oA ?_
  refine etr ?_
  refine r_op oM ?_
  refine r_op oM ?_
  refine r_op (o_call 2 3 false (Go.Proofs.enters_of Tryz.func25 (by kernel_rfl) rfl) (c_spec_ParseDependencies (sigs5) ((t6)) (by (rw [sigs5_len]; omega)) (by omega)) rfl (.cons rfl (.c .t0) (.cons rfl (.c .t0) .nil)) rfl rfl rfl) ?_
  refine r_op oM ?_
  refine r_op (o_extract rfl rfl rfl rfl) ?_
  refine r_op (o_extract rfl rfl rfl rfl) ?_
  refine r_op oA ?_
  refine r_op oA ?_
  refine r_end ?_
  refine t_seq ?_
  refine tsr ?_
  refine r_op oM ?_
  refine r_op oM ?_
  refine r_op (o_call 3 3 false (Go.Proofs.enters_of Tryz.func26 (by kernel_rfl) rfl) (c_impl_AreValidDependencies (sigs5) ((ds2)) (by (rw [sigs5_len]; omega)) (by omega)) rfl (.cons rfl (.c .t0) (.cons rfl (.c .t0) .nil)) rfl rfl rfl) ?_
  refine r_op oM ?_
  refine r_op oM ?_
  refine r_op (o_call 3 3 false (Go.Proofs.enters_of Tryz.func27 (by kernel_rfl) rfl) (c_spec_AreValidDependencies (sigs5) ((ds2)) (by (rw [sigs5_len]; omega)) (by omega)) rfl (.cons rfl (.c .t0) (.cons rfl (.c .t0) .nil)) rfl rfl rfl) ?_
  refine r_op (o_neB rfl Tryz.underlying4 rfl rfl) ?_
  refine r_op oM ?_
  refine r_guard rfl rfl rfl (fun g9 => ?_) (fun g9 => ?_)
  ·
   have g9' := g9
   refine r_op oM ?_
   refine r_guard rfl rfl rfl (fun _ => ?_) (ncf g9)
   refine r_op oM ?_
   refine r_guard rfl rfl rfl (fun _ => ?_) (ncf g9)
   refine r_op (o_neB rfl Tryz.underlying4 rfl rfl) ?_
   refine r_op (o_pickF rfl rfl g9 rfl) ?_
   refine r_op oM ?_
   refine r_guard rfl rfl rfl (fun g10 => ?_) (fun g10 => ?_)
   ·
    have g10' := g10
    refine r_op oM ?_
    refine r_guard rfl rfl rfl (fun _ => ?_) (ncf g10)
    refine r_op oM ?_
    refine r_guard rfl rfl rfl (fun g11 => ?_) (fun g11 => ?_)
    ·
     have g11' := g11
     refine r_op oM ?_
     refine r_guard rfl rfl rfl (fun _ => ?_) (nc g11)
     refine r_op oM ?_
     refine r_guard rfl rfl rfl (fun _ => ?_) (nc g11)
     refine r_op (o_call 3 3 false (Go.Proofs.enters_of Tryz.func23 (by kernel_rfl) rfl) (c_impl_FormatDependencies (sigs5) ((parS (sigs5) ((t6))).1) (by (rw [sigs5_len]; omega)) (by omega) (by omega)) rfl (.cons rfl (.c .t0) (.cons rfl (.c (.own rfl)) .nil)) rfl rfl rfl) ?_
     refine r_guard rfl rfl rfl (fun _ => ?_) (nc g11)
     refine r_op oM ?_
     refine r_guard rfl rfl rfl (fun _ => ?_) (nc g11)
     refine r_op (o_str rfl rfl rfl rfl) ?_
     refine r_guard rfl rfl rfl (fun _ => ?_) (ncf g10)
     refine r_op (o_pickT rfl rfl g11 rfl) ?_
     refine r_op (o_pickF rfl rfl g10 rfl) ?_
     refine r_end ?_
     refine t_cond rfl (fun h12 => ?_) (fun h12 => ?_)
     ·
      have h12' := of_decide_eq_true h12
      refine tsr ?_
      refine r_op oA ?_
      refine r_end ?_
      refine t_ret Tryz.func4 (.tmp rfl .nil) rfl fun E S w u hI hd => ?_
      refine post_mk hI hd ?_ trivial rfl rfl rfl <;> clear hI hd <;> (try clear ih0)
      all_goals ((exfalso; clear SA SB hod dd; grind))
     ·
      have h12' := of_decide_eq_false h12
      refine t_skip ?_
      refine t_seq ?_
      refine tsr ?_
      refine r_op oM ?_
      refine r_op oM ?_
      refine r_op (o_call 3 3 false (Go.Proofs.enters_of Tryz.func27 (by kernel_rfl) rfl) (c_spec_AreValidDependencies (sigs5) ((ds2)) (by (rw [sigs5_len]; omega)) (by omega)) rfl (.cons rfl (.c .t0) (.cons rfl (.c .t0) .nil)) rfl rfl rfl) ?_
      refine r_op (o_not rfl rfl) ?_
      refine r_end ?_
      refine t_cond rfl (fun h13 => ?_) (fun h13 => ?_)
      ·
       have h13' := (bnt h13)
       refine tsr ?_
       refine r_op oA ?_
       refine r_end ?_
       refine t_ret Tryz.func4 (.tmp rfl .nil) rfl fun E S w u hI hd => ?_
       refine post_mk hI hd ?_ trivial rfl rfl rfl <;> clear hI hd <;> (try clear ih0)
       all_goals (rfl)
      ·
       have h13' := (bnf h13)
       refine t_skip ?_
       refine t_seq ?_
       refine tsr ?_
       refine r_op oA ?_
       refine r_end ?_
       refine t_block ?_
       refine t_loopL (fun m => ⟨[(4, some (.c (.t none (.sl 5 (enS5 (enSl 2 (enS2 encI (enSl 1 encI))) (enSl 2 (enS2 encI (enSl 1 encI))) encB encI encI) ((ds2)))))), (5, some (.c (.own 0))), (6, some (.c (.t none (.v (.bool ((parS (sigs5) (fmtDs (sigs5) ((ds2)))).2)))))), (13, some (.c (.t none (.v (.int .i64 ((m : Int)))))))], [(0, some (.row none 57 true 5 (enS5 (enSl 2 (enS2 encI (enSl 1 encI))) (enSl 2 (enS2 encI (enSl 1 encI))) encB encI encI) ((parS (sigs5) (fmtDs (sigs5) ((ds2)))).1))), (1, some (.row none 57 true 5 (enS5 (enSl 2 (enS2 encI (enSl 1 encI))) (enSl 2 (enS2 encI (enSl 1 encI))) encB encI encI) ((parS (sigs5) ((t6))).1))), (2, some (.row none 57 true 5 (enS5 (enSl 2 (enS2 encI (enSl 1 encI))) (enSl 2 (enS2 encI (enSl 1 encI))) encB encI encI) ((parS (sigs5) ((t6))).1)))], 3⟩ : Nat → St) (fun m => m ≤ ds2.length) (fun m => ds2.length - m) 0 ⟨⟨rfl, ⟨rfl, ⟨rfl, ⟨rfl, trivial⟩⟩⟩⟩, ⟨rfl, ⟨rfl, ⟨rfl, trivial⟩⟩⟩, rfl⟩ (by exact Nat.zero_le _) ?_
       rintro m hI ih0
       try dsimp only at hI ih0
       have i1 := hI
       refine t_seq ?_
       refine tsr ?_
       refine r_op oM ?_
       refine r_op oM ?_
       refine r_op (o_len rfl rfl rfl) ?_
       refine r_op oB ?_
       refine r_end ?_
       refine t_cond rfl (fun h14 => ?_) (fun h14 => ?_)
       ·
        have h14' := of_decide_eq_true h14
        refine t_skip ?_
        refine t_seq ?_
        refine t_block ?_
        refine t_seq ?_
        refine t_draw (fun _ => true) (by kernel_rfl) ?_
        refine dT 0 rfl pM ?_
        refine dT 1 rfl pM ?_
        refine dT 2 rfl (p_leno rfl rfl rfl) ?_
        refine dT 3 rfl pB ?_
        refine dT 4 rfl pM ?_
        refine dH 5 rfl (fun _ => pM) (fun g15 => ?_) (fun g15 => ?_)
        ·
         have g15' := of_decide_eq_false g15
         refine dH 6 rfl (fun _ => pM) (fun _ => ?_) (ncf g15)
         obtain ⟨z16, hz17, b18⟩ := at_get (xs := (parS (sigs5) (fmtDs (sigs5) ((ds2)))).1) (n := (m : Int)) (by omega) (by omega)
         refine dH 7 rfl (fun _ => p_indexo (by kernel_rfl) rfl rfl rfl b18 (at_lt b18 hz17)) (fun _ => ?_) (ncf g15)
         refine dH 8 rfl (fun _ => p_loadAo (by kernel_rfl) (by kernel_rfl) rfl rfl hz17) (fun _ => ?_) (ncf g15)
         refine dH 9 rfl (fun _ => pM) (fun _ => ?_) (ncf g15)
         refine dH 10 rfl (fun _ => pM) (fun _ => ?_) (ncf g15)
         obtain ⟨z19, hz20, b21⟩ := at_get (xs := (ds2)) (n := (m : Int)) (by omega) (by omega)
         refine dH 11 rfl (fun _ => p_index (by kernel_rfl) rfl rfl b21 hz20) (fun _ => ?_) (ncf g15)
         refine dH 12 rfl (fun _ => p_loadA (n := 5) (by kernel_rfl) (by kernel_rfl) rfl rfl) (fun _ => ?_) (ncf g15)
         refine d_onlyG 13 rfl rfl (by kernel_rfl) rfl rfl rfl (fun _ => (o_call 3 3 false (Go.Proofs.enters_of Tryz.func28 (by kernel_rfl) rfl) (c_spec_EqualDependencies (z16.1) (z16.2.1) (z16.2.2.1) (z16.2.2.2.1) (z16.2.2.2.2) (z19.1) (z19.2.1) (z19.2.2.1) (z19.2.2.2.1) (z19.2.2.2.2) (by exact Nat.le_trans (SB _ _ (by assumption)) (by decide)) (by exact Nat.le_trans (SA _ _ (by assumption)) (by decide))) rfl (.cons rfl (.agg (.cons .t1 (.cons .t1 (.cons .t0 (.cons .t0 (.cons .t0 .nil)))))) (.cons rfl (.agg (.cons .t0 (.cons .t0 (.cons .t0 (.cons .t0 (.cons .t0 .nil)))))) .nil)) rfl rfl rfl)) (fun _ => ?_) (ncf g15)
         refine dH 14 rfl (fun _ => p_not rfl) (fun _ => ?_) (ncf g15)
         refine dT 15 rfl (p_pickF rfl g15 rfl) ?_
         refine d_end (by kernel_rfl) ?_
         refine t_cond rfl (fun h22 => ?_) (fun h22 => ?_)
         ·
          have h22' := of_decide_eq_false (bnt h22)
          refine tsr ?_
          refine r_op oA ?_
          refine r_end ?_
          refine t_ret Tryz.func4 (.tmp rfl .nil) rfl fun E S w u hI hd => ?_
          refine post_mk hI hd ?_ trivial rfl rfl rfl <;> clear hI hd <;> (try clear ih0)
          all_goals ((exfalso; clear SA SB hod dd; grind))
         ·
          have h22' := of_decide_eq_true (bnf h22)
          refine t_skip ?_
          refine t_endblock ?_
          refine t_region ?_
          refine r_op oM ?_
          refine r_op oB ?_
          refine r_op oA ?_
          refine r_end ?_
          refine t_le ?_ (ih0 (m + 1) (by (try dsimp only); omega) (by (try dsimp only); omega))
          exact ⟨⟨rfl, ⟨rfl, ⟨rfl, ⟨(eqI (wr64 (by omega) (by omega))), trivial⟩⟩⟩⟩, ⟨rfl, ⟨rfl, ⟨rfl, trivial⟩⟩⟩, rfl⟩
        ·
         have g15' := of_decide_eq_true g15
         refine dG 6 (nc g15) (fun _ => ?_)
         refine dG 7 (nc g15) (fun _ => ?_)
         refine dG 8 (nc g15) (fun _ => ?_)
         refine dG 9 (nc g15) (fun _ => ?_)
         refine dG 10 (nc g15) (fun _ => ?_)
         refine dG 11 (nc g15) (fun _ => ?_)
         refine dG 12 (nc g15) (fun _ => ?_)
         refine dG 13 (nc g15) (fun _ => ?_)
         refine dG 14 (nc g15) (fun _ => ?_)
         refine dT 15 rfl (p_pickT rfl g15 rfl) ?_
         refine d_end (by kernel_rfl) ?_
         refine t_cond rfl (fun _ => ?_) (nc rfl)
         refine tsr ?_
         refine r_op oA ?_
         refine r_end ?_
         refine t_ret Tryz.func4 (.tmp rfl .nil) rfl fun E S w u hI hd => ?_
         refine post_mk hI hd ?_ trivial rfl rfl rfl <;> clear hI hd <;> (try clear ih0)
         all_goals ((exfalso; clear SA SB hod dd; grind))
       ·
        have h14' := of_decide_eq_false h14
        refine t_exit rfl ?_
        refine tsr ?_
        refine r_op oM ?_
        refine r_op oM ?_
        refine r_guard rfl rfl rfl (fun g23 => ?_) (fun g23 => ?_)
        ·
         have g23' := g23
         refine r_op oM ?_
         refine r_guard rfl rfl rfl (fun _ => ?_) (nc g23)
         refine r_op (o_leno rfl rfl rfl rfl) ?_
         refine r_guard rfl rfl rfl (fun _ => ?_) (nc g23)
         refine r_op oM ?_
         refine r_guard rfl rfl rfl (fun _ => ?_) (nc g23)
         refine r_op (o_len rfl rfl rfl) ?_
         refine r_guard rfl rfl rfl (fun _ => ?_) (nc g23)
         refine r_op oB ?_
         refine r_op (o_pickT rfl rfl g23 rfl) ?_
         refine r_op oA ?_
         refine r_end ?_
         refine t_ret Tryz.func4 (.tmp rfl .nil) rfl fun E S w u hI hd => ?_
         refine post_mk hI hd ?_ trivial rfl rfl rfl <;> clear hI hd <;> (try clear ih0)
         all_goals ((refine scB ?_; clear SA SB hod dd; grind))
        ·
         have g23' := g23
         refine r_guard rfl rfl rfl (ncf g23) (fun _ => ?_)
         refine r_guard rfl rfl rfl (ncf g23) (fun _ => ?_)
         refine r_guard rfl rfl rfl (ncf g23) (fun _ => ?_)
         refine r_guard rfl rfl rfl (ncf g23) (fun _ => ?_)
         refine r_op (o_pickF rfl rfl g23 rfl) ?_
         refine r_op oA ?_
         refine r_end ?_
         refine t_ret Tryz.func4 (.tmp rfl .nil) rfl fun E S w u hI hd => ?_
         refine post_mk hI hd ?_ trivial rfl rfl rfl <;> clear hI hd <;> (try clear ih0)
         all_goals ((exfalso; clear SA SB hod dd; grind))
    ·
     have g11' := g11
     refine r_guard rfl rfl rfl (ncf g11) (fun _ => ?_)
     refine r_guard rfl rfl rfl (ncf g11) (fun _ => ?_)
     refine r_guard rfl rfl rfl (ncf g11) (fun _ => ?_)
     refine r_guard rfl rfl rfl (ncf g11) (fun _ => ?_)
     refine r_guard rfl rfl rfl (fun _ => ?_) (ncf g10)
     refine r_op (o_pickF rfl rfl g11 rfl) ?_
     refine r_op (o_pickF rfl rfl g10 rfl) ?_
     refine r_end ?_
     refine t_cond rfl (ncf rfl) (fun _ => ?_)
     refine t_skip ?_
     refine t_seq ?_
     refine tsr ?_
     refine r_op oM ?_
     refine r_op oM ?_
     refine r_op (o_call 3 3 false (Go.Proofs.enters_of Tryz.func27 (by kernel_rfl) rfl) (c_spec_AreValidDependencies (sigs5) ((ds2)) (by (rw [sigs5_len]; omega)) (by omega)) rfl (.cons rfl (.c .t0) (.cons rfl (.c .t0) .nil)) rfl rfl rfl) ?_
     refine r_op (o_not rfl rfl) ?_
     refine r_end ?_
     refine t_cond rfl (fun h24 => ?_) (fun h24 => ?_)
     ·
      have h24' := (bnt h24)
      refine tsr ?_
      refine r_op oA ?_
      refine r_end ?_
      refine t_ret Tryz.func4 (.tmp rfl .nil) rfl fun E S w u hI hd => ?_
      refine post_mk hI hd ?_ trivial rfl rfl rfl <;> clear hI hd <;> (try clear ih0)
      all_goals (rfl)
     ·
      have h24' := (bnf h24)
      refine t_skip ?_
      refine t_seq ?_
      refine tsr ?_
      refine r_op oA ?_
      refine r_end ?_
      refine t_block ?_
      refine t_loopL (fun m => ⟨[(4, some (.c (.t none (.sl 5 (enS5 (enSl 2 (enS2 encI (enSl 1 encI))) (enSl 2 (enS2 encI (enSl 1 encI))) encB encI encI) ((ds2)))))), (5, some (.c (.own 0))), (6, some (.c (.t none (.v (.bool ((parS (sigs5) (fmtDs (sigs5) ((ds2)))).2)))))), (13, some (.c (.t none (.v (.int .i64 ((m : Int)))))))], [(0, some (.row none 57 true 5 (enS5 (enSl 2 (enS2 encI (enSl 1 encI))) (enSl 2 (enS2 encI (enSl 1 encI))) encB encI encI) ((parS (sigs5) (fmtDs (sigs5) ((ds2)))).1))), (1, some (.row none 57 true 5 (enS5 (enSl 2 (enS2 encI (enSl 1 encI))) (enSl 2 (enS2 encI (enSl 1 encI))) encB encI encI) ((parS (sigs5) ((t6))).1))), (2, some (.row none 57 true 5 (enS5 (enSl 2 (enS2 encI (enSl 1 encI))) (enSl 2 (enS2 encI (enSl 1 encI))) encB encI encI) ((parS (sigs5) ((t6))).1)))], 3⟩ : Nat → St) (fun m => m ≤ ds2.length) (fun m => ds2.length - m) 0 ⟨⟨rfl, ⟨rfl, ⟨rfl, ⟨rfl, trivial⟩⟩⟩⟩, ⟨rfl, ⟨rfl, ⟨rfl, trivial⟩⟩⟩, rfl⟩ (by exact Nat.zero_le _) ?_
      rintro m hI ih0
      try dsimp only at hI ih0
      have i1 := hI
      refine t_seq ?_
      refine tsr ?_
      refine r_op oM ?_
      refine r_op oM ?_
      refine r_op (o_len rfl rfl rfl) ?_
      refine r_op oB ?_
      refine r_end ?_
      refine t_cond rfl (fun h25 => ?_) (fun h25 => ?_)
      ·
       have h25' := of_decide_eq_true h25
       refine t_skip ?_
       refine t_seq ?_
       refine t_block ?_
       refine t_seq ?_
       refine t_draw (fun _ => true) (by kernel_rfl) ?_
       refine dT 0 rfl pM ?_
       refine dT 1 rfl pM ?_
       refine dT 2 rfl (p_leno rfl rfl rfl) ?_
       refine dT 3 rfl pB ?_
       refine dT 4 rfl pM ?_
       refine dH 5 rfl (fun _ => pM) (fun g26 => ?_) (fun g26 => ?_)
       ·
        have g26' := of_decide_eq_false g26
        refine dH 6 rfl (fun _ => pM) (fun _ => ?_) (ncf g26)
        obtain ⟨z27, hz28, b29⟩ := at_get (xs := (parS (sigs5) (fmtDs (sigs5) ((ds2)))).1) (n := (m : Int)) (by omega) (by omega)
        refine dH 7 rfl (fun _ => p_indexo (by kernel_rfl) rfl rfl rfl b29 (at_lt b29 hz28)) (fun _ => ?_) (ncf g26)
        refine dH 8 rfl (fun _ => p_loadAo (by kernel_rfl) (by kernel_rfl) rfl rfl hz28) (fun _ => ?_) (ncf g26)
        refine dH 9 rfl (fun _ => pM) (fun _ => ?_) (ncf g26)
        refine dH 10 rfl (fun _ => pM) (fun _ => ?_) (ncf g26)
        obtain ⟨z30, hz31, b32⟩ := at_get (xs := (ds2)) (n := (m : Int)) (by omega) (by omega)
        refine dH 11 rfl (fun _ => p_index (by kernel_rfl) rfl rfl b32 hz31) (fun _ => ?_) (ncf g26)
        refine dH 12 rfl (fun _ => p_loadA (n := 5) (by kernel_rfl) (by kernel_rfl) rfl rfl) (fun _ => ?_) (ncf g26)
        refine d_onlyG 13 rfl rfl (by kernel_rfl) rfl rfl rfl (fun _ => (o_call 3 3 false (Go.Proofs.enters_of Tryz.func28 (by kernel_rfl) rfl) (c_spec_EqualDependencies (z27.1) (z27.2.1) (z27.2.2.1) (z27.2.2.2.1) (z27.2.2.2.2) (z30.1) (z30.2.1) (z30.2.2.1) (z30.2.2.2.1) (z30.2.2.2.2) (by exact Nat.le_trans (SB _ _ (by assumption)) (by decide)) (by exact Nat.le_trans (SA _ _ (by assumption)) (by decide))) rfl (.cons rfl (.agg (.cons .t1 (.cons .t1 (.cons .t0 (.cons .t0 (.cons .t0 .nil)))))) (.cons rfl (.agg (.cons .t0 (.cons .t0 (.cons .t0 (.cons .t0 (.cons .t0 .nil)))))) .nil)) rfl rfl rfl)) (fun _ => ?_) (ncf g26)
        refine dH 14 rfl (fun _ => p_not rfl) (fun _ => ?_) (ncf g26)
        refine dT 15 rfl (p_pickF rfl g26 rfl) ?_
        refine d_end (by kernel_rfl) ?_
        refine t_cond rfl (fun h33 => ?_) (fun h33 => ?_)
        ·
         have h33' := of_decide_eq_false (bnt h33)
         refine tsr ?_
         refine r_op oA ?_
         refine r_end ?_
         refine t_ret Tryz.func4 (.tmp rfl .nil) rfl fun E S w u hI hd => ?_
         refine post_mk hI hd ?_ trivial rfl rfl rfl <;> clear hI hd <;> (try clear ih0)
         all_goals ((exfalso; clear SA SB hod dd; grind))
        ·
         have h33' := of_decide_eq_true (bnf h33)
         refine t_skip ?_
         refine t_endblock ?_
         refine t_region ?_
         refine r_op oM ?_
         refine r_op oB ?_
         refine r_op oA ?_
         refine r_end ?_
         refine t_le ?_ (ih0 (m + 1) (by (try dsimp only); omega) (by (try dsimp only); omega))
         exact ⟨⟨rfl, ⟨rfl, ⟨rfl, ⟨(eqI (wr64 (by omega) (by omega))), trivial⟩⟩⟩⟩, ⟨rfl, ⟨rfl, ⟨rfl, trivial⟩⟩⟩, rfl⟩
       ·
        have g26' := of_decide_eq_true g26
        refine dG 6 (nc g26) (fun _ => ?_)
        refine dG 7 (nc g26) (fun _ => ?_)
        refine dG 8 (nc g26) (fun _ => ?_)
        refine dG 9 (nc g26) (fun _ => ?_)
        refine dG 10 (nc g26) (fun _ => ?_)
        refine dG 11 (nc g26) (fun _ => ?_)
        refine dG 12 (nc g26) (fun _ => ?_)
        refine dG 13 (nc g26) (fun _ => ?_)
        refine dG 14 (nc g26) (fun _ => ?_)
        refine dT 15 rfl (p_pickT rfl g26 rfl) ?_
        refine d_end (by kernel_rfl) ?_
        refine t_cond rfl (fun _ => ?_) (nc rfl)
        refine tsr ?_
        refine r_op oA ?_
        refine r_end ?_
        refine t_ret Tryz.func4 (.tmp rfl .nil) rfl fun E S w u hI hd => ?_
        refine post_mk hI hd ?_ trivial rfl rfl rfl <;> clear hI hd <;> (try clear ih0)
        all_goals ((exfalso; clear SA SB hod dd; grind))
      ·
       have h25' := of_decide_eq_false h25
       refine t_exit rfl ?_
       refine tsr ?_
       refine r_op oM ?_
       refine r_op oM ?_
       refine r_guard rfl rfl rfl (fun g34 => ?_) (fun g34 => ?_)
       ·
        have g34' := g34
        refine r_op oM ?_
        refine r_guard rfl rfl rfl (fun _ => ?_) (nc g34)
        refine r_op (o_leno rfl rfl rfl rfl) ?_
        refine r_guard rfl rfl rfl (fun _ => ?_) (nc g34)
        refine r_op oM ?_
        refine r_guard rfl rfl rfl (fun _ => ?_) (nc g34)
        refine r_op (o_len rfl rfl rfl) ?_
        refine r_guard rfl rfl rfl (fun _ => ?_) (nc g34)
        refine r_op oB ?_
        refine r_op (o_pickT rfl rfl g34 rfl) ?_
        refine r_op oA ?_
        refine r_end ?_
        refine t_ret Tryz.func4 (.tmp rfl .nil) rfl fun E S w u hI hd => ?_
        refine post_mk hI hd ?_ trivial rfl rfl rfl <;> clear hI hd <;> (try clear ih0)
        all_goals ((refine scB ?_; clear SA SB hod dd; grind))
       ·
        have g34' := g34
        refine r_guard rfl rfl rfl (ncf g34) (fun _ => ?_)
        refine r_guard rfl rfl rfl (ncf g34) (fun _ => ?_)
        refine r_guard rfl rfl rfl (ncf g34) (fun _ => ?_)
        refine r_guard rfl rfl rfl (ncf g34) (fun _ => ?_)
        refine r_op (o_pickF rfl rfl g34 rfl) ?_
        refine r_op oA ?_
        refine r_end ?_
        refine t_ret Tryz.func4 (.tmp rfl .nil) rfl fun E S w u hI hd => ?_
        refine post_mk hI hd ?_ trivial rfl rfl rfl <;> clear hI hd <;> (try clear ih0)
        all_goals ((exfalso; clear SA SB hod dd; grind))
   ·
    have g10' := g10
    refine r_guard rfl rfl rfl (nc g10) (fun _ => ?_)
    refine r_skip rfl rfl rfl ?_
    refine r_skip rfl rfl rfl ?_
    refine r_skip rfl rfl rfl ?_
    refine r_skip rfl rfl rfl ?_
    refine r_skip rfl rfl rfl ?_
    refine r_guard rfl rfl rfl (nc g10) (fun _ => ?_)
    refine r_op (o_pickT rfl rfl g10 rfl) ?_
    refine r_end ?_
    refine t_cond rfl (fun _ => ?_) (nc rfl)
    refine tsr ?_
    refine r_op oA ?_
    refine r_end ?_
    refine t_ret Tryz.func4 (.tmp rfl .nil) rfl fun E S w u hI hd => ?_
    refine post_mk hI hd ?_ trivial rfl rfl rfl <;> clear hI hd <;> (try clear ih0)
    all_goals ((exfalso; clear SA SB hod dd; grind))
  ·
   have g9' := g9
   refine r_guard rfl rfl rfl (nc g9) (fun _ => ?_)
   refine r_guard rfl rfl rfl (nc g9) (fun _ => ?_)
   refine r_op (o_pickT rfl rfl g9 rfl) ?_
   refine r_op oM ?_
   refine r_guard rfl rfl rfl (nc rfl) (fun _ => ?_)
   refine r_guard rfl rfl rfl (nc rfl) (fun _ => ?_)
   refine r_skip rfl rfl rfl ?_
   refine r_skip rfl rfl rfl ?_
   refine r_skip rfl rfl rfl ?_
   refine r_skip rfl rfl rfl ?_
   refine r_skip rfl rfl rfl ?_
   refine r_guard rfl rfl rfl (nc rfl) (fun _ => ?_)
   refine r_op (o_pickT rfl rfl rfl rfl) ?_
   refine r_end ?_
   refine t_cond rfl (fun _ => ?_) (nc rfl)
   refine tsr ?_
   refine r_op oA ?_
   refine r_end ?_
   refine t_ret Tryz.func4 (.tmp rfl .nil) rfl fun E S w u hI hd => ?_
   refine post_mk hI hd ?_ trivial rfl rfl rfl <;> clear hI hd <;> (try clear ih0)
   all_goals ((exfalso; clear SA SB hod dd; grind))
end Go.Eng
