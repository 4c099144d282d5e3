/- What the functions that FnTriggers reaches answer. -/
import Derived.Test.YtjjoopbebildfaaGreatFnsFnTriggersp0
import Derived.Test.YtjjoopbebildfaaGreatEngZQ
import Derived.Test.YtjjoopbebildfaaGreatChecked
set_option linter.unusedVariables false
set_option linter.unusedSimpArgs false
namespace Go.Eng
open Go Go.RowKit Go.Proofs
set_option maxHeartbeats 1000000 in
set_option maxRecDepth 10000 in
theorem c_spec_l5Any (code : List Int) (i h : Int) (hc : code.length ≤ 1048576) (hi0 : 0 ≤ i) (hi1 : i ≤ code.length) : MuG Tryz.prog 107 [.c (.ptr 0 0)] [.t none (.sl 1 encU (code)), .t none (.v (.int .i64 (i))), .t none (.v (.int .i64 (h)))] (fun (⟨rs, fs, i2, h2⟩ : Rels × Atoms × Int × Int) => instL rs fs ∧ 0 ≤ i2 ∧ i2 ≤ code.length) (fun (⟨rs, fs, i2, h2⟩ : Rels × Atoms × Int × Int) => [.t none (.sl 1 encU (code)), .t none (.v (.int .i64 (i2))), .t none (.v (.int .i64 (h2)))]) (fun (⟨rs, fs, i2, h2⟩ : Rels × Atoms × Int × Int) => []) 1 (fun (⟨rs, fs, i2, h2⟩ : Rels × Atoms × Int × Int) => .agg [.t none (.sl 3 (enS3 encS encI encB) (rs)), .t none (.sl 2 (enS2 encI (enSl 1 encI)) (fs))]) := by
 refine mu_enterG Tryz.func107 rfl (Nat.le_of_ble_eq_true rfl) fun v0 w S M hM => ?_
 refine tsr ?_
 refine r_op (o_alloc 1 (zs := [.slice none 0 0, .slice none 0 0]) rfl rfl (by kernel_rfl) rfl) ?_
 refine etr ?_
 refine r_op oM ?_
 refine r_opX (o_callGM 0 2 7 (pv := some (v0)) (Go.Proofs.enters_of Tryz.func158 (by kernel_rfl) rfl) (c_spec_l5Target (code) (i) (h) (5) (3) (by omega) (by omega) (by omega) (by omega) (by omega)) rfl rfl (.cur rfl (.cons rfl (.cons rfl .nil))) rfl (fun ⟨_, _, _⟩ => rfl) (fun _ => rfl) (fun ⟨_, _, _⟩ => rfl) rfl rfl) ?_
 rintro ⟨⟨fs1, i22, h23⟩, hq4⟩
 try dsimp only at hq4
 try dsimp only
 obtain ⟨q5, q6, q7⟩ := hq4
 refine r_op (o_alloc 7 (zs := [.slice none 0 0, .slice none 0 0]) rfl rfl (by kernel_rfl) rfl) ?_
 refine r_op (oS 2) ?_
 refine r_end ?_
 refine t_seq ?_
 refine tsr ?_
 refine r_op oM ?_
 refine r_opX (o_callGM 0 8 9 (pv := some (v0)) (Go.Proofs.enters_of Tryz.func61 (by kernel_rfl) rfl) (c_spec_l1Once ((code)) ((i22)) ((h23)) (2) (by omega) (by omega) (by omega) (by omega) (by omega)) rfl rfl (.cur rfl (.cons rfl .nil)) rfl (fun ⟨_, _, _⟩ => rfl) (fun _ => rfl) (fun ⟨_, _, _⟩ => rfl) rfl rfl) ?_
 rintro ⟨⟨b8, i29, h210⟩, hq11⟩
 try dsimp only at hq11
 try dsimp only
 refine r_end ?_
 refine t_cond rfl (fun h13 => ?_) (fun h13 => ?_)
 ·
  have h13' := h13
  refine tsr ?_
  refine r_op oM ?_
  refine r_opX (o_callGM 0 9 14 (pv := some (v0)) (Go.Proofs.enters_of Tryz.func78 (by kernel_rfl) rfl) (c_spec_l5Source (((code))) ((i29)) ((h210)) (3) (by omega) (by omega) (by omega) (by omega)) rfl rfl (.cur rfl (.cons rfl .nil)) rfl (fun ⟨_, _, _⟩ => rfl) (fun _ => rfl) (fun ⟨_, _, _⟩ => rfl) rfl rfl) ?_
  rintro ⟨⟨fs14, i215, h216⟩, hq17⟩
  try dsimp only at hq17
  try dsimp only
  obtain ⟨q18, q19, q20⟩ := hq17
  have b4f : ∀ a ∈ fs14, factL a := (by assumption)
  refine r_op (o_alloc 14 (zs := [.slice none 0 0, .slice none 0 0]) rfl rfl (by kernel_rfl) rfl) ?_
  refine r_op (oS 2) ?_
  refine r_end ?_
  refine t_seq ?_
  refine tsr ?_
  refine r_op oA ?_
  refine r_end ?_
  refine t_block ?_
  refine gt_freeze 5 rfl (frz_cur (i := 5) hM rfl rfl rfl) ?_
  refine gt_freeze 6 rfl (frz_cur (i := 6) hM rfl rfl rfl) ?_
  refine gt_freeze 12 rfl (frz_cur (i := 12) hM rfl rfl rfl) ?_
  refine gt_freeze 13 rfl (frz_cur (i := 13) hM rfl rfl rfl) ?_
  refine t_loopL (fun (m, xs) => ⟨[(0, some (.c (.ptr 0 0))), (2, some (.c (.ptr 1 0))), (3, some (.c (.ptr 7 0))), (4, some (.c (.ptr 14 0))), (5, some (.c (.t none (.v (.int .i64 ((m : Int)))))))], [(0, some (.pbox (v0) [.t none (.sl 1 encU ((((code))))), .t none (.v (.int .i64 ((i215)))), .t none (.v (.int .i64 ((h216))))])), (1, some (.box [.t none (.v (.slice none 0 0)), .t none (.v (.slice none 0 0))])), (7, some (.box [.t none (.sl 3 (enS3 encS encI encB) (sigs5)), .t none (.sl 2 (enS2 encI (enSl 1 encI)) (xs))])), (14, some (.box [.t none (.sl 3 (enS3 encS encI encB) (sigs5)), .t none (.sl 2 (enS2 encI (enSl 1 encI)) ((fs14)))]))], 15⟩ : Nat × Atoms → St) (fun (m, xs) => m ≤ fs14.length ∧ xs.length ≤ 5 + m ∧ (∀ a ∈ xs, factL a)) (fun (m, xs) => fs14.length - m) (0, (fs1)) ⟨⟨rfl, ⟨rfl, ⟨rfl, ⟨rfl, ⟨rfl, trivial⟩⟩⟩⟩⟩, ⟨rfl, ⟨rfl, ⟨rfl, ⟨rfl, trivial⟩⟩⟩⟩, rfl⟩ (by exact ⟨Nat.zero_le _, by (try dsimp only); omega, by assumption⟩) ?_
  rintro ⟨m, xs⟩ hI ih0
  try dsimp only at hI ih0
  obtain ⟨b1, b2, b4⟩ := hI
  refine t_seq ?_
  refine tsr ?_
  refine r_op oM ?_
  refine r_op (oF 1) ?_
  refine r_op oL ?_
  refine r_op (o_len rfl rfl rfl) ?_
  refine r_op oB ?_
  refine r_end ?_
  refine t_cond rfl (fun h21 => ?_) (fun h21 => ?_)
  ·
   have h21' := of_decide_eq_true h21
   refine t_skip ?_
   refine t_seq ?_
   refine t_block ?_
   refine t_draw (fun i => !(Nat.beq i 7)) (by kernel_rfl) ?_
   refine dT 0 rfl (pC 2) ?_
   refine dT 1 rfl (pF 1) ?_
   refine dT 2 rfl pL ?_
   refine dT 3 rfl pM ?_
   obtain ⟨z22, hz23, b24⟩ := at_get (xs := (fs14)) (n := (m : Int)) (by omega) (by omega)
   refine dT 4 rfl (p_index (by kernel_rfl) rfl rfl b24 hz23) ?_
   refine dT 5 rfl (p_loadA (n := 2) (by kernel_rfl) (by kernel_rfl) rfl rfl) ?_
   refine dO 6 rfl (o_call 15 15 true (Go.Proofs.enters_of Tryz.func93 (by kernel_rfl) rfl) (c_spec_l5Put (sigs5) (xs) (z22.1) (z22.2) (by (have e7 := szF_L b4; omega)) (by (have e7 := (b4f _ (List.mem_of_getElem? (by assumption))).2.1; omega))) rfl (.cons rfl (.agg (.cons .t0 (.cons .t0 .nil))) (.cons rfl (.agg (.cons .t0 (.cons .t0 .nil))) .nil)) rfl rfl rfl) ?_
   refine dO 7 rfl (oS 2) ?_
   refine d_end (by kernel_rfl) ?_
   refine t_endblock ?_
   refine t_region ?_
   refine r_op oM ?_
   refine r_op oB ?_
   refine r_op oA ?_
   refine r_end ?_
   refine t_le ?_ (ih0 (m + 1, putF (xs) ((z22.1), (z22.2))) (by (try dsimp only); omega) (by (try dsimp only); exact ⟨by omega, Nat.le_trans (putF_len _ _) (by omega), putF_all b4 (b4f _ (List.mem_of_getElem? hz23))⟩))
   exact ⟨⟨rfl, ⟨rfl, ⟨rfl, ⟨rfl, ⟨(eqI (wr64 (by omega) (by omega))), trivial⟩⟩⟩⟩⟩, ⟨rfl, ⟨rfl, ⟨rfl, ⟨rfl, trivial⟩⟩⟩⟩, rfl⟩
  ·
   have h21' := of_decide_eq_false h21
   refine t_exit rfl ?_
   refine t_region ?_
   refine r_op (oC 2) ?_
   refine r_op (o_call 15 20 false (Go.Proofs.enters_of Tryz.func87 (by kernel_rfl) rfl) (c_spec_l5Copy (sigs5) (xs) (by (rw [sigs5_len]; omega)) (by (have e7 := szF_L b4; omega))) rfl (.cons rfl (.agg (.cons .t0 (.cons .t0 .nil))) .nil) rfl rfl rfl) ?_
   refine r_op (oS 2) ?_
   refine r_end ?_
   refine t_seq ?_
   refine tsr ?_
   refine r_op oM ?_
   refine r_opX (o_callGM 0 20 21 (pv := some (v0)) (Go.Proofs.enters_of Tryz.func81 (by kernel_rfl) rfl) (c_spec_l1Below ((((code)))) ((i215)) ((h216)) (14) (by omega) (by omega) (by omega) (by omega) (by omega)) rfl rfl (.cur rfl (.cons rfl .nil)) rfl (fun ⟨_, _, _⟩ => rfl) (fun _ => rfl) (fun ⟨_, _, _⟩ => rfl) rfl rfl) ?_
   rintro ⟨⟨x25, i226, h227⟩, hq28⟩
   try dsimp only at hq28
   try dsimp only
   obtain ⟨q29, q30⟩ := hq28
   refine r_end ?_
   refine t_block ?_
   refine tsr ?_
   refine r_op oB ?_
   refine r_op oA ?_
   refine r_end ?_
   refine t_cond rfl (fun h31 => ?_) (fun h31 => ?_)
   ·
    have h31' := of_decide_eq_true h31
    refine t_draw (fun i => !(Nat.beq i 3 || Nat.beq i 5 || Nat.beq i 7)) (by kernel_rfl) ?_
    refine d_takeP 0 rfl rfl (by kernel_rfl) (by kernel_rfl) (by kernel_rfl) (pw_fieldb (off := 1) (by kernel_rfl) rfl) ?_
    refine dT 2 rfl pM ?_
    refine d_twoX 1 3 rfl rfl (by kernel_rfl) rfl rfl (osX oL) (o_callGM 0 21 29 (pv := some (v0)) (Go.Proofs.enters_of Tryz.func161 (by kernel_rfl) rfl) (c_spec_l4Any (((((code))))) ((i226)) ((h227)) (by omega) (by omega) (by omega)) rfl rfl (.cur rfl .nil) rfl (fun ⟨_, _, _, _⟩ => rfl) (fun _ => rfl) (fun ⟨_, _, _, _⟩ => rfl) rfl rfl) ?_ ?_
    ·
     rintro ⟨⟩
     refine dOX 3 rfl (o_callGM 0 21 29 (pv := some (v0)) (Go.Proofs.enters_of Tryz.func161 (by kernel_rfl) rfl) (c_spec_l4Any (((((code))))) ((i226)) ((h227)) (by omega) (by omega) (by omega)) rfl rfl (.cur rfl .nil) rfl (fun ⟨_, _, _, _⟩ => rfl) (fun _ => rfl) (fun ⟨_, _, _, _⟩ => rfl) rfl rfl) ?_
     rintro ⟨⟨r39, ts40, i241, h242⟩, hq43⟩
     try dsimp only at hq43
     try dsimp only
     obtain ⟨q44, q45⟩ := hq43
     refine dO 4 rfl (o_litS 29 (e := 36) (sz := 2) (zs := [.int .i64 (0), .slice none 0 0]) rfl rfl (by kernel_rfl) rfl rfl rfl rfl rfl) ?_
     refine dO 5 rfl (o_append 19 (e := 36) (sz := 2) (by' := 32) (((r39), (ts40))) rfl (by kernel_rfl) rfl rfl rfl rfl rfl rfl (.cons .sc (.take (.own rfl) rfl .nil)) rfl (by omega) (by omega)) ?_
     refine dT 6 rfl (pF 1) ?_
     refine dO 7 rfl (oS 1) ?_
     refine d_end (by kernel_rfl) ?_
     refine t_endblock ?_
     refine tsr ?_
     refine r_op (oC 2) ?_
     refine r_op (oS 2) ?_
     refine r_end ?_
     refine gt_freeze 17 rfl (frz_cur (i := 17) hM rfl rfl rfl) ?_
     refine gt_freeze 19 rfl (frz_cur (i := 19) hM rfl rfl rfl) ?_
     refine t_ret Tryz.func107 (.cells (n := 2) (by kernel_rfl) (by kernel_rfl) rfl rfl rfl .nil) rfl fun E S w u hI hd => ?_
     refine post_mkG (⟨(sigs5), (xs) ++ [((r39), (ts40))], (i241), (h242)⟩) ?_ hI hd ?_ ⟨rfl, trivial⟩ rfl rfl <;> clear hI hd <;> (try clear ih0)
     · (try dsimp only) <;> ((refine ⟨⟨?_, ?_, ?_, ?_⟩, by omega⟩ <;> (try dsimp only)) <;> first | decide | exact relS | (simp only [List.length_append, List.length_singleton]; omega) | exact mem_snoc (by assumption) (by assumption))
     · rfl
    ·
     rintro ⟨⟨r32, ts33, i234, h235⟩, hq36⟩
     try dsimp only at hq36
     try dsimp only
     obtain ⟨q37, q38⟩ := hq36
     refine dT 1 rfl pL ?_
     refine dO 4 rfl (o_litS 29 (e := 36) (sz := 2) (zs := [.int .i64 (0), .slice none 0 0]) rfl rfl (by kernel_rfl) rfl rfl rfl rfl rfl) ?_
     refine dO 5 rfl (o_append 19 (e := 36) (sz := 2) (by' := 32) (((r32), (ts33))) rfl (by kernel_rfl) rfl rfl rfl rfl rfl rfl (.cons .sc (.take (.own rfl) rfl .nil)) rfl (by omega) (by omega)) ?_
     refine dT 6 rfl (pF 1) ?_
     refine dO 7 rfl (oS 1) ?_
     refine d_end (by kernel_rfl) ?_
     refine t_endblock ?_
     refine tsr ?_
     refine r_op (oC 2) ?_
     refine r_op (oS 2) ?_
     refine r_end ?_
     refine gt_freeze 17 rfl (frz_cur (i := 17) hM rfl rfl rfl) ?_
     refine gt_freeze 19 rfl (frz_cur (i := 19) hM rfl rfl rfl) ?_
     refine t_ret Tryz.func107 (.cells (n := 2) (by kernel_rfl) (by kernel_rfl) rfl rfl rfl .nil) rfl fun E S w u hI hd => ?_
     refine post_mkG (⟨(sigs5), (xs) ++ [((r32), (ts33))], (i234), (h235)⟩) ?_ hI hd ?_ ⟨rfl, trivial⟩ rfl rfl <;> clear hI hd <;> (try clear ih0)
     · (try dsimp only) <;> ((refine ⟨⟨?_, ?_, ?_, ?_⟩, by omega⟩ <;> (try dsimp only)) <;> first | decide | exact relS | (simp only [List.length_append, List.length_singleton]; omega) | exact mem_snoc (by assumption) (by assumption))
     · rfl
   ·
    have h31' := of_decide_eq_false h31
    refine tsr ?_
    refine r_op oB ?_
    refine r_op oA ?_
    refine r_end ?_
    refine t_cond rfl (fun h46 => ?_) (fun h46 => ?_)
    ·
     have h46' := of_decide_eq_true h46
     refine t_region ?_
     refine r_op (oF 0) ?_
     refine r_op oL ?_
     refine r_op (o_subo rfl (by kernel_rfl) rfl rfl (.l rfl (by omega) (by (rw [sigs5_len]; omega)))) ?_
     refine r_op (oF 0) ?_
     refine r_op (oS 1) ?_
     refine r_end ?_
     refine t_endblock ?_
     refine tsr ?_
     refine r_op (oC 2) ?_
     refine r_op (oS 2) ?_
     refine r_end ?_
     refine gt_freeze 17 rfl (frz_cur (i := 17) hM rfl rfl rfl) ?_
     refine gt_freeze 19 rfl (frz_cur (i := 19) hM rfl rfl rfl) ?_
     refine t_ret Tryz.func107 (.cells (n := 2) (by kernel_rfl) (by kernel_rfl) rfl rfl rfl .nil) rfl fun E S w u hI hd => ?_
     refine post_mkG (⟨(((sigs5)).take ((sigs5)).length).drop ((1 : Int)).toNat, (xs), (i226), (h227)⟩) ?_ hI hd ?_ ⟨rfl, trivial⟩ rfl rfl <;> clear hI hd <;> (try clear ih0)
     · (try dsimp only) <;> ((refine ⟨⟨?_, ?_, ?_, ?_⟩, by omega⟩ <;> (try dsimp only)) <;> first | decide | exact fun z hz => relS z (List.mem_of_mem_take (List.mem_of_mem_drop hz)) | omega)
     · rfl
    ·
     have h46' := of_decide_eq_false h46
     refine tsr ?_
     refine r_op oB ?_
     refine r_op oA ?_
     refine r_end ?_
     refine t_cond rfl (fun h47 => ?_) (fun h47 => ?_)
     ·
      have h47' := of_decide_eq_true h47
      refine t_draw (fun i => !(Nat.beq i 3 || Nat.beq i 5 || Nat.beq i 7)) (by kernel_rfl) ?_
      refine d_takeP 0 rfl rfl (by kernel_rfl) (by kernel_rfl) (by kernel_rfl) (pw_fieldb (off := 0) (by kernel_rfl) rfl) ?_
      refine dT 2 rfl pM ?_
      refine d_takeP 4 rfl rfl (by kernel_rfl) (by kernel_rfl) (by kernel_rfl) (pw_move rfl) ?_
      refine d_twoX 1 3 rfl rfl (by kernel_rfl) rfl rfl (osX oL) (o_callGM 0 21 22 (pv := some (v0)) (Go.Proofs.enters_of Tryz.func81 (by kernel_rfl) rfl) (c_spec_l1Below (((((code))))) ((i226)) ((h227)) (5) (by omega) (by omega) (by omega) (by omega) (by omega)) rfl rfl (.cur rfl (.cons rfl .nil)) rfl (fun ⟨_, _, _⟩ => rfl) (fun _ => rfl) (fun ⟨_, _, _⟩ => rfl) rfl rfl) ?_ ?_
      ·
       rintro ⟨⟩
       refine dOX 3 rfl (o_callGM 0 21 22 (pv := some (v0)) (Go.Proofs.enters_of Tryz.func81 (by kernel_rfl) rfl) (c_spec_l1Below (((((code))))) ((i226)) ((h227)) (5) (by omega) (by omega) (by omega) (by omega) (by omega)) rfl rfl (.cur rfl (.cons rfl .nil)) rfl (fun ⟨_, _, _⟩ => rfl) (fun _ => rfl) (fun ⟨_, _, _⟩ => rfl) rfl rfl) ?_
       rintro ⟨⟨x54, i255, h256⟩, hq57⟩
       try dsimp only at hq57
       try dsimp only
       obtain ⟨q58, q59⟩ := hq57
       refine dOX 5 rfl (o_callGM 0 22 23 (pv := some (v0)) (Go.Proofs.enters_of Tryz.func162 (by kernel_rfl) rfl) (c_spec_l3One ((((((code)))))) ((i255)) ((h256)) (by omega) (by omega) (by omega)) rfl rfl (.cur rfl .nil) rfl (fun ⟨_, _, _, _, _⟩ => rfl) (fun _ => rfl) (fun ⟨_, _, _, _, _⟩ => rfl) rfl rfl) ?_
       rintro ⟨⟨n60, ar61, b62, i263, h264⟩, hq65⟩
       try dsimp only at hq65
       try dsimp only
       obtain ⟨q66, q67⟩ := hq65
       obtain ⟨z68, hz69, b70⟩ := at_get (xs := (sigs5)) (n := (x54)) (by omega) (by (rw [sigs5_len]; omega))
       refine dT 6 rfl (p_indexo (by kernel_rfl) rfl rfl rfl b70 (at_lt b70 hz69)) ?_
       refine dO 7 rfl (o_storeo (((n60), (ar61), (b62))) (n := 3) (by kernel_rfl) rfl rfl hz69 rfl rfl rfl rfl (.cons .sc (.cons .sc (.cons .sc .nil))) rfl (fun j h1 h2 => by (simp at h1 h2; omega))) ?_
       refine d_end (by kernel_rfl) ?_
       refine t_endblock ?_
       refine tsr ?_
       refine r_op (oC 2) ?_
       refine r_op (oS 2) ?_
       refine r_end ?_
       refine gt_freeze 17 rfl (frz_cur (i := 17) hM rfl rfl rfl) ?_
       refine gt_freeze 19 rfl (frz_cur (i := 19) hM rfl rfl rfl) ?_
       refine t_ret Tryz.func107 (.cells (n := 2) (by kernel_rfl) (by kernel_rfl) rfl rfl rfl .nil) rfl fun E S w u hI hd => ?_
       refine post_mkG (⟨((sigs5)).set ((x54)).toNat (((n60), (ar61), (b62))), (xs), (i263), (h264)⟩) ?_ hI hd ?_ ⟨rfl, trivial⟩ rfl rfl <;> clear hI hd <;> (try clear ih0)
       · (try dsimp only) <;> ((refine ⟨⟨?_, ?_, ?_, ?_⟩, by omega⟩ <;> (try dsimp only)) <;> first | (simp only [List.length_set, List.length_drop, List.length_take, sigs5_len]; omega) | exact mem_set relS (by unfold relL; (try dsimp only); omega) | omega)
       · rfl
      ·
       rintro ⟨⟨x48, i249, h250⟩, hq51⟩
       try dsimp only at hq51
       try dsimp only
       obtain ⟨q52, q53⟩ := hq51
       refine d_twoX 1 5 rfl rfl (by kernel_rfl) rfl rfl (osX oL) (o_callGM 0 22 23 (pv := some (v0)) (Go.Proofs.enters_of Tryz.func162 (by kernel_rfl) rfl) (c_spec_l3One ((((((code)))))) ((i249)) ((h250)) (by omega) (by omega) (by omega)) rfl rfl (.cur rfl .nil) rfl (fun ⟨_, _, _, _, _⟩ => rfl) (fun _ => rfl) (fun ⟨_, _, _, _, _⟩ => rfl) rfl rfl) ?_ ?_
       ·
        rintro ⟨⟩
        refine dOX 5 rfl (o_callGM 0 22 23 (pv := some (v0)) (Go.Proofs.enters_of Tryz.func162 (by kernel_rfl) rfl) (c_spec_l3One ((((((code)))))) ((i249)) ((h250)) (by omega) (by omega) (by omega)) rfl rfl (.cur rfl .nil) rfl (fun ⟨_, _, _, _, _⟩ => rfl) (fun _ => rfl) (fun ⟨_, _, _, _, _⟩ => rfl) rfl rfl) ?_
        rintro ⟨⟨n79, ar80, b81, i282, h283⟩, hq84⟩
        try dsimp only at hq84
        try dsimp only
        obtain ⟨q85, q86⟩ := hq84
        obtain ⟨z87, hz88, b89⟩ := at_get (xs := (sigs5)) (n := (x48)) (by omega) (by (rw [sigs5_len]; omega))
        refine dT 6 rfl (p_indexo (by kernel_rfl) rfl rfl rfl b89 (at_lt b89 hz88)) ?_
        refine dO 7 rfl (o_storeo (((n79), (ar80), (b81))) (n := 3) (by kernel_rfl) rfl rfl hz88 rfl rfl rfl rfl (.cons .sc (.cons .sc (.cons .sc .nil))) rfl (fun j h1 h2 => by (simp at h1 h2; omega))) ?_
        refine d_end (by kernel_rfl) ?_
        refine t_endblock ?_
        refine tsr ?_
        refine r_op (oC 2) ?_
        refine r_op (oS 2) ?_
        refine r_end ?_
        refine gt_freeze 17 rfl (frz_cur (i := 17) hM rfl rfl rfl) ?_
        refine gt_freeze 19 rfl (frz_cur (i := 19) hM rfl rfl rfl) ?_
        refine t_ret Tryz.func107 (.cells (n := 2) (by kernel_rfl) (by kernel_rfl) rfl rfl rfl .nil) rfl fun E S w u hI hd => ?_
        refine post_mkG (⟨((sigs5)).set ((x48)).toNat (((n79), (ar80), (b81))), (xs), (i282), (h283)⟩) ?_ hI hd ?_ ⟨rfl, trivial⟩ rfl rfl <;> clear hI hd <;> (try clear ih0)
        · (try dsimp only) <;> ((refine ⟨⟨?_, ?_, ?_, ?_⟩, by omega⟩ <;> (try dsimp only)) <;> first | (simp only [List.length_set, List.length_drop, List.length_take, sigs5_len]; omega) | exact mem_set relS (by unfold relL; (try dsimp only); omega) | omega)
        · rfl
       ·
        rintro ⟨⟨n71, ar72, b73, i274, h275⟩, hq76⟩
        try dsimp only at hq76
        try dsimp only
        obtain ⟨q77, q78⟩ := hq76
        refine dT 1 rfl pL ?_
        obtain ⟨z90, hz91, b92⟩ := at_get (xs := (sigs5)) (n := (x48)) (by omega) (by (rw [sigs5_len]; omega))
        refine dT 6 rfl (p_indexo (by kernel_rfl) rfl rfl rfl b92 (at_lt b92 hz91)) ?_
        refine dO 7 rfl (o_storeo (((n71), (ar72), (b73))) (n := 3) (by kernel_rfl) rfl rfl hz91 rfl rfl rfl rfl (.cons .sc (.cons .sc (.cons .sc .nil))) rfl (fun j h1 h2 => by (simp at h1 h2; omega))) ?_
        refine d_end (by kernel_rfl) ?_
        refine t_endblock ?_
        refine tsr ?_
        refine r_op (oC 2) ?_
        refine r_op (oS 2) ?_
        refine r_end ?_
        refine gt_freeze 17 rfl (frz_cur (i := 17) hM rfl rfl rfl) ?_
        refine gt_freeze 19 rfl (frz_cur (i := 19) hM rfl rfl rfl) ?_
        refine t_ret Tryz.func107 (.cells (n := 2) (by kernel_rfl) (by kernel_rfl) rfl rfl rfl .nil) rfl fun E S w u hI hd => ?_
        refine post_mkG (⟨((sigs5)).set ((x48)).toNat (((n71), (ar72), (b73))), (xs), (i274), (h275)⟩) ?_ hI hd ?_ ⟨rfl, trivial⟩ rfl rfl <;> clear hI hd <;> (try clear ih0)
        · (try dsimp only) <;> ((refine ⟨⟨?_, ?_, ?_, ?_⟩, by omega⟩ <;> (try dsimp only)) <;> first | (simp only [List.length_set, List.length_drop, List.length_take, sigs5_len]; omega) | exact mem_set relS (by unfold relL; (try dsimp only); omega) | omega)
        · rfl
     ·
      have h47' := of_decide_eq_false h47
      refine t_skip ?_
      refine t_endblock ?_
      refine tsr ?_
      refine r_op (oC 2) ?_
      refine r_op (oS 2) ?_
      refine r_end ?_
      refine gt_freeze 17 rfl (frz_cur (i := 17) hM rfl rfl rfl) ?_
      refine gt_freeze 19 rfl (frz_cur (i := 19) hM rfl rfl rfl) ?_
      refine t_ret Tryz.func107 (.cells (n := 2) (by kernel_rfl) (by kernel_rfl) rfl rfl rfl .nil) rfl fun E S w u hI hd => ?_
      refine post_mkG (⟨(sigs5), (xs), (i226), (h227)⟩) ?_ hI hd ?_ ⟨rfl, trivial⟩ rfl rfl <;> clear hI hd <;> (try clear ih0)
      · (try dsimp only) <;> ((refine ⟨⟨?_, ?_, ?_, ?_⟩, by omega⟩ <;> (try dsimp only)) <;> first | decide | exact relS | omega)
      · rfl
 ·
  have h13' := h13
  refine t_skip ?_
  refine t_seq ?_
  refine tsr ?_
  refine r_op oM ?_
  refine r_opX (o_callGM 0 9 10 (pv := some (v0)) (Go.Proofs.enters_of Tryz.func81 (by kernel_rfl) rfl) (c_spec_l1Below (((code))) ((i29)) ((h210)) (14) (by omega) (by omega) (by omega) (by omega) (by omega)) rfl rfl (.cur rfl (.cons rfl .nil)) rfl (fun ⟨_, _, _⟩ => rfl) (fun _ => rfl) (fun ⟨_, _, _⟩ => rfl) rfl rfl) ?_
  rintro ⟨⟨x93, i294, h295⟩, hq96⟩
  try dsimp only at hq96
  try dsimp only
  obtain ⟨q97, q98⟩ := hq96
  refine r_end ?_
  refine t_block ?_
  refine tsr ?_
  refine r_op oB ?_
  refine r_op oA ?_
  refine r_end ?_
  refine t_cond rfl (fun h99 => ?_) (fun h99 => ?_)
  ·
   have h99' := of_decide_eq_true h99
   refine t_draw (fun i => !(Nat.beq i 3 || Nat.beq i 5 || Nat.beq i 7)) (by kernel_rfl) ?_
   refine d_takeP 0 rfl rfl (by kernel_rfl) (by kernel_rfl) (by kernel_rfl) (pw_fieldb (off := 1) (by kernel_rfl) rfl) ?_
   refine dT 2 rfl pM ?_
   refine d_twoX 1 3 rfl rfl (by kernel_rfl) rfl rfl (osX oL) (o_callGM 0 10 18 (pv := some (v0)) (Go.Proofs.enters_of Tryz.func161 (by kernel_rfl) rfl) (c_spec_l4Any ((((code)))) ((i294)) ((h295)) (by omega) (by omega) (by omega)) rfl rfl (.cur rfl .nil) rfl (fun ⟨_, _, _, _⟩ => rfl) (fun _ => rfl) (fun ⟨_, _, _, _⟩ => rfl) rfl rfl) ?_ ?_
   ·
    rintro ⟨⟩
    refine dOX 3 rfl (o_callGM 0 10 18 (pv := some (v0)) (Go.Proofs.enters_of Tryz.func161 (by kernel_rfl) rfl) (c_spec_l4Any ((((code)))) ((i294)) ((h295)) (by omega) (by omega) (by omega)) rfl rfl (.cur rfl .nil) rfl (fun ⟨_, _, _, _⟩ => rfl) (fun _ => rfl) (fun ⟨_, _, _, _⟩ => rfl) rfl rfl) ?_
    rintro ⟨⟨r107, ts108, i2109, h2110⟩, hq111⟩
    try dsimp only at hq111
    try dsimp only
    obtain ⟨q112, q113⟩ := hq111
    refine dO 4 rfl (o_litS 18 (e := 36) (sz := 2) (zs := [.int .i64 (0), .slice none 0 0]) rfl rfl (by kernel_rfl) rfl rfl rfl rfl rfl) ?_
    refine dO 5 rfl (o_append 6 (e := 36) (sz := 2) (by' := 32) (((r107), (ts108))) rfl (by kernel_rfl) rfl rfl rfl rfl rfl rfl (.cons .sc (.take (.own rfl) rfl .nil)) rfl (by omega) (by omega)) ?_
    refine dT 6 rfl (pF 1) ?_
    refine dO 7 rfl (oS 1) ?_
    refine d_end (by kernel_rfl) ?_
    refine t_endblock ?_
    refine tsr ?_
    refine r_op (oC 2) ?_
    refine r_op (oS 2) ?_
    refine r_end ?_
    refine gt_freeze 5 rfl (frz_cur (i := 5) hM rfl rfl rfl) ?_
    refine gt_freeze 6 rfl (frz_cur (i := 6) hM rfl rfl rfl) ?_
    refine t_ret Tryz.func107 (.cells (n := 2) (by kernel_rfl) (by kernel_rfl) rfl rfl rfl .nil) rfl fun E S w u hI hd => ?_
    refine post_mkG (⟨sigs5, (fs1) ++ [((r107), (ts108))], (i2109), (h2110)⟩) ?_ hI hd ?_ ⟨rfl, trivial⟩ rfl rfl <;> clear hI hd <;> (try clear ih0)
    · (try dsimp only) <;> ((refine ⟨⟨?_, ?_, ?_, ?_⟩, by omega⟩ <;> (try dsimp only)) <;> first | decide | exact relS | (simp only [List.length_append, List.length_singleton]; omega) | exact mem_snoc (by assumption) (by assumption))
    · rfl
   ·
    rintro ⟨⟨r100, ts101, i2102, h2103⟩, hq104⟩
    try dsimp only at hq104
    try dsimp only
    obtain ⟨q105, q106⟩ := hq104
    refine dT 1 rfl pL ?_
    refine dO 4 rfl (o_litS 18 (e := 36) (sz := 2) (zs := [.int .i64 (0), .slice none 0 0]) rfl rfl (by kernel_rfl) rfl rfl rfl rfl rfl) ?_
    refine dO 5 rfl (o_append 6 (e := 36) (sz := 2) (by' := 32) (((r100), (ts101))) rfl (by kernel_rfl) rfl rfl rfl rfl rfl rfl (.cons .sc (.take (.own rfl) rfl .nil)) rfl (by omega) (by omega)) ?_
    refine dT 6 rfl (pF 1) ?_
    refine dO 7 rfl (oS 1) ?_
    refine d_end (by kernel_rfl) ?_
    refine t_endblock ?_
    refine tsr ?_
    refine r_op (oC 2) ?_
    refine r_op (oS 2) ?_
    refine r_end ?_
    refine gt_freeze 5 rfl (frz_cur (i := 5) hM rfl rfl rfl) ?_
    refine gt_freeze 6 rfl (frz_cur (i := 6) hM rfl rfl rfl) ?_
    refine t_ret Tryz.func107 (.cells (n := 2) (by kernel_rfl) (by kernel_rfl) rfl rfl rfl .nil) rfl fun E S w u hI hd => ?_
    refine post_mkG (⟨sigs5, (fs1) ++ [((r100), (ts101))], (i2102), (h2103)⟩) ?_ hI hd ?_ ⟨rfl, trivial⟩ rfl rfl <;> clear hI hd <;> (try clear ih0)
    · (try dsimp only) <;> ((refine ⟨⟨?_, ?_, ?_, ?_⟩, by omega⟩ <;> (try dsimp only)) <;> first | decide | exact relS | (simp only [List.length_append, List.length_singleton]; omega) | exact mem_snoc (by assumption) (by assumption))
    · rfl
  ·
   have h99' := of_decide_eq_false h99
   refine tsr ?_
   refine r_op oB ?_
   refine r_op oA ?_
   refine r_end ?_
   refine t_cond rfl (fun h114 => ?_) (fun h114 => ?_)
   ·
    have h114' := of_decide_eq_true h114
    refine t_region ?_
    refine r_op (oF 0) ?_
    refine r_op oL ?_
    refine r_op (o_subo rfl (by kernel_rfl) rfl rfl (.l rfl (by omega) (by (rw [sigs5_len]; omega)))) ?_
    refine r_op (oF 0) ?_
    refine r_op (oS 1) ?_
    refine r_end ?_
    refine t_endblock ?_
    refine tsr ?_
    refine r_op (oC 2) ?_
    refine r_op (oS 2) ?_
    refine r_end ?_
    refine gt_freeze 5 rfl (frz_cur (i := 5) hM rfl rfl rfl) ?_
    refine gt_freeze 6 rfl (frz_cur (i := 6) hM rfl rfl rfl) ?_
    refine t_ret Tryz.func107 (.cells (n := 2) (by kernel_rfl) (by kernel_rfl) rfl rfl rfl .nil) rfl fun E S w u hI hd => ?_
    refine post_mkG (⟨((sigs5).take (sigs5).length).drop ((1 : Int)).toNat, (fs1), (i294), (h295)⟩) ?_ hI hd ?_ ⟨rfl, trivial⟩ rfl rfl <;> clear hI hd <;> (try clear ih0)
    · (try dsimp only) <;> ((refine ⟨⟨?_, ?_, ?_, ?_⟩, by omega⟩ <;> (try dsimp only)) <;> first | decide | exact fun z hz => relS z (List.mem_of_mem_take (List.mem_of_mem_drop hz)) | omega)
    · rfl
   ·
    have h114' := of_decide_eq_false h114
    refine tsr ?_
    refine r_op oB ?_
    refine r_op oA ?_
    refine r_end ?_
    refine t_cond rfl (fun h115 => ?_) (fun h115 => ?_)
    ·
     have h115' := of_decide_eq_true h115
     refine t_draw (fun i => !(Nat.beq i 3 || Nat.beq i 5 || Nat.beq i 7)) (by kernel_rfl) ?_
     refine d_takeP 0 rfl rfl (by kernel_rfl) (by kernel_rfl) (by kernel_rfl) (pw_fieldb (off := 0) (by kernel_rfl) rfl) ?_
     refine dT 2 rfl pM ?_
     refine d_takeP 4 rfl rfl (by kernel_rfl) (by kernel_rfl) (by kernel_rfl) (pw_move rfl) ?_
     refine d_twoX 1 3 rfl rfl (by kernel_rfl) rfl rfl (osX oL) (o_callGM 0 10 11 (pv := some (v0)) (Go.Proofs.enters_of Tryz.func81 (by kernel_rfl) rfl) (c_spec_l1Below ((((code)))) ((i294)) ((h295)) (5) (by omega) (by omega) (by omega) (by omega) (by omega)) rfl rfl (.cur rfl (.cons rfl .nil)) rfl (fun ⟨_, _, _⟩ => rfl) (fun _ => rfl) (fun ⟨_, _, _⟩ => rfl) rfl rfl) ?_ ?_
     ·
      rintro ⟨⟩
      refine dOX 3 rfl (o_callGM 0 10 11 (pv := some (v0)) (Go.Proofs.enters_of Tryz.func81 (by kernel_rfl) rfl) (c_spec_l1Below ((((code)))) ((i294)) ((h295)) (5) (by omega) (by omega) (by omega) (by omega) (by omega)) rfl rfl (.cur rfl (.cons rfl .nil)) rfl (fun ⟨_, _, _⟩ => rfl) (fun _ => rfl) (fun ⟨_, _, _⟩ => rfl) rfl rfl) ?_
      rintro ⟨⟨x122, i2123, h2124⟩, hq125⟩
      try dsimp only at hq125
      try dsimp only
      obtain ⟨q126, q127⟩ := hq125
      refine dOX 5 rfl (o_callGM 0 11 12 (pv := some (v0)) (Go.Proofs.enters_of Tryz.func162 (by kernel_rfl) rfl) (c_spec_l3One (((((code))))) ((i2123)) ((h2124)) (by omega) (by omega) (by omega)) rfl rfl (.cur rfl .nil) rfl (fun ⟨_, _, _, _, _⟩ => rfl) (fun _ => rfl) (fun ⟨_, _, _, _, _⟩ => rfl) rfl rfl) ?_
      rintro ⟨⟨n128, ar129, b130, i2131, h2132⟩, hq133⟩
      try dsimp only at hq133
      try dsimp only
      obtain ⟨q134, q135⟩ := hq133
      obtain ⟨z136, hz137, b138⟩ := at_get (xs := sigs5) (n := (x122)) (by omega) (by (rw [sigs5_len]; omega))
      refine dT 6 rfl (p_indexo (by kernel_rfl) rfl rfl rfl b138 (at_lt b138 hz137)) ?_
      refine dO 7 rfl (o_storeo (((n128), (ar129), (b130))) (n := 3) (by kernel_rfl) rfl rfl hz137 rfl rfl rfl rfl (.cons .sc (.cons .sc (.cons .sc .nil))) rfl (fun j h1 h2 => by (simp at h1 h2; omega))) ?_
      refine d_end (by kernel_rfl) ?_
      refine t_endblock ?_
      refine tsr ?_
      refine r_op (oC 2) ?_
      refine r_op (oS 2) ?_
      refine r_end ?_
      refine gt_freeze 5 rfl (frz_cur (i := 5) hM rfl rfl rfl) ?_
      refine gt_freeze 6 rfl (frz_cur (i := 6) hM rfl rfl rfl) ?_
      refine t_ret Tryz.func107 (.cells (n := 2) (by kernel_rfl) (by kernel_rfl) rfl rfl rfl .nil) rfl fun E S w u hI hd => ?_
      refine post_mkG (⟨(sigs5).set ((x122)).toNat (((n128), (ar129), (b130))), (fs1), (i2131), (h2132)⟩) ?_ hI hd ?_ ⟨rfl, trivial⟩ rfl rfl <;> clear hI hd <;> (try clear ih0)
      · (try dsimp only) <;> ((refine ⟨⟨?_, ?_, ?_, ?_⟩, by omega⟩ <;> (try dsimp only)) <;> first | (simp only [List.length_set, List.length_drop, List.length_take, sigs5_len]; omega) | exact mem_set relS (by unfold relL; (try dsimp only); omega) | omega)
      · rfl
     ·
      rintro ⟨⟨x116, i2117, h2118⟩, hq119⟩
      try dsimp only at hq119
      try dsimp only
      obtain ⟨q120, q121⟩ := hq119
      refine d_twoX 1 5 rfl rfl (by kernel_rfl) rfl rfl (osX oL) (o_callGM 0 11 12 (pv := some (v0)) (Go.Proofs.enters_of Tryz.func162 (by kernel_rfl) rfl) (c_spec_l3One (((((code))))) ((i2117)) ((h2118)) (by omega) (by omega) (by omega)) rfl rfl (.cur rfl .nil) rfl (fun ⟨_, _, _, _, _⟩ => rfl) (fun _ => rfl) (fun ⟨_, _, _, _, _⟩ => rfl) rfl rfl) ?_ ?_
      ·
       rintro ⟨⟩
       refine dOX 5 rfl (o_callGM 0 11 12 (pv := some (v0)) (Go.Proofs.enters_of Tryz.func162 (by kernel_rfl) rfl) (c_spec_l3One (((((code))))) ((i2117)) ((h2118)) (by omega) (by omega) (by omega)) rfl rfl (.cur rfl .nil) rfl (fun ⟨_, _, _, _, _⟩ => rfl) (fun _ => rfl) (fun ⟨_, _, _, _, _⟩ => rfl) rfl rfl) ?_
       rintro ⟨⟨n147, ar148, b149, i2150, h2151⟩, hq152⟩
       try dsimp only at hq152
       try dsimp only
       obtain ⟨q153, q154⟩ := hq152
       obtain ⟨z155, hz156, b157⟩ := at_get (xs := sigs5) (n := (x116)) (by omega) (by (rw [sigs5_len]; omega))
       refine dT 6 rfl (p_indexo (by kernel_rfl) rfl rfl rfl b157 (at_lt b157 hz156)) ?_
       refine dO 7 rfl (o_storeo (((n147), (ar148), (b149))) (n := 3) (by kernel_rfl) rfl rfl hz156 rfl rfl rfl rfl (.cons .sc (.cons .sc (.cons .sc .nil))) rfl (fun j h1 h2 => by (simp at h1 h2; omega))) ?_
       refine d_end (by kernel_rfl) ?_
       refine t_endblock ?_
       refine tsr ?_
       refine r_op (oC 2) ?_
       refine r_op (oS 2) ?_
       refine r_end ?_
       refine gt_freeze 5 rfl (frz_cur (i := 5) hM rfl rfl rfl) ?_
       refine gt_freeze 6 rfl (frz_cur (i := 6) hM rfl rfl rfl) ?_
       refine t_ret Tryz.func107 (.cells (n := 2) (by kernel_rfl) (by kernel_rfl) rfl rfl rfl .nil) rfl fun E S w u hI hd => ?_
       refine post_mkG (⟨(sigs5).set ((x116)).toNat (((n147), (ar148), (b149))), (fs1), (i2150), (h2151)⟩) ?_ hI hd ?_ ⟨rfl, trivial⟩ rfl rfl <;> clear hI hd <;> (try clear ih0)
       · (try dsimp only) <;> ((refine ⟨⟨?_, ?_, ?_, ?_⟩, by omega⟩ <;> (try dsimp only)) <;> first | (simp only [List.length_set, List.length_drop, List.length_take, sigs5_len]; omega) | exact mem_set relS (by unfold relL; (try dsimp only); omega) | omega)
       · rfl
      ·
       rintro ⟨⟨n139, ar140, b141, i2142, h2143⟩, hq144⟩
       try dsimp only at hq144
       try dsimp only
       obtain ⟨q145, q146⟩ := hq144
       refine dT 1 rfl pL ?_
       obtain ⟨z158, hz159, b160⟩ := at_get (xs := sigs5) (n := (x116)) (by omega) (by (rw [sigs5_len]; omega))
       refine dT 6 rfl (p_indexo (by kernel_rfl) rfl rfl rfl b160 (at_lt b160 hz159)) ?_
       refine dO 7 rfl (o_storeo (((n139), (ar140), (b141))) (n := 3) (by kernel_rfl) rfl rfl hz159 rfl rfl rfl rfl (.cons .sc (.cons .sc (.cons .sc .nil))) rfl (fun j h1 h2 => by (simp at h1 h2; omega))) ?_
       refine d_end (by kernel_rfl) ?_
       refine t_endblock ?_
       refine tsr ?_
       refine r_op (oC 2) ?_
       refine r_op (oS 2) ?_
       refine r_end ?_
       refine gt_freeze 5 rfl (frz_cur (i := 5) hM rfl rfl rfl) ?_
       refine gt_freeze 6 rfl (frz_cur (i := 6) hM rfl rfl rfl) ?_
       refine t_ret Tryz.func107 (.cells (n := 2) (by kernel_rfl) (by kernel_rfl) rfl rfl rfl .nil) rfl fun E S w u hI hd => ?_
       refine post_mkG (⟨(sigs5).set ((x116)).toNat (((n139), (ar140), (b141))), (fs1), (i2142), (h2143)⟩) ?_ hI hd ?_ ⟨rfl, trivial⟩ rfl rfl <;> clear hI hd <;> (try clear ih0)
       · (try dsimp only) <;> ((refine ⟨⟨?_, ?_, ?_, ?_⟩, by omega⟩ <;> (try dsimp only)) <;> first | (simp only [List.length_set, List.length_drop, List.length_take, sigs5_len]; omega) | exact mem_set relS (by unfold relL; (try dsimp only); omega) | omega)
       · rfl
    ·
     have h115' := of_decide_eq_false h115
     refine t_skip ?_
     refine t_endblock ?_
     refine tsr ?_
     refine r_op (oC 2) ?_
     refine r_op (oS 2) ?_
     refine r_end ?_
     refine gt_freeze 5 rfl (frz_cur (i := 5) hM rfl rfl rfl) ?_
     refine gt_freeze 6 rfl (frz_cur (i := 6) hM rfl rfl rfl) ?_
     refine t_ret Tryz.func107 (.cells (n := 2) (by kernel_rfl) (by kernel_rfl) rfl rfl rfl .nil) rfl fun E S w u hI hd => ?_
     refine post_mkG (⟨sigs5, (fs1), (i294), (h295)⟩) ?_ hI hd ?_ ⟨rfl, trivial⟩ rfl rfl <;> clear hI hd <;> (try clear ih0)
     · (try dsimp only) <;> ((refine ⟨⟨?_, ?_, ?_, ?_⟩, by omega⟩ <;> (try dsimp only)) <;> first | decide | exact relS | omega)
     · rfl
set_option maxHeartbeats 1000000 in
set_option maxRecDepth 10000 in
theorem c_spec_l9Any (code : List Int) (i h : Int) (hc : code.length ≤ 1048576) (hi0 : 0 ≤ i) (hi1 : i ≤ code.length) : MuG Tryz.prog 108 [.c (.ptr 0 0)] [.t none (.sl 1 encU (code)), .t none (.v (.int .i64 (i))), .t none (.v (.int .i64 (h)))] (fun (⟨b, hs, e, lv, rv, i2, h2⟩ : Atoms × Atoms × Bool × Int × Int × Int × Int) => depL (b, hs, e, lv, rv) ∧ 0 ≤ i2 ∧ i2 ≤ code.length) (fun (⟨b, hs, e, lv, rv, i2, h2⟩ : Atoms × Atoms × Bool × Int × Int × Int × Int) => [.t none (.sl 1 encU (code)), .t none (.v (.int .i64 (i2))), .t none (.v (.int .i64 (h2)))]) (fun (⟨b, hs, e, lv, rv, i2, h2⟩ : Atoms × Atoms × Bool × Int × Int × Int × Int) => [(7, some (.row none 40 true 2 (enS2 encI (enSl 1 encI)) (b))), (8, some (.row none 40 true 2 (enS2 encI (enSl 1 encI)) (hs)))]) 9 (fun (⟨b, hs, e, lv, rv, i2, h2⟩ : Atoms × Atoms × Bool × Int × Int × Int × Int) => .agg [.own 7, .own 8, .t none (.v (.bool (e))), .t none (.v (.int .i64 (lv))), .t none (.v (.int .i64 (rv)))]) := by
 refine mu_enterG Tryz.func108 rfl (Nat.le_of_ble_eq_true rfl) fun v0 w S M hM => ?_
 refine tsr ?_
 refine r_op (o_alloc 1 (zs := [.slice none 0 0, .slice none 0 0, .bool (false), .int .i64 (0), .int .i64 (0)]) rfl rfl (by kernel_rfl) rfl) ?_
 refine etr ?_
 refine r_op oM ?_
 refine r_opX (o_callGM 0 2 9 (pv := some (v0)) (Go.Proofs.enters_of Tryz.func106 (by kernel_rfl) rfl) (c_spec_l9Rule (code) (i) (h) (by omega) (by omega) (by omega)) rfl rfl (.cur rfl .nil) rfl (fun ⟨_, _, _, _, _, _, _⟩ => rfl) (fun _ => rfl) (fun ⟨_, _, _, _, _, _, _⟩ => rfl) rfl rfl) ?_
 rintro ⟨⟨b1, hs2, e3, lv4, rv5, i26, h27⟩, hq8⟩
 try dsimp only at hq8
 try dsimp only
 obtain ⟨q9, q10, q11⟩ := hq8
 have kd : depL (b1, hs2, e3, lv4, rv5) := (by assumption); obtain ⟨k1, k2, k3, k4, k5, k6⟩ := kd; (try dsimp only at k1 k2 k3 k4 k5 k6); have sa := szA_L k3; have sb := szA_L k4; have k7 : ∀ z, b1[(0 : Int).toNat]? = some z → 1 ≤ z.2.length := fun z hz => (k3 z (List.mem_of_getElem? hz)).2.1.1; have k8 : hs2.length ≤ 2 := (by assumption)
 refine r_op (o_alloc 9 (zs := [.slice none 0 0, .slice none 0 0, .bool (false), .int .i64 (0), .int .i64 (0)]) rfl rfl (by kernel_rfl) rfl) ?_
 refine r_op (oS 5) ?_
 refine r_end ?_
 refine t_seq ?_
 refine tsr ?_
 refine r_op oM ?_
 refine r_opX (o_callGM 0 10 11 (pv := some (v0)) (Go.Proofs.enters_of Tryz.func81 (by kernel_rfl) rfl) (c_spec_l1Below ((code)) ((i26)) ((h27)) (12) (by omega) (by omega) (by omega) (by omega) (by omega)) rfl rfl (.cur rfl (.cons rfl .nil)) rfl (fun ⟨_, _, _⟩ => rfl) (fun _ => rfl) (fun ⟨_, _, _⟩ => rfl) rfl rfl) ?_
 rintro ⟨⟨x12, i213, h214⟩, hq15⟩
 try dsimp only at hq15
 try dsimp only
 obtain ⟨q16, q17⟩ := hq15
 refine r_end ?_
 refine t_block ?_
 refine tsr ?_
 refine r_op oB ?_
 refine r_op oA ?_
 refine r_end ?_
 refine t_cond rfl (fun h18 => ?_) (fun h18 => ?_)
 ·
  have h18' := of_decide_eq_true h18
  refine t_draw (fun i => !(Nat.beq i 3 || Nat.beq i 7)) (by kernel_rfl) ?_
  refine d_takeP 0 rfl rfl (by kernel_rfl) (by kernel_rfl) (by kernel_rfl) (pw_fieldb (off := 0) (by kernel_rfl) rfl) ?_
  refine dT 2 rfl pM ?_
  refine d_twoX 1 3 rfl rfl (by kernel_rfl) rfl rfl (osX oL) (o_callGM 0 11 12 (pv := some (v0)) (Go.Proofs.enters_of Tryz.func81 (by kernel_rfl) rfl) (c_spec_l1Below (((code))) ((i213)) ((h214)) (7) (by omega) (by omega) (by omega) (by omega) (by omega)) rfl rfl (.cur rfl (.cons rfl .nil)) rfl (fun ⟨_, _, _⟩ => rfl) (fun _ => rfl) (fun ⟨_, _, _⟩ => rfl) rfl rfl) ?_ ?_
  ·
   rintro ⟨⟩
   refine dOX 3 rfl (o_callGM 0 11 12 (pv := some (v0)) (Go.Proofs.enters_of Tryz.func81 (by kernel_rfl) rfl) (c_spec_l1Below (((code))) ((i213)) ((h214)) (7) (by omega) (by omega) (by omega) (by omega) (by omega)) rfl rfl (.cur rfl (.cons rfl .nil)) rfl (fun ⟨_, _, _⟩ => rfl) (fun _ => rfl) (fun ⟨_, _, _⟩ => rfl) rfl rfl) ?_
   rintro ⟨⟨x25, i226, h227⟩, hq28⟩
   try dsimp only at hq28
   try dsimp only
   obtain ⟨q29, q30⟩ := hq28
   refine dT 4 rfl pB ?_
   obtain ⟨z31, hz32, b33⟩ := at_get (xs := (b1)) (n := 0) (by omega) (by omega)
   refine dT 5 rfl (p_indexo (by kernel_rfl) rfl rfl rfl b33 (at_lt b33 hz32)) ?_
   refine dT 6 rfl (p_fieldo (off := 0) (by kernel_rfl) rfl) ?_
   refine dO 7 rfl (o_storeo ((IntKind.i64.wrap ((x25) - 1), z31.2)) (n := 1) (by kernel_rfl) rfl rfl hz32 rfl rfl rfl rfl (.cons .sc .nil) rfl (fun j h1 h2 => by (have : j = 0 ∨ j = 1 ∨ j = 2 ∨ j = 3 ∨ j = 4 := by omega); rcases this with rfl | rfl | rfl | rfl | rfl <;> first | rfl | (simp at h2; done))) ?_
   refine d_end (by kernel_rfl) ?_
   refine t_endblock ?_
   refine tsr ?_
   refine r_op (oC 5) ?_
   refine r_op (oS 5) ?_
   refine r_end ?_
   refine t_ret Tryz.func108 (.cells (n := 5) (by kernel_rfl) (by kernel_rfl) rfl rfl rfl .nil) rfl fun E S w u hI hd => ?_
   refine post_mkG (⟨((b1)).set ((0 : Int)).toNat ((IntKind.i64.wrap ((x25) - 1), z31.2)), (hs2), (e3), (lv4), (rv5), (i226), (h227)⟩) ?_ hI hd ?_ ⟨rfl, ⟨rfl, ⟨rfl, trivial⟩⟩⟩ rfl rfl <;> clear hI hd
   · (try dsimp only) <;> ((refine ⟨⟨by (simp only [List.length_set]; omega), k2, mem_set k3 (by have e8 := k3 _ (List.mem_of_getElem? hz32); exact ⟨by (try dsimp only); (try simp only [IntKind.wrap_i64] at *); omega, e8.2.1, e8.2.2⟩), k4, k5, k6⟩, by omega⟩; done))
   · rfl
  ·
   rintro ⟨⟨x19, i220, h221⟩, hq22⟩
   try dsimp only at hq22
   try dsimp only
   obtain ⟨q23, q24⟩ := hq22
   refine dT 1 rfl pL ?_
   refine dT 4 rfl pB ?_
   obtain ⟨z34, hz35, b36⟩ := at_get (xs := (b1)) (n := 0) (by omega) (by omega)
   refine dT 5 rfl (p_indexo (by kernel_rfl) rfl rfl rfl b36 (at_lt b36 hz35)) ?_
   refine dT 6 rfl (p_fieldo (off := 0) (by kernel_rfl) rfl) ?_
   refine dO 7 rfl (o_storeo ((IntKind.i64.wrap ((x19) - 1), z34.2)) (n := 1) (by kernel_rfl) rfl rfl hz35 rfl rfl rfl rfl (.cons .sc .nil) rfl (fun j h1 h2 => by (have : j = 0 ∨ j = 1 ∨ j = 2 ∨ j = 3 ∨ j = 4 := by omega); rcases this with rfl | rfl | rfl | rfl | rfl <;> first | rfl | (simp at h2; done))) ?_
   refine d_end (by kernel_rfl) ?_
   refine t_endblock ?_
   refine tsr ?_
   refine r_op (oC 5) ?_
   refine r_op (oS 5) ?_
   refine r_end ?_
   refine t_ret Tryz.func108 (.cells (n := 5) (by kernel_rfl) (by kernel_rfl) rfl rfl rfl .nil) rfl fun E S w u hI hd => ?_
   refine post_mkG (⟨((b1)).set ((0 : Int)).toNat ((IntKind.i64.wrap ((x19) - 1), z34.2)), (hs2), (e3), (lv4), (rv5), (i220), (h221)⟩) ?_ hI hd ?_ ⟨rfl, ⟨rfl, ⟨rfl, trivial⟩⟩⟩ rfl rfl <;> clear hI hd
   · (try dsimp only) <;> ((refine ⟨⟨by (simp only [List.length_set]; omega), k2, mem_set k3 (by have e8 := k3 _ (List.mem_of_getElem? hz35); exact ⟨by (try dsimp only); (try simp only [IntKind.wrap_i64] at *); omega, e8.2.1, e8.2.2⟩), k4, k5, k6⟩, by omega⟩; done))
   · rfl
 ·
  have h18' := of_decide_eq_false h18
  refine tsr ?_
  refine r_op oB ?_
  refine r_op oA ?_
  refine r_end ?_
  refine t_cond rfl (fun h37 => ?_) (fun h37 => ?_)
  ·
   have h37' := of_decide_eq_true h37
   obtain ⟨z38, hz39, b40⟩ := at_get (xs := (b1)) (n := (0 : Int)) (by omega) (by omega)
   refine gt_takeH 11 7 ((0 : Int)).toNat 1 rfl rfl hz39 rfl rfl fun e41 v42 => ?_
   refine t_draw (fun i => !(Nat.beq i 7 || Nat.beq i 9)) (by kernel_rfl) ?_
   refine d_takeP 0 rfl rfl (by kernel_rfl) (by kernel_rfl) (by kernel_rfl) (pw_fieldb (off := 0) (by kernel_rfl) rfl) ?_
   refine dT 5 rfl pM ?_
   refine d_two 1 6 rfl rfl (by kernel_rfl) rfl rfl oL (o_litN 12 (e := 3) (sz := 1) (zs := [.int .i64 (0)]) (enc := encI) [5, -11, 4] rfl rfl (by kernel_rfl) rfl rfl rfl rfl rfl rfl rfl rfl (.cons .sc (.cons .sc (.cons .sc .nil))) rfl) ?_ ?_
   ·
    obtain ⟨z43, hz44, b45⟩ := at_get (xs := holeL ((b1)) (((0 : Int)).toNat) z38 1 v42) (n := 0) (by omega) (by (rw [holeL_len]; omega))
    refine d_two 2 6 rfl rfl (by kernel_rfl) rfl rfl (o_indexo rfl (by kernel_rfl) rfl rfl rfl b45 (at_lt b45 hz44)) (o_litN 12 (e := 3) (sz := 1) (zs := [.int .i64 (0)]) (enc := encI) [5, -11, 4] rfl rfl (by kernel_rfl) rfl rfl rfl rfl rfl rfl rfl rfl (.cons .sc (.cons .sc (.cons .sc .nil))) rfl) ?_ ?_
    ·
     refine d_two 3 6 rfl rfl (by kernel_rfl) rfl rfl (o_fieldo rfl (off := 1) (by kernel_rfl) rfl) (o_litN 12 (e := 3) (sz := 1) (zs := [.int .i64 (0)]) (enc := encI) [5, -11, 4] rfl rfl (by kernel_rfl) rfl rfl rfl rfl rfl rfl rfl rfl (.cons .sc (.cons .sc (.cons .sc .nil))) rfl) ?_ ?_
     ·
      refine d_two 4 6 rfl rfl (by kernel_rfl) rfl rfl (o_loadH rfl (k := 11) (by kernel_rfl) rfl rfl rfl (by omega) rfl) (o_litN 12 (e := 3) (sz := 1) (zs := [.int .i64 (0)]) (enc := encI) [5, -11, 4] rfl rfl (by kernel_rfl) rfl rfl rfl rfl rfl rfl rfl rfl (.cons .sc (.cons .sc (.cons .sc .nil))) rfl) ?_ ?_
      ·
       refine dO 6 rfl (o_litN 12 (e := 3) (sz := 1) (zs := [.int .i64 (0)]) (enc := encI) [5, -11, 4] rfl rfl (by kernel_rfl) rfl rfl rfl rfl rfl rfl rfl rfl (.cons .sc (.cons .sc (.cons .sc .nil))) rfl) ?_
       refine d_freeze 12 rfl (frz_cur (i := 12) hM rfl rfl rfl) ?_
       refine dOX 7 rfl (o_callGM 0 13 14 (pv := some (v0)) (Go.Proofs.enters_of Tryz.func120 (by kernel_rfl) rfl) (c_spec_l1PickInt (((code))) ((i213)) ((h214)) ([5, -11, 4]) (by omega) (by omega) (by omega) (by (simp only [List.length_cons, List.length_nil]; omega)) (by (simp only [List.length_cons, List.length_nil]; omega))) rfl rfl (.cur rfl (.cons rfl .nil)) rfl (fun ⟨_, _, _⟩ => rfl) (fun _ => rfl) (fun ⟨_, _, _⟩ => rfl) rfl rfl) ?_
       rintro ⟨⟨x46, i247, h248⟩, hq49⟩
       try dsimp only at hq49
       try dsimp only
       obtain ⟨q50, q51⟩ := hq49
       obtain ⟨z52, hz53, b54⟩ := at_get (xs := z38.2) (n := 0) (by omega) (by (have e7 := k7 _ (by assumption); omega))
       refine dT 8 rfl (p_indexo (by kernel_rfl) rfl rfl rfl b54 (at_lt b54 hz53)) ?_
       refine dO 9 rfl (o_storeo ((x46)) (n := 1) (by kernel_rfl) rfl rfl hz53 rfl rfl rfl rfl (.cons .sc .nil) rfl (fun j h1 h2 => by (simp at h1 h2; omega))) ?_
       refine d_end (by kernel_rfl) ?_
       refine t_endblock ?_
       refine t_seq ?_
       refine gt_putH 11 7 (((0 : Int)).toNat) 1 ((z38.1, (z38.2).set ((0 : Int)).toNat ((x46)))) rfl rfl rfl (List.getElem?_eq_some_iff.1 hz39).1 rfl (fun j hj => by (have : j = 0 ∨ j = 1 := by omega); rcases this with rfl | rfl <;> rfl) ?_
       refine t_region ?_
       refine r_op (oC 5) ?_
       refine r_op (oS 5) ?_
       refine r_end ?_
       refine t_ret Tryz.func108 (.cells (n := 5) (by kernel_rfl) (by kernel_rfl) rfl rfl rfl .nil) rfl fun E S w u hI hd => ?_
       refine post_mkG (⟨((b1)).set (((0 : Int)).toNat) ((z38.1, (z38.2).set ((0 : Int)).toNat ((x46)))), (hs2), (e3), (lv4), (rv5), (i247), (h248)⟩) ?_ hI hd ?_ ⟨rfl, ⟨rfl, ⟨rfl, trivial⟩⟩⟩ rfl rfl <;> clear hI hd
       · (try dsimp only) <;> ((refine ⟨⟨by (simp only [List.length_set]; omega), k2, mem_set k3 (by have e8 := k3 _ (List.mem_of_getElem? hz39); exact ⟨e8.1, by (simp only [List.length_set]; exact e8.2.1), mem_set e8.2.2 (by have e9 := pick3 (by assumption); omega)⟩), k4, k5, k6⟩, by omega⟩; done))
       · rfl
      ·
       refine d_freeze 12 rfl (frz_cur (i := 12) hM rfl rfl rfl) ?_
       refine d_twoX 4 7 rfl rfl (by kernel_rfl) rfl rfl (osX (o_loadH rfl (k := 11) (by kernel_rfl) rfl rfl rfl (by omega) rfl)) (o_callGM 0 13 14 (pv := some (v0)) (Go.Proofs.enters_of Tryz.func120 (by kernel_rfl) rfl) (c_spec_l1PickInt (((code))) ((i213)) ((h214)) ([5, -11, 4]) (by omega) (by omega) (by omega) (by (simp only [List.length_cons, List.length_nil]; omega)) (by (simp only [List.length_cons, List.length_nil]; omega))) rfl rfl (.cur rfl (.cons rfl .nil)) rfl (fun ⟨_, _, _⟩ => rfl) (fun _ => rfl) (fun ⟨_, _, _⟩ => rfl) rfl rfl) ?_ ?_
       ·
        rintro ⟨⟩
        refine dOX 7 rfl (o_callGM 0 13 14 (pv := some (v0)) (Go.Proofs.enters_of Tryz.func120 (by kernel_rfl) rfl) (c_spec_l1PickInt (((code))) ((i213)) ((h214)) ([5, -11, 4]) (by omega) (by omega) (by omega) (by (simp only [List.length_cons, List.length_nil]; omega)) (by (simp only [List.length_cons, List.length_nil]; omega))) rfl rfl (.cur rfl (.cons rfl .nil)) rfl (fun ⟨_, _, _⟩ => rfl) (fun _ => rfl) (fun ⟨_, _, _⟩ => rfl) rfl rfl) ?_
        rintro ⟨⟨x61, i262, h263⟩, hq64⟩
        try dsimp only at hq64
        try dsimp only
        obtain ⟨q65, q66⟩ := hq64
        obtain ⟨z67, hz68, b69⟩ := at_get (xs := z38.2) (n := 0) (by omega) (by (have e7 := k7 _ (by assumption); omega))
        refine dT 8 rfl (p_indexo (by kernel_rfl) rfl rfl rfl b69 (at_lt b69 hz68)) ?_
        refine dO 9 rfl (o_storeo ((x61)) (n := 1) (by kernel_rfl) rfl rfl hz68 rfl rfl rfl rfl (.cons .sc .nil) rfl (fun j h1 h2 => by (simp at h1 h2; omega))) ?_
        refine d_end (by kernel_rfl) ?_
        refine t_endblock ?_
        refine t_seq ?_
        refine gt_putH 11 7 (((0 : Int)).toNat) 1 ((z38.1, (z38.2).set ((0 : Int)).toNat ((x61)))) rfl rfl rfl (List.getElem?_eq_some_iff.1 hz39).1 rfl (fun j hj => by (have : j = 0 ∨ j = 1 := by omega); rcases this with rfl | rfl <;> rfl) ?_
        refine t_region ?_
        refine r_op (oC 5) ?_
        refine r_op (oS 5) ?_
        refine r_end ?_
        refine t_ret Tryz.func108 (.cells (n := 5) (by kernel_rfl) (by kernel_rfl) rfl rfl rfl .nil) rfl fun E S w u hI hd => ?_
        refine post_mkG (⟨((b1)).set (((0 : Int)).toNat) ((z38.1, (z38.2).set ((0 : Int)).toNat ((x61)))), (hs2), (e3), (lv4), (rv5), (i262), (h263)⟩) ?_ hI hd ?_ ⟨rfl, ⟨rfl, ⟨rfl, trivial⟩⟩⟩ rfl rfl <;> clear hI hd
        · (try dsimp only) <;> ((refine ⟨⟨by (simp only [List.length_set]; omega), k2, mem_set k3 (by have e8 := k3 _ (List.mem_of_getElem? hz39); exact ⟨e8.1, by (simp only [List.length_set]; exact e8.2.1), mem_set e8.2.2 (by have e9 := pick3 (by assumption); omega)⟩), k4, k5, k6⟩, by omega⟩; done))
        · rfl
       ·
        rintro ⟨⟨x55, i256, h257⟩, hq58⟩
        try dsimp only at hq58
        try dsimp only
        obtain ⟨q59, q60⟩ := hq58
        refine dT 4 rfl (p_loadH (k := 11) (by kernel_rfl) rfl rfl rfl (by omega) rfl) ?_
        obtain ⟨z70, hz71, b72⟩ := at_get (xs := z38.2) (n := 0) (by omega) (by (have e7 := k7 _ (by assumption); omega))
        refine dT 8 rfl (p_indexo (by kernel_rfl) rfl rfl rfl b72 (at_lt b72 hz71)) ?_
        refine dO 9 rfl (o_storeo ((x55)) (n := 1) (by kernel_rfl) rfl rfl hz71 rfl rfl rfl rfl (.cons .sc .nil) rfl (fun j h1 h2 => by (simp at h1 h2; omega))) ?_
        refine d_end (by kernel_rfl) ?_
        refine t_endblock ?_
        refine t_seq ?_
        refine gt_putH 11 7 (((0 : Int)).toNat) 1 ((z38.1, (z38.2).set ((0 : Int)).toNat ((x55)))) rfl rfl rfl (List.getElem?_eq_some_iff.1 hz39).1 rfl (fun j hj => by (have : j = 0 ∨ j = 1 := by omega); rcases this with rfl | rfl <;> rfl) ?_
        refine t_region ?_
        refine r_op (oC 5) ?_
        refine r_op (oS 5) ?_
        refine r_end ?_
        refine t_ret Tryz.func108 (.cells (n := 5) (by kernel_rfl) (by kernel_rfl) rfl rfl rfl .nil) rfl fun E S w u hI hd => ?_
        refine post_mkG (⟨((b1)).set (((0 : Int)).toNat) ((z38.1, (z38.2).set ((0 : Int)).toNat ((x55)))), (hs2), (e3), (lv4), (rv5), (i256), (h257)⟩) ?_ hI hd ?_ ⟨rfl, ⟨rfl, ⟨rfl, trivial⟩⟩⟩ rfl rfl <;> clear hI hd
        · (try dsimp only) <;> ((refine ⟨⟨by (simp only [List.length_set]; omega), k2, mem_set k3 (by have e8 := k3 _ (List.mem_of_getElem? hz39); exact ⟨e8.1, by (simp only [List.length_set]; exact e8.2.1), mem_set e8.2.2 (by have e9 := pick3 (by assumption); omega)⟩), k4, k5, k6⟩, by omega⟩; done))
        · rfl
     ·
      refine d_freeze 12 rfl (frz_cur (i := 12) hM rfl rfl rfl) ?_
      refine d_twoX 3 7 rfl rfl (by kernel_rfl) rfl rfl (osX (o_fieldo rfl (off := 1) (by kernel_rfl) rfl)) (o_callGM 0 13 14 (pv := some (v0)) (Go.Proofs.enters_of Tryz.func120 (by kernel_rfl) rfl) (c_spec_l1PickInt (((code))) ((i213)) ((h214)) ([5, -11, 4]) (by omega) (by omega) (by omega) (by (simp only [List.length_cons, List.length_nil]; omega)) (by (simp only [List.length_cons, List.length_nil]; omega))) rfl rfl (.cur rfl (.cons rfl .nil)) rfl (fun ⟨_, _, _⟩ => rfl) (fun _ => rfl) (fun ⟨_, _, _⟩ => rfl) rfl rfl) ?_ ?_
      ·
       rintro ⟨⟩
       refine d_twoX 4 7 rfl rfl (by kernel_rfl) rfl rfl (osX (o_loadH rfl (k := 11) (by kernel_rfl) rfl rfl rfl (by omega) rfl)) (o_callGM 0 13 14 (pv := some (v0)) (Go.Proofs.enters_of Tryz.func120 (by kernel_rfl) rfl) (c_spec_l1PickInt (((code))) ((i213)) ((h214)) ([5, -11, 4]) (by omega) (by omega) (by omega) (by (simp only [List.length_cons, List.length_nil]; omega)) (by (simp only [List.length_cons, List.length_nil]; omega))) rfl rfl (.cur rfl (.cons rfl .nil)) rfl (fun ⟨_, _, _⟩ => rfl) (fun _ => rfl) (fun ⟨_, _, _⟩ => rfl) rfl rfl) ?_ ?_
       ·
        rintro ⟨⟩
        refine dOX 7 rfl (o_callGM 0 13 14 (pv := some (v0)) (Go.Proofs.enters_of Tryz.func120 (by kernel_rfl) rfl) (c_spec_l1PickInt (((code))) ((i213)) ((h214)) ([5, -11, 4]) (by omega) (by omega) (by omega) (by (simp only [List.length_cons, List.length_nil]; omega)) (by (simp only [List.length_cons, List.length_nil]; omega))) rfl rfl (.cur rfl (.cons rfl .nil)) rfl (fun ⟨_, _, _⟩ => rfl) (fun _ => rfl) (fun ⟨_, _, _⟩ => rfl) rfl rfl) ?_
        rintro ⟨⟨x85, i286, h287⟩, hq88⟩
        try dsimp only at hq88
        try dsimp only
        obtain ⟨q89, q90⟩ := hq88
        obtain ⟨z91, hz92, b93⟩ := at_get (xs := z38.2) (n := 0) (by omega) (by (have e7 := k7 _ (by assumption); omega))
        refine dT 8 rfl (p_indexo (by kernel_rfl) rfl rfl rfl b93 (at_lt b93 hz92)) ?_
        refine dO 9 rfl (o_storeo ((x85)) (n := 1) (by kernel_rfl) rfl rfl hz92 rfl rfl rfl rfl (.cons .sc .nil) rfl (fun j h1 h2 => by (simp at h1 h2; omega))) ?_
        refine d_end (by kernel_rfl) ?_
        refine t_endblock ?_
        refine t_seq ?_
        refine gt_putH 11 7 (((0 : Int)).toNat) 1 ((z38.1, (z38.2).set ((0 : Int)).toNat ((x85)))) rfl rfl rfl (List.getElem?_eq_some_iff.1 hz39).1 rfl (fun j hj => by (have : j = 0 ∨ j = 1 := by omega); rcases this with rfl | rfl <;> rfl) ?_
        refine t_region ?_
        refine r_op (oC 5) ?_
        refine r_op (oS 5) ?_
        refine r_end ?_
        refine t_ret Tryz.func108 (.cells (n := 5) (by kernel_rfl) (by kernel_rfl) rfl rfl rfl .nil) rfl fun E S w u hI hd => ?_
        refine post_mkG (⟨((b1)).set (((0 : Int)).toNat) ((z38.1, (z38.2).set ((0 : Int)).toNat ((x85)))), (hs2), (e3), (lv4), (rv5), (i286), (h287)⟩) ?_ hI hd ?_ ⟨rfl, ⟨rfl, ⟨rfl, trivial⟩⟩⟩ rfl rfl <;> clear hI hd
        · (try dsimp only) <;> ((refine ⟨⟨by (simp only [List.length_set]; omega), k2, mem_set k3 (by have e8 := k3 _ (List.mem_of_getElem? hz39); exact ⟨e8.1, by (simp only [List.length_set]; exact e8.2.1), mem_set e8.2.2 (by have e9 := pick3 (by assumption); omega)⟩), k4, k5, k6⟩, by omega⟩; done))
        · rfl
       ·
        rintro ⟨⟨x79, i280, h281⟩, hq82⟩
        try dsimp only at hq82
        try dsimp only
        obtain ⟨q83, q84⟩ := hq82
        refine dT 4 rfl (p_loadH (k := 11) (by kernel_rfl) rfl rfl rfl (by omega) rfl) ?_
        obtain ⟨z94, hz95, b96⟩ := at_get (xs := z38.2) (n := 0) (by omega) (by (have e7 := k7 _ (by assumption); omega))
        refine dT 8 rfl (p_indexo (by kernel_rfl) rfl rfl rfl b96 (at_lt b96 hz95)) ?_
        refine dO 9 rfl (o_storeo ((x79)) (n := 1) (by kernel_rfl) rfl rfl hz95 rfl rfl rfl rfl (.cons .sc .nil) rfl (fun j h1 h2 => by (simp at h1 h2; omega))) ?_
        refine d_end (by kernel_rfl) ?_
        refine t_endblock ?_
        refine t_seq ?_
        refine gt_putH 11 7 (((0 : Int)).toNat) 1 ((z38.1, (z38.2).set ((0 : Int)).toNat ((x79)))) rfl rfl rfl (List.getElem?_eq_some_iff.1 hz39).1 rfl (fun j hj => by (have : j = 0 ∨ j = 1 := by omega); rcases this with rfl | rfl <;> rfl) ?_
        refine t_region ?_
        refine r_op (oC 5) ?_
        refine r_op (oS 5) ?_
        refine r_end ?_
        refine t_ret Tryz.func108 (.cells (n := 5) (by kernel_rfl) (by kernel_rfl) rfl rfl rfl .nil) rfl fun E S w u hI hd => ?_
        refine post_mkG (⟨((b1)).set (((0 : Int)).toNat) ((z38.1, (z38.2).set ((0 : Int)).toNat ((x79)))), (hs2), (e3), (lv4), (rv5), (i280), (h281)⟩) ?_ hI hd ?_ ⟨rfl, ⟨rfl, ⟨rfl, trivial⟩⟩⟩ rfl rfl <;> clear hI hd
        · (try dsimp only) <;> ((refine ⟨⟨by (simp only [List.length_set]; omega), k2, mem_set k3 (by have e8 := k3 _ (List.mem_of_getElem? hz39); exact ⟨e8.1, by (simp only [List.length_set]; exact e8.2.1), mem_set e8.2.2 (by have e9 := pick3 (by assumption); omega)⟩), k4, k5, k6⟩, by omega⟩; done))
        · rfl
      ·
       rintro ⟨⟨x73, i274, h275⟩, hq76⟩
       try dsimp only at hq76
       try dsimp only
       obtain ⟨q77, q78⟩ := hq76
       refine dT 3 rfl (p_fieldo (off := 1) (by kernel_rfl) rfl) ?_
       refine dT 4 rfl (p_loadH (k := 11) (by kernel_rfl) rfl rfl rfl (by omega) rfl) ?_
       obtain ⟨z97, hz98, b99⟩ := at_get (xs := z38.2) (n := 0) (by omega) (by (have e7 := k7 _ (by assumption); omega))
       refine dT 8 rfl (p_indexo (by kernel_rfl) rfl rfl rfl b99 (at_lt b99 hz98)) ?_
       refine dO 9 rfl (o_storeo ((x73)) (n := 1) (by kernel_rfl) rfl rfl hz98 rfl rfl rfl rfl (.cons .sc .nil) rfl (fun j h1 h2 => by (simp at h1 h2; omega))) ?_
       refine d_end (by kernel_rfl) ?_
       refine t_endblock ?_
       refine t_seq ?_
       refine gt_putH 11 7 (((0 : Int)).toNat) 1 ((z38.1, (z38.2).set ((0 : Int)).toNat ((x73)))) rfl rfl rfl (List.getElem?_eq_some_iff.1 hz39).1 rfl (fun j hj => by (have : j = 0 ∨ j = 1 := by omega); rcases this with rfl | rfl <;> rfl) ?_
       refine t_region ?_
       refine r_op (oC 5) ?_
       refine r_op (oS 5) ?_
       refine r_end ?_
       refine t_ret Tryz.func108 (.cells (n := 5) (by kernel_rfl) (by kernel_rfl) rfl rfl rfl .nil) rfl fun E S w u hI hd => ?_
       refine post_mkG (⟨((b1)).set (((0 : Int)).toNat) ((z38.1, (z38.2).set ((0 : Int)).toNat ((x73)))), (hs2), (e3), (lv4), (rv5), (i274), (h275)⟩) ?_ hI hd ?_ ⟨rfl, ⟨rfl, ⟨rfl, trivial⟩⟩⟩ rfl rfl <;> clear hI hd
       · (try dsimp only) <;> ((refine ⟨⟨by (simp only [List.length_set]; omega), k2, mem_set k3 (by have e8 := k3 _ (List.mem_of_getElem? hz39); exact ⟨e8.1, by (simp only [List.length_set]; exact e8.2.1), mem_set e8.2.2 (by have e9 := pick3 (by assumption); omega)⟩), k4, k5, k6⟩, by omega⟩; done))
       · rfl
    ·
     refine d_freeze 12 rfl (frz_cur (i := 12) hM rfl rfl rfl) ?_
     obtain ⟨z100, hz101, b102⟩ := at_get (xs := holeL ((b1)) (((0 : Int)).toNat) z38 1 v42) (n := 0) (by omega) (by (rw [holeL_len]; omega))
     refine d_twoX 2 7 rfl rfl (by kernel_rfl) rfl rfl (osX (o_indexo rfl (by kernel_rfl) rfl rfl rfl b102 (at_lt b102 hz101))) (o_callGM 0 13 14 (pv := some (v0)) (Go.Proofs.enters_of Tryz.func120 (by kernel_rfl) rfl) (c_spec_l1PickInt (((code))) ((i213)) ((h214)) ([5, -11, 4]) (by omega) (by omega) (by omega) (by (simp only [List.length_cons, List.length_nil]; omega)) (by (simp only [List.length_cons, List.length_nil]; omega))) rfl rfl (.cur rfl (.cons rfl .nil)) rfl (fun ⟨_, _, _⟩ => rfl) (fun _ => rfl) (fun ⟨_, _, _⟩ => rfl) rfl rfl) ?_ ?_
     ·
      rintro ⟨⟩
      refine d_twoX 3 7 rfl rfl (by kernel_rfl) rfl rfl (osX (o_fieldo rfl (off := 1) (by kernel_rfl) rfl)) (o_callGM 0 13 14 (pv := some (v0)) (Go.Proofs.enters_of Tryz.func120 (by kernel_rfl) rfl) (c_spec_l1PickInt (((code))) ((i213)) ((h214)) ([5, -11, 4]) (by omega) (by omega) (by omega) (by (simp only [List.length_cons, List.length_nil]; omega)) (by (simp only [List.length_cons, List.length_nil]; omega))) rfl rfl (.cur rfl (.cons rfl .nil)) rfl (fun ⟨_, _, _⟩ => rfl) (fun _ => rfl) (fun ⟨_, _, _⟩ => rfl) rfl rfl) ?_ ?_
      ·
       rintro ⟨⟩
       refine d_twoX 4 7 rfl rfl (by kernel_rfl) rfl rfl (osX (o_loadH rfl (k := 11) (by kernel_rfl) rfl rfl rfl (by omega) rfl)) (o_callGM 0 13 14 (pv := some (v0)) (Go.Proofs.enters_of Tryz.func120 (by kernel_rfl) rfl) (c_spec_l1PickInt (((code))) ((i213)) ((h214)) ([5, -11, 4]) (by omega) (by omega) (by omega) (by (simp only [List.length_cons, List.length_nil]; omega)) (by (simp only [List.length_cons, List.length_nil]; omega))) rfl rfl (.cur rfl (.cons rfl .nil)) rfl (fun ⟨_, _, _⟩ => rfl) (fun _ => rfl) (fun ⟨_, _, _⟩ => rfl) rfl rfl) ?_ ?_
       ·
        rintro ⟨⟩
        refine dOX 7 rfl (o_callGM 0 13 14 (pv := some (v0)) (Go.Proofs.enters_of Tryz.func120 (by kernel_rfl) rfl) (c_spec_l1PickInt (((code))) ((i213)) ((h214)) ([5, -11, 4]) (by omega) (by omega) (by omega) (by (simp only [List.length_cons, List.length_nil]; omega)) (by (simp only [List.length_cons, List.length_nil]; omega))) rfl rfl (.cur rfl (.cons rfl .nil)) rfl (fun ⟨_, _, _⟩ => rfl) (fun _ => rfl) (fun ⟨_, _, _⟩ => rfl) rfl rfl) ?_
        rintro ⟨⟨x121, i2122, h2123⟩, hq124⟩
        try dsimp only at hq124
        try dsimp only
        obtain ⟨q125, q126⟩ := hq124
        obtain ⟨z127, hz128, b129⟩ := at_get (xs := z38.2) (n := 0) (by omega) (by (have e7 := k7 _ (by assumption); omega))
        refine dT 8 rfl (p_indexo (by kernel_rfl) rfl rfl rfl b129 (at_lt b129 hz128)) ?_
        refine dO 9 rfl (o_storeo ((x121)) (n := 1) (by kernel_rfl) rfl rfl hz128 rfl rfl rfl rfl (.cons .sc .nil) rfl (fun j h1 h2 => by (simp at h1 h2; omega))) ?_
        refine d_end (by kernel_rfl) ?_
        refine t_endblock ?_
        refine t_seq ?_
        refine gt_putH 11 7 (((0 : Int)).toNat) 1 ((z38.1, (z38.2).set ((0 : Int)).toNat ((x121)))) rfl rfl rfl (List.getElem?_eq_some_iff.1 hz39).1 rfl (fun j hj => by (have : j = 0 ∨ j = 1 := by omega); rcases this with rfl | rfl <;> rfl) ?_
        refine t_region ?_
        refine r_op (oC 5) ?_
        refine r_op (oS 5) ?_
        refine r_end ?_
        refine t_ret Tryz.func108 (.cells (n := 5) (by kernel_rfl) (by kernel_rfl) rfl rfl rfl .nil) rfl fun E S w u hI hd => ?_
        refine post_mkG (⟨((b1)).set (((0 : Int)).toNat) ((z38.1, (z38.2).set ((0 : Int)).toNat ((x121)))), (hs2), (e3), (lv4), (rv5), (i2122), (h2123)⟩) ?_ hI hd ?_ ⟨rfl, ⟨rfl, ⟨rfl, trivial⟩⟩⟩ rfl rfl <;> clear hI hd
        · (try dsimp only) <;> ((refine ⟨⟨by (simp only [List.length_set]; omega), k2, mem_set k3 (by have e8 := k3 _ (List.mem_of_getElem? hz39); exact ⟨e8.1, by (simp only [List.length_set]; exact e8.2.1), mem_set e8.2.2 (by have e9 := pick3 (by assumption); omega)⟩), k4, k5, k6⟩, by omega⟩; done))
        · rfl
       ·
        rintro ⟨⟨x115, i2116, h2117⟩, hq118⟩
        try dsimp only at hq118
        try dsimp only
        obtain ⟨q119, q120⟩ := hq118
        refine dT 4 rfl (p_loadH (k := 11) (by kernel_rfl) rfl rfl rfl (by omega) rfl) ?_
        obtain ⟨z130, hz131, b132⟩ := at_get (xs := z38.2) (n := 0) (by omega) (by (have e7 := k7 _ (by assumption); omega))
        refine dT 8 rfl (p_indexo (by kernel_rfl) rfl rfl rfl b132 (at_lt b132 hz131)) ?_
        refine dO 9 rfl (o_storeo ((x115)) (n := 1) (by kernel_rfl) rfl rfl hz131 rfl rfl rfl rfl (.cons .sc .nil) rfl (fun j h1 h2 => by (simp at h1 h2; omega))) ?_
        refine d_end (by kernel_rfl) ?_
        refine t_endblock ?_
        refine t_seq ?_
        refine gt_putH 11 7 (((0 : Int)).toNat) 1 ((z38.1, (z38.2).set ((0 : Int)).toNat ((x115)))) rfl rfl rfl (List.getElem?_eq_some_iff.1 hz39).1 rfl (fun j hj => by (have : j = 0 ∨ j = 1 := by omega); rcases this with rfl | rfl <;> rfl) ?_
        refine t_region ?_
        refine r_op (oC 5) ?_
        refine r_op (oS 5) ?_
        refine r_end ?_
        refine t_ret Tryz.func108 (.cells (n := 5) (by kernel_rfl) (by kernel_rfl) rfl rfl rfl .nil) rfl fun E S w u hI hd => ?_
        refine post_mkG (⟨((b1)).set (((0 : Int)).toNat) ((z38.1, (z38.2).set ((0 : Int)).toNat ((x115)))), (hs2), (e3), (lv4), (rv5), (i2116), (h2117)⟩) ?_ hI hd ?_ ⟨rfl, ⟨rfl, ⟨rfl, trivial⟩⟩⟩ rfl rfl <;> clear hI hd
        · (try dsimp only) <;> ((refine ⟨⟨by (simp only [List.length_set]; omega), k2, mem_set k3 (by have e8 := k3 _ (List.mem_of_getElem? hz39); exact ⟨e8.1, by (simp only [List.length_set]; exact e8.2.1), mem_set e8.2.2 (by have e9 := pick3 (by assumption); omega)⟩), k4, k5, k6⟩, by omega⟩; done))
        · rfl
      ·
       rintro ⟨⟨x109, i2110, h2111⟩, hq112⟩
       try dsimp only at hq112
       try dsimp only
       obtain ⟨q113, q114⟩ := hq112
       refine dT 3 rfl (p_fieldo (off := 1) (by kernel_rfl) rfl) ?_
       refine dT 4 rfl (p_loadH (k := 11) (by kernel_rfl) rfl rfl rfl (by omega) rfl) ?_
       obtain ⟨z133, hz134, b135⟩ := at_get (xs := z38.2) (n := 0) (by omega) (by (have e7 := k7 _ (by assumption); omega))
       refine dT 8 rfl (p_indexo (by kernel_rfl) rfl rfl rfl b135 (at_lt b135 hz134)) ?_
       refine dO 9 rfl (o_storeo ((x109)) (n := 1) (by kernel_rfl) rfl rfl hz134 rfl rfl rfl rfl (.cons .sc .nil) rfl (fun j h1 h2 => by (simp at h1 h2; omega))) ?_
       refine d_end (by kernel_rfl) ?_
       refine t_endblock ?_
       refine t_seq ?_
       refine gt_putH 11 7 (((0 : Int)).toNat) 1 ((z38.1, (z38.2).set ((0 : Int)).toNat ((x109)))) rfl rfl rfl (List.getElem?_eq_some_iff.1 hz39).1 rfl (fun j hj => by (have : j = 0 ∨ j = 1 := by omega); rcases this with rfl | rfl <;> rfl) ?_
       refine t_region ?_
       refine r_op (oC 5) ?_
       refine r_op (oS 5) ?_
       refine r_end ?_
       refine t_ret Tryz.func108 (.cells (n := 5) (by kernel_rfl) (by kernel_rfl) rfl rfl rfl .nil) rfl fun E S w u hI hd => ?_
       refine post_mkG (⟨((b1)).set (((0 : Int)).toNat) ((z38.1, (z38.2).set ((0 : Int)).toNat ((x109)))), (hs2), (e3), (lv4), (rv5), (i2110), (h2111)⟩) ?_ hI hd ?_ ⟨rfl, ⟨rfl, ⟨rfl, trivial⟩⟩⟩ rfl rfl <;> clear hI hd
       · (try dsimp only) <;> ((refine ⟨⟨by (simp only [List.length_set]; omega), k2, mem_set k3 (by have e8 := k3 _ (List.mem_of_getElem? hz39); exact ⟨e8.1, by (simp only [List.length_set]; exact e8.2.1), mem_set e8.2.2 (by have e9 := pick3 (by assumption); omega)⟩), k4, k5, k6⟩, by omega⟩; done))
       · rfl
     ·
      rintro ⟨⟨x103, i2104, h2105⟩, hq106⟩
      try dsimp only at hq106
      try dsimp only
      obtain ⟨q107, q108⟩ := hq106
      obtain ⟨z136, hz137, b138⟩ := at_get (xs := holeL ((b1)) (((0 : Int)).toNat) z38 1 v42) (n := 0) (by omega) (by (rw [holeL_len]; omega))
      refine dT 2 rfl (p_indexo (by kernel_rfl) rfl rfl rfl b138 (at_lt b138 hz137)) ?_
      refine dT 3 rfl (p_fieldo (off := 1) (by kernel_rfl) rfl) ?_
      refine dT 4 rfl (p_loadH (k := 11) (by kernel_rfl) rfl rfl rfl (by omega) rfl) ?_
      obtain ⟨z139, hz140, b141⟩ := at_get (xs := z38.2) (n := 0) (by omega) (by (have e7 := k7 _ (by assumption); omega))
      refine dT 8 rfl (p_indexo (by kernel_rfl) rfl rfl rfl b141 (at_lt b141 hz140)) ?_
      refine dO 9 rfl (o_storeo ((x103)) (n := 1) (by kernel_rfl) rfl rfl hz140 rfl rfl rfl rfl (.cons .sc .nil) rfl (fun j h1 h2 => by (simp at h1 h2; omega))) ?_
      refine d_end (by kernel_rfl) ?_
      refine t_endblock ?_
      refine t_seq ?_
      refine gt_putH 11 7 (((0 : Int)).toNat) 1 ((z38.1, (z38.2).set ((0 : Int)).toNat ((x103)))) rfl rfl rfl (List.getElem?_eq_some_iff.1 hz39).1 rfl (fun j hj => by (have : j = 0 ∨ j = 1 := by omega); rcases this with rfl | rfl <;> rfl) ?_
      refine t_region ?_
      refine r_op (oC 5) ?_
      refine r_op (oS 5) ?_
      refine r_end ?_
      refine t_ret Tryz.func108 (.cells (n := 5) (by kernel_rfl) (by kernel_rfl) rfl rfl rfl .nil) rfl fun E S w u hI hd => ?_
      refine post_mkG (⟨((b1)).set (((0 : Int)).toNat) ((z38.1, (z38.2).set ((0 : Int)).toNat ((x103)))), (hs2), (e3), (lv4), (rv5), (i2104), (h2105)⟩) ?_ hI hd ?_ ⟨rfl, ⟨rfl, ⟨rfl, trivial⟩⟩⟩ rfl rfl <;> clear hI hd
      · (try dsimp only) <;> ((refine ⟨⟨by (simp only [List.length_set]; omega), k2, mem_set k3 (by have e8 := k3 _ (List.mem_of_getElem? hz39); exact ⟨e8.1, by (simp only [List.length_set]; exact e8.2.1), mem_set e8.2.2 (by have e9 := pick3 (by assumption); omega)⟩), k4, k5, k6⟩, by omega⟩; done))
      · rfl
   ·
    refine d_freeze 12 rfl (frz_cur (i := 12) hM rfl rfl rfl) ?_
    refine d_twoX 1 7 rfl rfl (by kernel_rfl) rfl rfl (osX oL) (o_callGM 0 13 14 (pv := some (v0)) (Go.Proofs.enters_of Tryz.func120 (by kernel_rfl) rfl) (c_spec_l1PickInt (((code))) ((i213)) ((h214)) ([5, -11, 4]) (by omega) (by omega) (by omega) (by (simp only [List.length_cons, List.length_nil]; omega)) (by (simp only [List.length_cons, List.length_nil]; omega))) rfl rfl (.cur rfl (.cons rfl .nil)) rfl (fun ⟨_, _, _⟩ => rfl) (fun _ => rfl) (fun ⟨_, _, _⟩ => rfl) rfl rfl) ?_ ?_
    ·
     rintro ⟨⟩
     obtain ⟨z148, hz149, b150⟩ := at_get (xs := holeL ((b1)) (((0 : Int)).toNat) z38 1 v42) (n := 0) (by omega) (by (rw [holeL_len]; omega))
     refine d_twoX 2 7 rfl rfl (by kernel_rfl) rfl rfl (osX (o_indexo rfl (by kernel_rfl) rfl rfl rfl b150 (at_lt b150 hz149))) (o_callGM 0 13 14 (pv := some (v0)) (Go.Proofs.enters_of Tryz.func120 (by kernel_rfl) rfl) (c_spec_l1PickInt (((code))) ((i213)) ((h214)) ([5, -11, 4]) (by omega) (by omega) (by omega) (by (simp only [List.length_cons, List.length_nil]; omega)) (by (simp only [List.length_cons, List.length_nil]; omega))) rfl rfl (.cur rfl (.cons rfl .nil)) rfl (fun ⟨_, _, _⟩ => rfl) (fun _ => rfl) (fun ⟨_, _, _⟩ => rfl) rfl rfl) ?_ ?_
     ·
      rintro ⟨⟩
      refine d_twoX 3 7 rfl rfl (by kernel_rfl) rfl rfl (osX (o_fieldo rfl (off := 1) (by kernel_rfl) rfl)) (o_callGM 0 13 14 (pv := some (v0)) (Go.Proofs.enters_of Tryz.func120 (by kernel_rfl) rfl) (c_spec_l1PickInt (((code))) ((i213)) ((h214)) ([5, -11, 4]) (by omega) (by omega) (by omega) (by (simp only [List.length_cons, List.length_nil]; omega)) (by (simp only [List.length_cons, List.length_nil]; omega))) rfl rfl (.cur rfl (.cons rfl .nil)) rfl (fun ⟨_, _, _⟩ => rfl) (fun _ => rfl) (fun ⟨_, _, _⟩ => rfl) rfl rfl) ?_ ?_
      ·
       rintro ⟨⟩
       refine d_twoX 4 7 rfl rfl (by kernel_rfl) rfl rfl (osX (o_loadH rfl (k := 11) (by kernel_rfl) rfl rfl rfl (by omega) rfl)) (o_callGM 0 13 14 (pv := some (v0)) (Go.Proofs.enters_of Tryz.func120 (by kernel_rfl) rfl) (c_spec_l1PickInt (((code))) ((i213)) ((h214)) ([5, -11, 4]) (by omega) (by omega) (by omega) (by (simp only [List.length_cons, List.length_nil]; omega)) (by (simp only [List.length_cons, List.length_nil]; omega))) rfl rfl (.cur rfl (.cons rfl .nil)) rfl (fun ⟨_, _, _⟩ => rfl) (fun _ => rfl) (fun ⟨_, _, _⟩ => rfl) rfl rfl) ?_ ?_
       ·
        rintro ⟨⟩
        refine dOX 7 rfl (o_callGM 0 13 14 (pv := some (v0)) (Go.Proofs.enters_of Tryz.func120 (by kernel_rfl) rfl) (c_spec_l1PickInt (((code))) ((i213)) ((h214)) ([5, -11, 4]) (by omega) (by omega) (by omega) (by (simp only [List.length_cons, List.length_nil]; omega)) (by (simp only [List.length_cons, List.length_nil]; omega))) rfl rfl (.cur rfl (.cons rfl .nil)) rfl (fun ⟨_, _, _⟩ => rfl) (fun _ => rfl) (fun ⟨_, _, _⟩ => rfl) rfl rfl) ?_
        rintro ⟨⟨x169, i2170, h2171⟩, hq172⟩
        try dsimp only at hq172
        try dsimp only
        obtain ⟨q173, q174⟩ := hq172
        obtain ⟨z175, hz176, b177⟩ := at_get (xs := z38.2) (n := 0) (by omega) (by (have e7 := k7 _ (by assumption); omega))
        refine dT 8 rfl (p_indexo (by kernel_rfl) rfl rfl rfl b177 (at_lt b177 hz176)) ?_
        refine dO 9 rfl (o_storeo ((x169)) (n := 1) (by kernel_rfl) rfl rfl hz176 rfl rfl rfl rfl (.cons .sc .nil) rfl (fun j h1 h2 => by (simp at h1 h2; omega))) ?_
        refine d_end (by kernel_rfl) ?_
        refine t_endblock ?_
        refine t_seq ?_
        refine gt_putH 11 7 (((0 : Int)).toNat) 1 ((z38.1, (z38.2).set ((0 : Int)).toNat ((x169)))) rfl rfl rfl (List.getElem?_eq_some_iff.1 hz39).1 rfl (fun j hj => by (have : j = 0 ∨ j = 1 := by omega); rcases this with rfl | rfl <;> rfl) ?_
        refine t_region ?_
        refine r_op (oC 5) ?_
        refine r_op (oS 5) ?_
        refine r_end ?_
        refine t_ret Tryz.func108 (.cells (n := 5) (by kernel_rfl) (by kernel_rfl) rfl rfl rfl .nil) rfl fun E S w u hI hd => ?_
        refine post_mkG (⟨((b1)).set (((0 : Int)).toNat) ((z38.1, (z38.2).set ((0 : Int)).toNat ((x169)))), (hs2), (e3), (lv4), (rv5), (i2170), (h2171)⟩) ?_ hI hd ?_ ⟨rfl, ⟨rfl, ⟨rfl, trivial⟩⟩⟩ rfl rfl <;> clear hI hd
        · (try dsimp only) <;> ((refine ⟨⟨by (simp only [List.length_set]; omega), k2, mem_set k3 (by have e8 := k3 _ (List.mem_of_getElem? hz39); exact ⟨e8.1, by (simp only [List.length_set]; exact e8.2.1), mem_set e8.2.2 (by have e9 := pick3 (by assumption); omega)⟩), k4, k5, k6⟩, by omega⟩; done))
        · rfl
       ·
        rintro ⟨⟨x163, i2164, h2165⟩, hq166⟩
        try dsimp only at hq166
        try dsimp only
        obtain ⟨q167, q168⟩ := hq166
        refine dT 4 rfl (p_loadH (k := 11) (by kernel_rfl) rfl rfl rfl (by omega) rfl) ?_
        obtain ⟨z178, hz179, b180⟩ := at_get (xs := z38.2) (n := 0) (by omega) (by (have e7 := k7 _ (by assumption); omega))
        refine dT 8 rfl (p_indexo (by kernel_rfl) rfl rfl rfl b180 (at_lt b180 hz179)) ?_
        refine dO 9 rfl (o_storeo ((x163)) (n := 1) (by kernel_rfl) rfl rfl hz179 rfl rfl rfl rfl (.cons .sc .nil) rfl (fun j h1 h2 => by (simp at h1 h2; omega))) ?_
        refine d_end (by kernel_rfl) ?_
        refine t_endblock ?_
        refine t_seq ?_
        refine gt_putH 11 7 (((0 : Int)).toNat) 1 ((z38.1, (z38.2).set ((0 : Int)).toNat ((x163)))) rfl rfl rfl (List.getElem?_eq_some_iff.1 hz39).1 rfl (fun j hj => by (have : j = 0 ∨ j = 1 := by omega); rcases this with rfl | rfl <;> rfl) ?_
        refine t_region ?_
        refine r_op (oC 5) ?_
        refine r_op (oS 5) ?_
        refine r_end ?_
        refine t_ret Tryz.func108 (.cells (n := 5) (by kernel_rfl) (by kernel_rfl) rfl rfl rfl .nil) rfl fun E S w u hI hd => ?_
        refine post_mkG (⟨((b1)).set (((0 : Int)).toNat) ((z38.1, (z38.2).set ((0 : Int)).toNat ((x163)))), (hs2), (e3), (lv4), (rv5), (i2164), (h2165)⟩) ?_ hI hd ?_ ⟨rfl, ⟨rfl, ⟨rfl, trivial⟩⟩⟩ rfl rfl <;> clear hI hd
        · (try dsimp only) <;> ((refine ⟨⟨by (simp only [List.length_set]; omega), k2, mem_set k3 (by have e8 := k3 _ (List.mem_of_getElem? hz39); exact ⟨e8.1, by (simp only [List.length_set]; exact e8.2.1), mem_set e8.2.2 (by have e9 := pick3 (by assumption); omega)⟩), k4, k5, k6⟩, by omega⟩; done))
        · rfl
      ·
       rintro ⟨⟨x157, i2158, h2159⟩, hq160⟩
       try dsimp only at hq160
       try dsimp only
       obtain ⟨q161, q162⟩ := hq160
       refine dT 3 rfl (p_fieldo (off := 1) (by kernel_rfl) rfl) ?_
       refine dT 4 rfl (p_loadH (k := 11) (by kernel_rfl) rfl rfl rfl (by omega) rfl) ?_
       obtain ⟨z181, hz182, b183⟩ := at_get (xs := z38.2) (n := 0) (by omega) (by (have e7 := k7 _ (by assumption); omega))
       refine dT 8 rfl (p_indexo (by kernel_rfl) rfl rfl rfl b183 (at_lt b183 hz182)) ?_
       refine dO 9 rfl (o_storeo ((x157)) (n := 1) (by kernel_rfl) rfl rfl hz182 rfl rfl rfl rfl (.cons .sc .nil) rfl (fun j h1 h2 => by (simp at h1 h2; omega))) ?_
       refine d_end (by kernel_rfl) ?_
       refine t_endblock ?_
       refine t_seq ?_
       refine gt_putH 11 7 (((0 : Int)).toNat) 1 ((z38.1, (z38.2).set ((0 : Int)).toNat ((x157)))) rfl rfl rfl (List.getElem?_eq_some_iff.1 hz39).1 rfl (fun j hj => by (have : j = 0 ∨ j = 1 := by omega); rcases this with rfl | rfl <;> rfl) ?_
       refine t_region ?_
       refine r_op (oC 5) ?_
       refine r_op (oS 5) ?_
       refine r_end ?_
       refine t_ret Tryz.func108 (.cells (n := 5) (by kernel_rfl) (by kernel_rfl) rfl rfl rfl .nil) rfl fun E S w u hI hd => ?_
       refine post_mkG (⟨((b1)).set (((0 : Int)).toNat) ((z38.1, (z38.2).set ((0 : Int)).toNat ((x157)))), (hs2), (e3), (lv4), (rv5), (i2158), (h2159)⟩) ?_ hI hd ?_ ⟨rfl, ⟨rfl, ⟨rfl, trivial⟩⟩⟩ rfl rfl <;> clear hI hd
       · (try dsimp only) <;> ((refine ⟨⟨by (simp only [List.length_set]; omega), k2, mem_set k3 (by have e8 := k3 _ (List.mem_of_getElem? hz39); exact ⟨e8.1, by (simp only [List.length_set]; exact e8.2.1), mem_set e8.2.2 (by have e9 := pick3 (by assumption); omega)⟩), k4, k5, k6⟩, by omega⟩; done))
       · rfl
     ·
      rintro ⟨⟨x151, i2152, h2153⟩, hq154⟩
      try dsimp only at hq154
      try dsimp only
      obtain ⟨q155, q156⟩ := hq154
      obtain ⟨z184, hz185, b186⟩ := at_get (xs := holeL ((b1)) (((0 : Int)).toNat) z38 1 v42) (n := 0) (by omega) (by (rw [holeL_len]; omega))
      refine dT 2 rfl (p_indexo (by kernel_rfl) rfl rfl rfl b186 (at_lt b186 hz185)) ?_
      refine dT 3 rfl (p_fieldo (off := 1) (by kernel_rfl) rfl) ?_
      refine dT 4 rfl (p_loadH (k := 11) (by kernel_rfl) rfl rfl rfl (by omega) rfl) ?_
      obtain ⟨z187, hz188, b189⟩ := at_get (xs := z38.2) (n := 0) (by omega) (by (have e7 := k7 _ (by assumption); omega))
      refine dT 8 rfl (p_indexo (by kernel_rfl) rfl rfl rfl b189 (at_lt b189 hz188)) ?_
      refine dO 9 rfl (o_storeo ((x151)) (n := 1) (by kernel_rfl) rfl rfl hz188 rfl rfl rfl rfl (.cons .sc .nil) rfl (fun j h1 h2 => by (simp at h1 h2; omega))) ?_
      refine d_end (by kernel_rfl) ?_
      refine t_endblock ?_
      refine t_seq ?_
      refine gt_putH 11 7 (((0 : Int)).toNat) 1 ((z38.1, (z38.2).set ((0 : Int)).toNat ((x151)))) rfl rfl rfl (List.getElem?_eq_some_iff.1 hz39).1 rfl (fun j hj => by (have : j = 0 ∨ j = 1 := by omega); rcases this with rfl | rfl <;> rfl) ?_
      refine t_region ?_
      refine r_op (oC 5) ?_
      refine r_op (oS 5) ?_
      refine r_end ?_
      refine t_ret Tryz.func108 (.cells (n := 5) (by kernel_rfl) (by kernel_rfl) rfl rfl rfl .nil) rfl fun E S w u hI hd => ?_
      refine post_mkG (⟨((b1)).set (((0 : Int)).toNat) ((z38.1, (z38.2).set ((0 : Int)).toNat ((x151)))), (hs2), (e3), (lv4), (rv5), (i2152), (h2153)⟩) ?_ hI hd ?_ ⟨rfl, ⟨rfl, ⟨rfl, trivial⟩⟩⟩ rfl rfl <;> clear hI hd
      · (try dsimp only) <;> ((refine ⟨⟨by (simp only [List.length_set]; omega), k2, mem_set k3 (by have e8 := k3 _ (List.mem_of_getElem? hz39); exact ⟨e8.1, by (simp only [List.length_set]; exact e8.2.1), mem_set e8.2.2 (by have e9 := pick3 (by assumption); omega)⟩), k4, k5, k6⟩, by omega⟩; done))
      · rfl
    ·
     rintro ⟨⟨x142, i2143, h2144⟩, hq145⟩
     try dsimp only at hq145
     try dsimp only
     obtain ⟨q146, q147⟩ := hq145
     refine dT 1 rfl pL ?_
     obtain ⟨z190, hz191, b192⟩ := at_get (xs := holeL ((b1)) (((0 : Int)).toNat) z38 1 v42) (n := 0) (by omega) (by (rw [holeL_len]; omega))
     refine dT 2 rfl (p_indexo (by kernel_rfl) rfl rfl rfl b192 (at_lt b192 hz191)) ?_
     refine dT 3 rfl (p_fieldo (off := 1) (by kernel_rfl) rfl) ?_
     refine dT 4 rfl (p_loadH (k := 11) (by kernel_rfl) rfl rfl rfl (by omega) rfl) ?_
     obtain ⟨z193, hz194, b195⟩ := at_get (xs := z38.2) (n := 0) (by omega) (by (have e7 := k7 _ (by assumption); omega))
     refine dT 8 rfl (p_indexo (by kernel_rfl) rfl rfl rfl b195 (at_lt b195 hz194)) ?_
     refine dO 9 rfl (o_storeo ((x142)) (n := 1) (by kernel_rfl) rfl rfl hz194 rfl rfl rfl rfl (.cons .sc .nil) rfl (fun j h1 h2 => by (simp at h1 h2; omega))) ?_
     refine d_end (by kernel_rfl) ?_
     refine t_endblock ?_
     refine t_seq ?_
     refine gt_putH 11 7 (((0 : Int)).toNat) 1 ((z38.1, (z38.2).set ((0 : Int)).toNat ((x142)))) rfl rfl rfl (List.getElem?_eq_some_iff.1 hz39).1 rfl (fun j hj => by (have : j = 0 ∨ j = 1 := by omega); rcases this with rfl | rfl <;> rfl) ?_
     refine t_region ?_
     refine r_op (oC 5) ?_
     refine r_op (oS 5) ?_
     refine r_end ?_
     refine t_ret Tryz.func108 (.cells (n := 5) (by kernel_rfl) (by kernel_rfl) rfl rfl rfl .nil) rfl fun E S w u hI hd => ?_
     refine post_mkG (⟨((b1)).set (((0 : Int)).toNat) ((z38.1, (z38.2).set ((0 : Int)).toNat ((x142)))), (hs2), (e3), (lv4), (rv5), (i2143), (h2144)⟩) ?_ hI hd ?_ ⟨rfl, ⟨rfl, ⟨rfl, trivial⟩⟩⟩ rfl rfl <;> clear hI hd
     · (try dsimp only) <;> ((refine ⟨⟨by (simp only [List.length_set]; omega), k2, mem_set k3 (by have e8 := k3 _ (List.mem_of_getElem? hz39); exact ⟨e8.1, by (simp only [List.length_set]; exact e8.2.1), mem_set e8.2.2 (by have e9 := pick3 (by assumption); omega)⟩), k4, k5, k6⟩, by omega⟩; done))
     · rfl
  ·
   have h37' := of_decide_eq_false h37
   refine tsr ?_
   refine r_op oB ?_
   refine r_op oA ?_
   refine r_end ?_
   refine t_cond rfl (fun h196 => ?_) (fun h196 => ?_)
   ·
    have h196' := of_decide_eq_true h196
    refine t_region ?_
    refine r_op oM ?_
    refine r_opX (o_callGM 0 11 12 (pv := some (v0)) (Go.Proofs.enters_of Tryz.func81 (by kernel_rfl) rfl) (c_spec_l1Below (((code))) ((i213)) ((h214)) (4) (by omega) (by omega) (by omega) (by omega) (by omega)) rfl rfl (.cur rfl (.cons rfl .nil)) rfl (fun ⟨_, _, _⟩ => rfl) (fun _ => rfl) (fun ⟨_, _, _⟩ => rfl) rfl rfl) ?_
    rintro ⟨⟨x197, i2198, h2199⟩, hq200⟩
    try dsimp only at hq200
    try dsimp only
    obtain ⟨q201, q202⟩ := hq200
    refine r_op (oF 3) ?_
    refine r_op (oS 1) ?_
    refine r_end ?_
    refine t_endblock ?_
    refine tsr ?_
    refine r_op (oC 5) ?_
    refine r_op (oS 5) ?_
    refine r_end ?_
    refine t_ret Tryz.func108 (.cells (n := 5) (by kernel_rfl) (by kernel_rfl) rfl rfl rfl .nil) rfl fun E S w u hI hd => ?_
    refine post_mkG (⟨(b1), (hs2), (e3), (x197), (rv5), (i2198), (h2199)⟩) ?_ hI hd ?_ ⟨rfl, ⟨rfl, ⟨rfl, trivial⟩⟩⟩ rfl rfl <;> clear hI hd
    · (try dsimp only) <;> ((exact ⟨⟨k1, k2, k3, k4, by (try dsimp only); omega, k6⟩, by omega⟩))
    · rfl
   ·
    have h196' := of_decide_eq_false h196
    refine tsr ?_
    refine r_op oB ?_
    refine r_op oA ?_
    refine r_end ?_
    refine t_cond rfl (fun h203 => ?_) (fun h203 => ?_)
    ·
     have h203' := of_decide_eq_true h203
     refine t_region ?_
     refine r_op (oF 2) ?_
     refine r_op oL ?_
     refine r_op (o_not rfl rfl) ?_
     refine r_op (oF 2) ?_
     refine r_op (oS 1) ?_
     refine r_end ?_
     refine t_endblock ?_
     refine tsr ?_
     refine r_op (oC 5) ?_
     refine r_op (oS 5) ?_
     refine r_end ?_
     refine t_ret Tryz.func108 (.cells (n := 5) (by kernel_rfl) (by kernel_rfl) rfl rfl rfl .nil) rfl fun E S w u hI hd => ?_
     refine post_mkG (⟨(b1), (hs2), !((e3)), (lv4), (rv5), (i213), (h214)⟩) ?_ hI hd ?_ ⟨rfl, ⟨rfl, ⟨rfl, trivial⟩⟩⟩ rfl rfl <;> clear hI hd
     · (try dsimp only) <;> ((exact ⟨by assumption, by omega⟩))
     · rfl
    ·
     have h203' := of_decide_eq_false h203
     refine tsr ?_
     refine r_op oB ?_
     refine r_op oA ?_
     refine r_end ?_
     refine t_cond rfl (fun h204 => ?_) (fun h204 => ?_)
     ·
      have h204' := of_decide_eq_true h204
      refine t_draw (fun i => !(Nat.beq i 4 || Nat.beq i 5 || Nat.beq i 7 || Nat.beq i 9)) (by kernel_rfl) ?_
      refine d_takeP 0 rfl rfl (by kernel_rfl) (by kernel_rfl) (by kernel_rfl) (pw_fieldb (off := 1) (by kernel_rfl) rfl) ?_
      refine d_takeP 2 rfl rfl (by kernel_rfl) (by kernel_rfl) (by kernel_rfl) (pw_move rfl) ?_
      refine dT 3 rfl pM ?_
      refine d_twoX 1 4 rfl rfl (by kernel_rfl) rfl rfl (osX oL) (o_callGM 0 11 12 (pv := some (v0)) (Go.Proofs.enters_of Tryz.func81 (by kernel_rfl) rfl) (c_spec_l1Below (((code))) ((i213)) ((h214)) (5) (by omega) (by omega) (by omega) (by omega) (by omega)) rfl rfl (.cur rfl (.cons rfl .nil)) rfl (fun ⟨_, _, _⟩ => rfl) (fun _ => rfl) (fun ⟨_, _, _⟩ => rfl) rfl rfl) ?_ ?_
      ·
       rintro ⟨⟩
       refine dOX 4 rfl (o_callGM 0 11 12 (pv := some (v0)) (Go.Proofs.enters_of Tryz.func81 (by kernel_rfl) rfl) (c_spec_l1Below (((code))) ((i213)) ((h214)) (5) (by omega) (by omega) (by omega) (by omega) (by omega)) rfl rfl (.cur rfl (.cons rfl .nil)) rfl (fun ⟨_, _, _⟩ => rfl) (fun _ => rfl) (fun ⟨_, _, _⟩ => rfl) rfl rfl) ?_
       rintro ⟨⟨x211, i2212, h2213⟩, hq214⟩
       try dsimp only at hq214
       try dsimp only
       obtain ⟨q215, q216⟩ := hq214
       refine dOX 5 rfl (o_callGM 0 12 17 (pv := some (v0)) (Go.Proofs.enters_of Tryz.func160 (by kernel_rfl) rfl) (c_spec_l9Atom ((((code)))) ((i2212)) ((h2213)) ((x211)) (3) (by omega) (by omega) (by omega) (by omega) (by omega)) rfl rfl (.cur rfl (.cons rfl (.cons rfl .nil))) rfl (fun ⟨_, _, _⟩ => rfl) (fun _ => rfl) (fun ⟨_, _, _⟩ => rfl) rfl rfl) ?_
       rintro ⟨⟨ts217, i2218, h2219⟩, hq220⟩
       try dsimp only at hq220
       try dsimp only
       obtain ⟨q221, q222, q223⟩ := hq220
       have hy9 : ∀ x ∈ ts217, -3 ≤ x ∧ x ≤ 4 := (by assumption)
       refine dO 6 rfl (o_litS 17 (e := 40) (sz := 2) (zs := [.int .i64 (0), .slice none 0 0]) rfl rfl (by kernel_rfl) rfl rfl rfl rfl rfl) ?_
       refine dO 7 rfl (o_append 8 (e := 40) (sz := 2) (by' := 32) ((((x211)), (ts217))) rfl (by kernel_rfl) rfl rfl rfl rfl rfl rfl (.cons .sc (.take (.own rfl) rfl .nil)) rfl (by omega) (by omega)) ?_
       refine dT 8 rfl (pF 1) ?_
       refine dO 9 rfl (oS 1) ?_
       refine d_end (by kernel_rfl) ?_
       refine t_endblock ?_
       refine tsr ?_
       refine r_op (oC 5) ?_
       refine r_op (oS 5) ?_
       refine r_end ?_
       refine t_ret Tryz.func108 (.cells (n := 5) (by kernel_rfl) (by kernel_rfl) rfl rfl rfl .nil) rfl fun E S w u hI hd => ?_
       refine post_mkG (⟨(b1), (hs2) ++ [(((x211)), (ts217))], (e3), (lv4), (rv5), (i2218), (h2219)⟩) ?_ hI hd ?_ ⟨rfl, ⟨rfl, ⟨rfl, trivial⟩⟩⟩ rfl rfl <;> clear hI hd
       · (try dsimp only) <;> ((exact ⟨⟨k1, by (simp only [List.length_append, List.length_singleton]; omega), k3, mem_snoc k4 ⟨by (try dsimp only); omega, by (try dsimp only); omega, fun x hx => by have e9 := hy9 x hx; omega⟩, k5, k6⟩, by omega⟩))
       · rfl
      ·
       rintro ⟨⟨x205, i2206, h2207⟩, hq208⟩
       try dsimp only at hq208
       try dsimp only
       obtain ⟨q209, q210⟩ := hq208
       refine d_twoX 1 5 rfl rfl (by kernel_rfl) rfl rfl (osX oL) (o_callGM 0 12 17 (pv := some (v0)) (Go.Proofs.enters_of Tryz.func160 (by kernel_rfl) rfl) (c_spec_l9Atom ((((code)))) ((i2206)) ((h2207)) ((x205)) (3) (by omega) (by omega) (by omega) (by omega) (by omega)) rfl rfl (.cur rfl (.cons rfl (.cons rfl .nil))) rfl (fun ⟨_, _, _⟩ => rfl) (fun _ => rfl) (fun ⟨_, _, _⟩ => rfl) rfl rfl) ?_ ?_
       ·
        rintro ⟨⟩
        refine dOX 5 rfl (o_callGM 0 12 17 (pv := some (v0)) (Go.Proofs.enters_of Tryz.func160 (by kernel_rfl) rfl) (c_spec_l9Atom ((((code)))) ((i2206)) ((h2207)) ((x205)) (3) (by omega) (by omega) (by omega) (by omega) (by omega)) rfl rfl (.cur rfl (.cons rfl (.cons rfl .nil))) rfl (fun ⟨_, _, _⟩ => rfl) (fun _ => rfl) (fun ⟨_, _, _⟩ => rfl) rfl rfl) ?_
        rintro ⟨⟨ts231, i2232, h2233⟩, hq234⟩
        try dsimp only at hq234
        try dsimp only
        obtain ⟨q235, q236, q237⟩ := hq234
        have hy9 : ∀ x ∈ ts231, -3 ≤ x ∧ x ≤ 4 := (by assumption)
        refine dO 6 rfl (o_litS 17 (e := 40) (sz := 2) (zs := [.int .i64 (0), .slice none 0 0]) rfl rfl (by kernel_rfl) rfl rfl rfl rfl rfl) ?_
        refine dO 7 rfl (o_append 8 (e := 40) (sz := 2) (by' := 32) ((((x205)), (ts231))) rfl (by kernel_rfl) rfl rfl rfl rfl rfl rfl (.cons .sc (.take (.own rfl) rfl .nil)) rfl (by omega) (by omega)) ?_
        refine dT 8 rfl (pF 1) ?_
        refine dO 9 rfl (oS 1) ?_
        refine d_end (by kernel_rfl) ?_
        refine t_endblock ?_
        refine tsr ?_
        refine r_op (oC 5) ?_
        refine r_op (oS 5) ?_
        refine r_end ?_
        refine t_ret Tryz.func108 (.cells (n := 5) (by kernel_rfl) (by kernel_rfl) rfl rfl rfl .nil) rfl fun E S w u hI hd => ?_
        refine post_mkG (⟨(b1), (hs2) ++ [(((x205)), (ts231))], (e3), (lv4), (rv5), (i2232), (h2233)⟩) ?_ hI hd ?_ ⟨rfl, ⟨rfl, ⟨rfl, trivial⟩⟩⟩ rfl rfl <;> clear hI hd
        · (try dsimp only) <;> ((exact ⟨⟨k1, by (simp only [List.length_append, List.length_singleton]; omega), k3, mem_snoc k4 ⟨by (try dsimp only); omega, by (try dsimp only); omega, fun x hx => by have e9 := hy9 x hx; omega⟩, k5, k6⟩, by omega⟩))
        · rfl
       ·
        rintro ⟨⟨ts224, i2225, h2226⟩, hq227⟩
        try dsimp only at hq227
        try dsimp only
        obtain ⟨q228, q229, q230⟩ := hq227
        have hy9 : ∀ x ∈ ts224, -3 ≤ x ∧ x ≤ 4 := (by assumption)
        refine dT 1 rfl pL ?_
        refine dO 6 rfl (o_litS 17 (e := 40) (sz := 2) (zs := [.int .i64 (0), .slice none 0 0]) rfl rfl (by kernel_rfl) rfl rfl rfl rfl rfl) ?_
        refine dO 7 rfl (o_append 8 (e := 40) (sz := 2) (by' := 32) ((((x205)), (ts224))) rfl (by kernel_rfl) rfl rfl rfl rfl rfl rfl (.cons .sc (.take (.own rfl) rfl .nil)) rfl (by omega) (by omega)) ?_
        refine dT 8 rfl (pF 1) ?_
        refine dO 9 rfl (oS 1) ?_
        refine d_end (by kernel_rfl) ?_
        refine t_endblock ?_
        refine tsr ?_
        refine r_op (oC 5) ?_
        refine r_op (oS 5) ?_
        refine r_end ?_
        refine t_ret Tryz.func108 (.cells (n := 5) (by kernel_rfl) (by kernel_rfl) rfl rfl rfl .nil) rfl fun E S w u hI hd => ?_
        refine post_mkG (⟨(b1), (hs2) ++ [(((x205)), (ts224))], (e3), (lv4), (rv5), (i2225), (h2226)⟩) ?_ hI hd ?_ ⟨rfl, ⟨rfl, ⟨rfl, trivial⟩⟩⟩ rfl rfl <;> clear hI hd
        · (try dsimp only) <;> ((exact ⟨⟨k1, by (simp only [List.length_append, List.length_singleton]; omega), k3, mem_snoc k4 ⟨by (try dsimp only); omega, by (try dsimp only); omega, fun x hx => by have e9 := hy9 x hx; omega⟩, k5, k6⟩, by omega⟩))
        · rfl
     ·
      have h204' := of_decide_eq_false h204
      refine t_skip ?_
      refine t_endblock ?_
      refine tsr ?_
      refine r_op (oC 5) ?_
      refine r_op (oS 5) ?_
      refine r_end ?_
      refine t_ret Tryz.func108 (.cells (n := 5) (by kernel_rfl) (by kernel_rfl) rfl rfl rfl .nil) rfl fun E S w u hI hd => ?_
      refine post_mkG (⟨(b1), (hs2), (e3), (lv4), (rv5), (i213), (h214)⟩) ?_ hI hd ?_ ⟨rfl, ⟨rfl, ⟨rfl, trivial⟩⟩⟩ rfl rfl <;> clear hI hd
      · (try dsimp only) <;> ((exact ⟨by assumption, by omega⟩))
      · rfl
set_option maxHeartbeats 1000000 in
set_option maxRecDepth 10000 in
theorem c_spec_l11Both (code : List Int) (hc : code.length ≤ 1048576) : PuG Tryz.prog 48 [.c (.t none (.sl 1 encU (code)))] (fun (⟨rs, fs, b, hs, e, lv, rv, i2, h2⟩ : Rels × Atoms × Atoms × Atoms × Bool × Int × Int × Int × Int) => instL rs fs ∧ depL (b, hs, e, lv, rv) ∧ 0 ≤ i2 ∧ i2 ≤ code.length) (fun (⟨rs, fs, b, hs, e, lv, rv, i2, h2⟩ : Rels × Atoms × Atoms × Atoms × Bool × Int × Int × Int × Int) => [(2, some (.box [.t none (.sl 1 encU (code)), .t none (.v (.int .i64 (i2))), .t none (.v (.int .i64 (h2)))]))]) 3 (fun (⟨rs, fs, b, hs, e, lv, rv, i2, h2⟩ : Rels × Atoms × Atoms × Atoms × Bool × Int × Int × Int × Int) => .tup [(false, [.ptr 2 0]), (true, [.t none (.sl 3 (enS3 encS encI encB) (rs)), .t none (.sl 2 (enS2 encI (enSl 1 encI)) (fs))]), (true, [.t none (.sl 2 (enS2 encI (enSl 1 encI)) (b)), .t none (.sl 2 (enS2 encI (enSl 1 encI)) (hs)), .t none (.v (.bool (e))), .t none (.v (.int .i64 (lv))), .t none (.v (.int .i64 (rv)))])]) := by
 refine pu_enterG Tryz.func48 rfl (Nat.le_of_ble_eq_true rfl) fun w S => ?_
 refine tsr ?_
 refine r_op oA ?_
 refine r_op (o_alloc 0 (zs := [.slice none 0 0, .slice none 0 0]) rfl rfl (by kernel_rfl) rfl) ?_
 refine r_op (o_alloc 1 (zs := [.slice none 0 0, .slice none 0 0, .bool (false), .int .i64 (0), .int .i64 (0)]) rfl rfl (by kernel_rfl) rfl) ?_
 refine etr ?_
 refine r_op oM ?_
 refine r_opX (o_callG 2 3 (Go.Proofs.enters_of Tryz.func104 (by kernel_rfl) rfl) (c_spec_l1New (code) (by omega)) rfl (.cons rfl (.c .t0) .nil) rfl rfl) ?_
 rintro ⟨h1, hq2⟩
 try dsimp only at hq2
 try dsimp only
 refine r_op oA ?_
 refine etr ?_
 refine r_op oM ?_
 refine r_opX (o_callGM 2 3 4 (pv := none) (Go.Proofs.enters_of Tryz.func105 (by kernel_rfl) rfl) (c_spec_l11Inst ((code)) (0) ((h1)) (by omega) (by omega) (by omega)) rfl rfl (.cur rfl .nil) rfl (fun ⟨_, _, _, _⟩ => rfl) (fun _ => rfl) (fun ⟨_, _, _, _⟩ => rfl) rfl rfl) ?_
 rintro ⟨⟨rs4, fs5, i26, h27⟩, hq8⟩
 try dsimp only at hq8
 try dsimp only
 obtain ⟨q9, q10⟩ := hq8
 refine r_op (o_alloc 4 (zs := [.slice none 0 0, .slice none 0 0]) rfl rfl (by kernel_rfl) rfl) ?_
 refine r_op (oS 2) ?_
 refine etr ?_
 refine r_op oM ?_
 refine r_opX (o_callGM 2 5 12 (pv := none) (Go.Proofs.enters_of Tryz.func106 (by kernel_rfl) rfl) (c_spec_l9Rule (((code))) ((i26)) ((h27)) (by omega) (by omega) (by omega)) rfl rfl (.cur rfl .nil) rfl (fun ⟨_, _, _, _, _, _, _⟩ => rfl) (fun _ => rfl) (fun ⟨_, _, _, _, _, _, _⟩ => rfl) rfl rfl) ?_
 rintro ⟨⟨b11, hs12, e13, lv14, rv15, i216, h217⟩, hq18⟩
 try dsimp only at hq18
 try dsimp only
 obtain ⟨q19, q20, q21⟩ := hq18
 refine r_op (o_alloc 12 (zs := [.slice none 0 0, .slice none 0 0, .bool (false), .int .i64 (0), .int .i64 (0)]) rfl rfl (by kernel_rfl) rfl) ?_
 refine r_op (oS 5) ?_
 refine r_end ?_
 refine t_seq ?_
 refine tsr ?_
 refine r_op oM ?_
 refine r_opX (o_callGM 2 13 14 (pv := none) (Go.Proofs.enters_of Tryz.func81 (by kernel_rfl) rfl) (c_spec_l1Below ((((code)))) ((i216)) ((h217)) (16) (by omega) (by omega) (by omega) (by omega) (by omega)) rfl rfl (.cur rfl (.cons rfl .nil)) rfl (fun ⟨_, _, _⟩ => rfl) (fun _ => rfl) (fun ⟨_, _, _⟩ => rfl) rfl rfl) ?_
 rintro ⟨⟨x22, i223, h224⟩, hq25⟩
 try dsimp only at hq25
 try dsimp only
 obtain ⟨q26, q27⟩ := hq25
 refine r_end ?_
 refine t_block ?_
 refine tsr ?_
 refine r_op oB ?_
 refine r_op oA ?_
 refine r_end ?_
 refine t_cond rfl (fun h28 => ?_) (fun h28 => ?_)
 ·
  have h28' := of_decide_eq_true h28
  refine t_region ?_
  refine r_op oM ?_
  refine r_opX (o_callGM 2 14 15 (pv := none) (Go.Proofs.enters_of Tryz.func107 (by kernel_rfl) rfl) (c_spec_l5Any (((((code))))) ((i223)) ((h224)) (by omega) (by omega) (by omega)) rfl rfl (.cur rfl .nil) rfl (fun ⟨_, _, _, _⟩ => rfl) (fun _ => rfl) (fun ⟨_, _, _, _⟩ => rfl) rfl rfl) ?_
  rintro ⟨⟨rs29, fs30, i231, h232⟩, hq33⟩
  try dsimp only at hq33
  try dsimp only
  obtain ⟨q34, q35⟩ := hq33
  refine r_op (oS 2) ?_
  refine r_end ?_
  refine t_endblock ?_
  refine t_seq ?_
  refine t_draw (fun i => !(Nat.beq i 4 || Nat.beq i 5)) (by kernel_rfl) ?_
  refine dT 0 rfl pM ?_
  refine dT 1 rfl (pC 2) ?_
  refine dT 3 rfl pA ?_
  refine d_two 2 4 rfl rfl (by kernel_rfl) rfl rfl (oC 5) (oS 2) ?_ ?_
  ·
   refine dO 4 rfl (oS 2) ?_
   refine dO 5 rfl (oS 5) ?_
   refine d_end (by kernel_rfl) ?_
   refine gt_freeze 10 rfl (frz_pu rfl) ?_
   refine gt_freeze 11 rfl (frz_pu rfl) ?_
   refine t_ret Tryz.func48 (.tmp rfl (.cells (n := 2) (by kernel_rfl) (by kernel_rfl) rfl rfl rfl (.cells (n := 5) (by kernel_rfl) (by kernel_rfl) rfl rfl rfl .nil))) rfl fun E S w u hI hd => ?_
   refine post_mkG (⟨(rs29), (fs30), (b11), (hs12), (e13), (lv14), (rv15), (i231), (h232)⟩) ?_ hI hd ?_ ⟨rfl, trivial⟩ rfl rfl <;> clear hI hd
   · (try dsimp only) <;> (exact ⟨by assumption, by assumption, by omega⟩)
   · rfl
  ·
   refine dT 2 rfl (pC 5) ?_
   refine dO 5 rfl (oS 5) ?_
   refine d_end (by kernel_rfl) ?_
   refine gt_freeze 10 rfl (frz_pu rfl) ?_
   refine gt_freeze 11 rfl (frz_pu rfl) ?_
   refine t_ret Tryz.func48 (.tmp rfl (.cells (n := 2) (by kernel_rfl) (by kernel_rfl) rfl rfl rfl (.cells (n := 5) (by kernel_rfl) (by kernel_rfl) rfl rfl rfl .nil))) rfl fun E S w u hI hd => ?_
   refine post_mkG (⟨(rs29), (fs30), (b11), (hs12), (e13), (lv14), (rv15), (i231), (h232)⟩) ?_ hI hd ?_ ⟨rfl, trivial⟩ rfl rfl <;> clear hI hd
   · (try dsimp only) <;> (exact ⟨by assumption, by assumption, by omega⟩)
   · rfl
 ·
  have h28' := of_decide_eq_false h28
  refine tsr ?_
  refine r_op oB ?_
  refine r_op oA ?_
  refine r_end ?_
  refine t_cond rfl (fun h36 => ?_) (fun h36 => ?_)
  ·
   have h36' := of_decide_eq_true h36
   refine t_region ?_
   refine r_op oM ?_
   refine r_opX (o_callGM 2 14 23 (pv := none) (Go.Proofs.enters_of Tryz.func108 (by kernel_rfl) rfl) (c_spec_l9Any (((((code))))) ((i223)) ((h224)) (by omega) (by omega) (by omega)) rfl rfl (.cur rfl .nil) rfl (fun ⟨_, _, _, _, _, _, _⟩ => rfl) (fun _ => rfl) (fun ⟨_, _, _, _, _, _, _⟩ => rfl) rfl rfl) ?_
   rintro ⟨⟨b37, hs38, e39, lv40, rv41, i242, h243⟩, hq44⟩
   try dsimp only at hq44
   try dsimp only
   obtain ⟨q45, q46⟩ := hq44
   refine r_op (oS 5) ?_
   refine r_end ?_
   refine t_endblock ?_
   refine t_seq ?_
   refine t_draw (fun i => !(Nat.beq i 4 || Nat.beq i 5)) (by kernel_rfl) ?_
   refine dT 0 rfl pM ?_
   refine dT 1 rfl (pC 2) ?_
   refine dT 3 rfl pA ?_
   refine d_two 2 4 rfl rfl (by kernel_rfl) rfl rfl (oC 5) (oS 2) ?_ ?_
   ·
    refine dO 4 rfl (oS 2) ?_
    refine dO 5 rfl (oS 5) ?_
    refine d_end (by kernel_rfl) ?_
    refine gt_freeze 21 rfl (frz_pu rfl) ?_
    refine gt_freeze 22 rfl (frz_pu rfl) ?_
    refine t_ret Tryz.func48 (.tmp rfl (.cells (n := 2) (by kernel_rfl) (by kernel_rfl) rfl rfl rfl (.cells (n := 5) (by kernel_rfl) (by kernel_rfl) rfl rfl rfl .nil))) rfl fun E S w u hI hd => ?_
    refine post_mkG (⟨(rs4), (fs5), (b37), (hs38), (e39), (lv40), (rv41), (i242), (h243)⟩) ?_ hI hd ?_ ⟨rfl, trivial⟩ rfl rfl <;> clear hI hd
    · (try dsimp only) <;> (exact ⟨by assumption, by assumption, by omega⟩)
    · rfl
   ·
    refine dT 2 rfl (pC 5) ?_
    refine dO 5 rfl (oS 5) ?_
    refine d_end (by kernel_rfl) ?_
    refine gt_freeze 21 rfl (frz_pu rfl) ?_
    refine gt_freeze 22 rfl (frz_pu rfl) ?_
    refine t_ret Tryz.func48 (.tmp rfl (.cells (n := 2) (by kernel_rfl) (by kernel_rfl) rfl rfl rfl (.cells (n := 5) (by kernel_rfl) (by kernel_rfl) rfl rfl rfl .nil))) rfl fun E S w u hI hd => ?_
    refine post_mkG (⟨(rs4), (fs5), (b37), (hs38), (e39), (lv40), (rv41), (i242), (h243)⟩) ?_ hI hd ?_ ⟨rfl, trivial⟩ rfl rfl <;> clear hI hd
    · (try dsimp only) <;> (exact ⟨by assumption, by assumption, by omega⟩)
    · rfl
  ·
   have h36' := of_decide_eq_false h36
   refine t_skip ?_
   refine t_endblock ?_
   refine t_seq ?_
   refine t_draw (fun i => !(Nat.beq i 4 || Nat.beq i 5)) (by kernel_rfl) ?_
   refine dT 0 rfl pM ?_
   refine dT 1 rfl (pC 2) ?_
   refine dT 3 rfl pA ?_
   refine d_two 2 4 rfl rfl (by kernel_rfl) rfl rfl (oC 5) (oS 2) ?_ ?_
   ·
    refine dO 4 rfl (oS 2) ?_
    refine dO 5 rfl (oS 5) ?_
    refine d_end (by kernel_rfl) ?_
    refine gt_freeze 10 rfl (frz_pu rfl) ?_
    refine gt_freeze 11 rfl (frz_pu rfl) ?_
    refine t_ret Tryz.func48 (.tmp rfl (.cells (n := 2) (by kernel_rfl) (by kernel_rfl) rfl rfl rfl (.cells (n := 5) (by kernel_rfl) (by kernel_rfl) rfl rfl rfl .nil))) rfl fun E S w u hI hd => ?_
    refine post_mkG (⟨(rs4), (fs5), (b11), (hs12), (e13), (lv14), (rv15), (i223), (h224)⟩) ?_ hI hd ?_ ⟨rfl, trivial⟩ rfl rfl <;> clear hI hd
    · (try dsimp only) <;> (exact ⟨by assumption, by assumption, by omega⟩)
    · rfl
   ·
    refine dT 2 rfl (pC 5) ?_
    refine dO 5 rfl (oS 5) ?_
    refine d_end (by kernel_rfl) ?_
    refine gt_freeze 10 rfl (frz_pu rfl) ?_
    refine gt_freeze 11 rfl (frz_pu rfl) ?_
    refine t_ret Tryz.func48 (.tmp rfl (.cells (n := 2) (by kernel_rfl) (by kernel_rfl) rfl rfl rfl (.cells (n := 5) (by kernel_rfl) (by kernel_rfl) rfl rfl rfl .nil))) rfl fun E S w u hI hd => ?_
    refine post_mkG (⟨(rs4), (fs5), (b11), (hs12), (e13), (lv14), (rv15), (i223), (h224)⟩) ?_ hI hd ?_ ⟨rfl, trivial⟩ rfl rfl <;> clear hI hd
    · (try dsimp only) <;> (exact ⟨by assumption, by assumption, by omega⟩)
    · rfl
set_option maxHeartbeats 1000000 in
set_option maxRecDepth 10000 in
theorem c_spec_l1In (a0 a1 a2 : Int) : Pu Tryz.prog 121 [.c (.t none (.v (.int .i64 (a0)))), .c (.t none (.v (.int .i64 (a1)))), .c (.t none (.v (.int .i64 (a2))))] [] 0 (.c (.t none (.v (.bool (decide (a1 ≤ a0 ∧ a0 ≤ a2)))))) := by
 refine pu_enter Tryz.func121 rfl (Nat.le_of_ble_eq_true rfl) fun w S => ?_
 refine tsr ?_
 refine r_op oA ?_
 refine etr ?_
 refine r_op oM ?_
 refine r_op oM ?_
 refine r_op oB ?_
 refine r_op oM ?_
 refine r_guard rfl rfl rfl (fun g1 => ?_) (fun g1 => ?_)
 ·
  have g1' := of_decide_eq_true g1
  refine r_op oM ?_
  refine r_guard rfl rfl rfl (fun _ => ?_) (nc g1)
  refine r_op oM ?_
  refine r_guard rfl rfl rfl (fun _ => ?_) (nc g1)
  refine r_op oB ?_
  refine r_op (o_pickT rfl rfl g1 rfl) ?_
  refine r_op oA ?_
  refine r_end ?_
  refine t_ret Tryz.func121 (.tmp rfl .nil) rfl fun E S w u hI hd => ?_
  refine post_mk hI hd ?_ trivial rfl rfl rfl <;> clear hI hd
  all_goals (simp_all <;> omega)
 ·
  have g1' := of_decide_eq_false g1
  refine r_guard rfl rfl rfl (ncf g1) (fun _ => ?_)
  refine r_guard rfl rfl rfl (ncf g1) (fun _ => ?_)
  refine r_op (o_pickF rfl rfl g1 rfl) ?_
  refine r_op oA ?_
  refine r_end ?_
  refine t_ret Tryz.func121 (.tmp rfl .nil) rfl fun E S w u hI hd => ?_
  refine post_mk hI hd ?_ trivial rfl rfl rfl <;> clear hI hd
  all_goals (simp_all <;> omega)
set_option maxHeartbeats 1000000 in
set_option maxRecDepth 10000 in
theorem c_spec_IsValidRelation (n : List UInt8) (a : Int) (s : Bool) : Pu Tryz.prog 131 [.agg [.t none (.v (.string (mkS (n)))), .t none (.v (.int .i64 (a))), .t none (.v (.bool (s)))]] [] 0 (.c (.t none (.v (.bool (relOk (n, a, s)))))) := by
 refine pu_enter Tryz.func131 rfl (Nat.le_of_ble_eq_true rfl) fun w S => ?_
 refine tsr ?_
 refine r_op (o_box 0 rfl rfl rfl rfl) ?_
 refine r_op oA ?_
 refine etr ?_
 refine r_op (oF 0) ?_
 refine r_op oL ?_
 refine r_op (o_lenS rfl Tryz.underlying9 rfl) ?_
 refine r_op oB ?_
 refine r_op oM ?_
 refine r_guard rfl rfl rfl (fun g1 => ?_) (fun g1 => ?_)
 ·
  have g1' := of_decide_eq_true g1
  refine r_op (oF 0) ?_
  refine r_guard rfl rfl rfl (fun _ => ?_) (nc g1)
  refine r_op oL ?_
  refine r_guard rfl rfl rfl (fun _ => ?_) (nc g1)
  obtain ⟨z2, hz3, b4⟩ := at_get (xs := n) (n := 0) (by omega) (by omega)
  refine r_op (o_indexS rfl Tryz.underlying9 rfl rfl b4 hz3) ?_
  refine r_guard rfl rfl rfl (fun _ => ?_) (nc g1)
  refine r_op oB ?_
  refine r_op (o_pickT rfl rfl g1 rfl) ?_
  refine r_op oM ?_
  refine r_guard rfl rfl rfl (fun g5 => ?_) (fun g5 => ?_)
  ·
   have g5' := of_decide_eq_true g5
   refine r_op (oF 0) ?_
   refine r_guard rfl rfl rfl (fun _ => ?_) (nc g5)
   refine r_op oL ?_
   refine r_guard rfl rfl rfl (fun _ => ?_) (nc g5)
   refine r_op (o_indexS rfl Tryz.underlying9 rfl rfl b4 hz3) ?_
   refine r_guard rfl rfl rfl (fun _ => ?_) (nc g5)
   refine r_op oB ?_
   refine r_op (o_pickT rfl rfl g5 rfl) ?_
   refine r_op oM ?_
   refine r_guard rfl rfl rfl (fun g6 => ?_) (fun g6 => ?_)
   ·
    have g6' := of_decide_eq_true g6
    refine r_op (oF 1) ?_
    refine r_guard rfl rfl rfl (fun _ => ?_) (nc g6)
    refine r_op oL ?_
    refine r_guard rfl rfl rfl (fun _ => ?_) (nc g6)
    refine r_op (o_call 1 1 false (Go.Proofs.enters_of Tryz.func121 (by kernel_rfl) rfl) (c_spec_l1In (a) (1) (3)) rfl (.cons rfl (.c .t0) (.cons rfl (.c .t0) (.cons rfl (.c .t0) .nil))) rfl rfl rfl) ?_
    refine r_op (o_pickT rfl rfl g6 rfl) ?_
    refine r_op oA ?_
    refine r_end ?_
    refine t_ret Tryz.func131 (.tmp rfl .nil) rfl fun E S w u hI hd => ?_
    refine post_mk hI hd ?_ trivial rfl rfl rfl <;> clear hI hd
    all_goals (refine scB ?_; (obtain ⟨c, rfl⟩ := one_of (by assumption); simp at *; subst_vars; simp [relOk, nameOk]; omega))
   ·
    have g6' := of_decide_eq_false g6
    refine r_guard rfl rfl rfl (ncf g6) (fun _ => ?_)
    refine r_guard rfl rfl rfl (ncf g6) (fun _ => ?_)
    refine r_op (o_pickF rfl rfl g6 rfl) ?_
    refine r_op oA ?_
    refine r_end ?_
    refine t_ret Tryz.func131 (.tmp rfl .nil) rfl fun E S w u hI hd => ?_
    refine post_mk hI hd ?_ trivial rfl rfl rfl <;> clear hI hd
    all_goals (refine scB ?_; (obtain ⟨c, rfl⟩ := one_of (by assumption); simp at *; subst_vars; simp [relOk, nameOk]; omega))
  ·
   have g5' := of_decide_eq_false g5
   refine r_guard rfl rfl rfl (ncf g5) (fun _ => ?_)
   refine r_guard rfl rfl rfl (ncf g5) (fun _ => ?_)
   refine r_guard rfl rfl rfl (ncf g5) (fun _ => ?_)
   refine r_op (o_pickF rfl rfl g5 rfl) ?_
   refine r_op oM ?_
   refine r_guard rfl rfl rfl (ncf rfl) (fun _ => ?_)
   refine r_guard rfl rfl rfl (ncf rfl) (fun _ => ?_)
   refine r_guard rfl rfl rfl (ncf rfl) (fun _ => ?_)
   refine r_op (o_pickF rfl rfl rfl rfl) ?_
   refine r_op oA ?_
   refine r_end ?_
   refine t_ret Tryz.func131 (.tmp rfl .nil) rfl fun E S w u hI hd => ?_
   refine post_mk hI hd ?_ trivial rfl rfl rfl <;> clear hI hd
   all_goals (refine scB ?_; (obtain ⟨c, rfl⟩ := one_of (by assumption); simp at *; subst_vars; simp [relOk, nameOk]; omega))
 ·
  have g1' := of_decide_eq_false g1
  refine r_guard rfl rfl rfl (ncf g1) (fun _ => ?_)
  refine r_guard rfl rfl rfl (ncf g1) (fun _ => ?_)
  refine r_guard rfl rfl rfl (ncf g1) (fun _ => ?_)
  refine r_op (o_pickF rfl rfl g1 rfl) ?_
  refine r_op oM ?_
  refine r_guard rfl rfl rfl (ncf rfl) (fun _ => ?_)
  refine r_guard rfl rfl rfl (ncf rfl) (fun _ => ?_)
  refine r_guard rfl rfl rfl (ncf rfl) (fun _ => ?_)
  refine r_guard rfl rfl rfl (ncf rfl) (fun _ => ?_)
  refine r_op (o_pickF rfl rfl rfl rfl) ?_
  refine r_op oM ?_
  refine r_guard rfl rfl rfl (ncf rfl) (fun _ => ?_)
  refine r_guard rfl rfl rfl (ncf rfl) (fun _ => ?_)
  refine r_guard rfl rfl rfl (ncf rfl) (fun _ => ?_)
  refine r_op (o_pickF rfl rfl rfl rfl) ?_
  refine r_op oA ?_
  refine r_end ?_
  refine t_ret Tryz.func131 (.tmp rfl .nil) rfl fun E S w u hI hd => ?_
  refine post_mk hI hd ?_ trivial rfl rfl rfl <;> clear hI hd
  all_goals (refine scB ?_; (have e := nameOk_not (by assumption); simp [relOk, e]; done))
set_option maxHeartbeats 1000000 in
set_option maxRecDepth 10000 in
theorem c_spec_AreValidRelations (l : List (List UInt8 × Int × Bool)) (hl : l.length ≤ 4611686018427387904) : Pu Tryz.prog 76 [.c (.t none (.sl 3 (enS3 encS encI encB) (l)))] [] 0 (.c (.t none (.v (.bool (relsOk l))))) := by
 refine pu_enter Tryz.func76 rfl (Nat.le_of_ble_eq_true rfl) fun w S => ?_
 refine tsr ?_
 refine r_op oA ?_
 refine r_end ?_
 refine t_seq ?_
 refine tsr ?_
 refine r_op oA ?_
 refine r_end ?_
 refine t_block ?_
 refine t_loopL (fun m => ⟨[(0, some (.c (.t none (.sl 3 (enS3 encS encI encB) (l))))), (3, some (.c (.t none (.v (.int .i64 ((m : Int)))))))], [], 0⟩ : Nat → St) (fun m => m ≤ l.length ∧ ∀ j, j < m → relStep l j = true) (fun m => l.length - m) 0 ⟨⟨rfl, ⟨rfl, trivial⟩⟩, trivial, rfl⟩ (by exact ⟨Nat.zero_le _, fun j h => by omega⟩) ?_
 rintro m hI ih0
 try dsimp only at hI ih0
 obtain ⟨i1, i2⟩ := hI
 refine t_seq ?_
 refine tsr ?_
 refine r_op oM ?_
 refine r_op oM ?_
 refine r_op (o_len rfl rfl rfl) ?_
 refine r_op oB ?_
 refine r_end ?_
 refine t_cond rfl (fun h1 => ?_) (fun h1 => ?_)
 ·
  have h1' := of_decide_eq_true h1
  refine t_skip ?_
  refine t_seq ?_
  refine t_block ?_
  refine t_seq ?_
  refine t_draw (fun _ => true) (by kernel_rfl) ?_
  refine dT 0 rfl pM ?_
  refine dT 1 rfl pM ?_
  obtain ⟨z2, hz3, b4⟩ := at_get (xs := l) (n := (m : Int)) (by omega) (by omega)
  refine dT 2 rfl (p_index (by kernel_rfl) rfl rfl b4 hz3) ?_
  refine dT 3 rfl (p_loadA (n := 3) (by kernel_rfl) (by kernel_rfl) rfl rfl) ?_
  refine dO 4 rfl (o_call 0 0 false (Go.Proofs.enters_of Tryz.func131 (by kernel_rfl) rfl) (c_spec_IsValidRelation (z2.1) (z2.2.1) (z2.2.2)) rfl (.cons rfl (.agg (.cons .t0 (.cons .t0 (.cons .t0 .nil)))) .nil) rfl rfl rfl) ?_
  refine dT 5 rfl (p_not rfl) ?_
  refine dT 6 rfl pM ?_
  refine dH 7 rfl (fun _ => pM) (fun g5 => ?_) (fun g5 => ?_)
  ·
   have g5' := (bnf g5)
   refine dH 8 rfl (fun _ => pB) (fun _ => ?_) (ncf g5)
   refine dH 9 rfl (fun _ => pM) (fun _ => ?_) (ncf g5)
   refine dH 10 rfl (fun _ => pM) (fun g6 => ?_) (fun g6 => ?_)
   ·
    have g6' := of_decide_eq_true g6
    refine dH 11 rfl (fun _ => pM) (fun _ => ?_) (nc g6)
    refine dH 12 rfl (fun _ => pB) (fun _ => ?_) (nc g6)
    obtain ⟨z7, hz8, b9⟩ := at_get (xs := l) (n := IntKind.i64.wrap ((m : Int) - 1)) (by (simp only [IntKind.wrap_i64]; omega)) (by (simp only [IntKind.wrap_i64]; omega))
    refine dH 13 rfl (fun _ => p_index (by kernel_rfl) rfl rfl b9 hz8) (fun _ => ?_) (nc g6)
    refine dH 14 rfl (fun _ => p_field (off := 0) (by kernel_rfl) rfl) (fun _ => ?_) (nc g6)
    refine dH 15 rfl (fun _ => p_load1 (by kernel_rfl) rfl rfl) (fun _ => ?_) (nc g6)
    refine dH 16 rfl (fun _ => pM) (fun _ => ?_) (nc g6)
    refine dH 17 rfl (fun _ => pM) (fun _ => ?_) (nc g6)
    refine dH 18 rfl (fun _ => p_index (by kernel_rfl) rfl rfl b4 hz3) (fun _ => ?_) (nc g6)
    refine dH 19 rfl (fun _ => p_field (off := 0) (by kernel_rfl) rfl) (fun _ => ?_) (nc g6)
    refine dH 20 rfl (fun _ => p_load1 (by kernel_rfl) rfl rfl) (fun _ => ?_) (nc g6)
    refine dH 21 rfl (fun _ => p_str rfl rfl rfl) (fun _ => ?_) (nc g6)
    refine dH 22 rfl (fun _ => p_pickT rfl g6 rfl) (fun _ => ?_) (ncf g5)
    refine dT 23 rfl (p_pickF rfl g5 rfl) ?_
    refine d_end (by kernel_rfl) ?_
    refine t_cond rfl (fun h10 => ?_) (fun h10 => ?_)
    ·
     have h10' := (bnt h10)
     refine tsr ?_
     refine r_op oA ?_
     refine r_end ?_
     refine t_ret Tryz.func76 (.tmp rfl .nil) rfl fun E S w u hI hd => ?_
     refine post_mk hI hd ?_ trivial rfl rfl rfl <;> clear hI hd <;> (try clear ih0)
     all_goals (rw [relsOk_not (m := m) (by omega) (relStep_pos (n := (IntKind.i64.wrap ((m : Int) - 1)).toNat) (by assumption) (by assumption) (by omega) (by simp only [IntKind.wrap_i64]; omega) (by assumption) (by assumption))])
    ·
     have h10' := (bnf h10)
     refine t_skip ?_
     refine t_endblock ?_
     refine t_region ?_
     refine r_op oM ?_
     refine r_op oB ?_
     refine r_op oA ?_
     refine r_end ?_
     refine t_le ?_ (ih0 (m + 1) (by (try dsimp only); omega) (by (try dsimp only); exact ⟨by omega, step_all i2 (relStep_pos (n := (IntKind.i64.wrap ((m : Int) - 1)).toNat) (by assumption) (by assumption) (by omega) (by simp only [IntKind.wrap_i64]; omega) (by assumption) (by assumption))⟩))
     exact ⟨⟨rfl, ⟨(eqI (wr64 (by omega) (by omega))), trivial⟩⟩, trivial, rfl⟩
   ·
    have g6' := of_decide_eq_false g6
    refine dG 11 (ncf g6) (fun _ => ?_)
    refine dG 12 (ncf g6) (fun _ => ?_)
    refine dG 13 (ncf g6) (fun _ => ?_)
    refine dG 14 (ncf g6) (fun _ => ?_)
    refine dG 15 (ncf g6) (fun _ => ?_)
    refine dG 16 (ncf g6) (fun _ => ?_)
    refine dG 17 (ncf g6) (fun _ => ?_)
    refine dG 18 (ncf g6) (fun _ => ?_)
    refine dG 19 (ncf g6) (fun _ => ?_)
    refine dG 20 (ncf g6) (fun _ => ?_)
    refine dG 21 (ncf g6) (fun _ => ?_)
    refine dH 22 rfl (fun _ => p_pickF rfl g6 rfl) (fun _ => ?_) (ncf g5)
    refine dT 23 rfl (p_pickF rfl g5 rfl) ?_
    refine d_end (by kernel_rfl) ?_
    refine t_cond rfl (ncf rfl) (fun _ => ?_)
    refine t_skip ?_
    refine t_endblock ?_
    refine t_region ?_
    refine r_op oM ?_
    refine r_op oB ?_
    refine r_op oA ?_
    refine r_end ?_
    refine t_le ?_ (ih0 (m + 1) (by (try dsimp only); omega) (by (try dsimp only); exact ⟨by omega, step_all i2 (relStep_zero (by assumption) (by assumption) (by omega))⟩))
    exact ⟨⟨rfl, ⟨(eqI (wr64 (by omega) (by omega))), trivial⟩⟩, trivial, rfl⟩
  ·
   have g5' := (bnt g5)
   refine dG 8 (nc g5) (fun _ => ?_)
   refine dG 9 (nc g5) (fun _ => ?_)
   refine dK 10 ?_
   refine dK 11 ?_
   refine dK 12 ?_
   refine dK 13 ?_
   refine dK 14 ?_
   refine dK 15 ?_
   refine dK 16 ?_
   refine dK 17 ?_
   refine dK 18 ?_
   refine dK 19 ?_
   refine dK 20 ?_
   refine dK 21 ?_
   refine dG 22 (nc g5) (fun _ => ?_)
   refine dT 23 rfl (p_pickT rfl g5 rfl) ?_
   refine d_end (by kernel_rfl) ?_
   refine t_cond rfl (fun _ => ?_) (nc rfl)
   refine tsr ?_
   refine r_op oA ?_
   refine r_end ?_
   refine t_ret Tryz.func76 (.tmp rfl .nil) rfl fun E S w u hI hd => ?_
   refine post_mk hI hd ?_ trivial rfl rfl rfl <;> clear hI hd <;> (try clear ih0)
   all_goals (rw [relsOk_not (m := m) (by omega) (relStep_bad (by assumption) (by assumption))])
 ·
  have h1' := of_decide_eq_false h1
  refine t_exit rfl ?_
  refine tsr ?_
  refine r_op oM ?_
  refine r_op (o_len rfl rfl rfl) ?_
  refine r_op oB ?_
  refine r_op oA ?_
  refine r_end ?_
  refine t_ret Tryz.func76 (.tmp rfl .nil) rfl fun E S w u hI hd => ?_
  refine post_mk hI hd ?_ trivial rfl rfl rfl <;> clear hI hd <;> (try clear ih0)
  all_goals (rw [relsOk_end (m := m) i2 (by omega)]; exact scD (by omega))
set_option maxHeartbeats 1000000 in
set_option maxRecDepth 10000 in
theorem c_spec_IsValidAtom (rs : List (List UInt8 × Int × Bool)) (r : Int) (ts : List Int) (hrs : rs.length ≤ 4611686018427387904) (hts : ts.length ≤ 4611686018427387904) : Pu Tryz.prog 115 [.c (.t none (.sl 3 (enS3 encS encI encB) (rs))), .agg [.t none (.v (.int .i64 (r))), .t none (.sl 1 encI (ts))]] [] 0 (.c (.t none (.v (.bool (atomOk rs r ts))))) := by
 refine pu_enter Tryz.func115 rfl (Nat.le_of_ble_eq_true rfl) fun w S => ?_
 refine tsr ?_
 refine r_op (o_box 0 rfl rfl rfl rfl) ?_
 refine r_op oA ?_
 refine r_end ?_
 refine t_seq ?_
 refine t_seq ?_
 refine t_draw (fun _ => true) (by kernel_rfl) ?_
 refine dT 0 rfl pM ?_
 refine dO 1 rfl (o_call 1 1 false (Go.Proofs.enters_of Tryz.func76 (by kernel_rfl) rfl) (c_spec_AreValidRelations (rs) (by omega)) rfl (.cons rfl (.c .t0) .nil) rfl rfl rfl) ?_
 refine dT 2 rfl (p_not rfl) ?_
 refine dT 3 rfl pM ?_
 refine dH 4 rfl (fun _ => pF 0) (fun g1 => ?_) (fun g1 => ?_)
 ·
  have g1' := (bnf g1)
  refine dH 5 rfl (fun _ => pL) (fun _ => ?_) (ncf g1)
  refine dH 6 rfl (fun _ => pM) (fun _ => ?_) (ncf g1)
  refine dH 7 rfl (fun _ => p_len rfl rfl) (fun _ => ?_) (ncf g1)
  refine dH 8 rfl (fun _ => pB) (fun _ => ?_) (ncf g1)
  refine d_onlyG 9 rfl rfl (by kernel_rfl) rfl rfl rfl (fun _ => (o_call 1 1 false (Go.Proofs.enters_of Tryz.func121 (by kernel_rfl) rfl) (c_spec_l1In (r) (0) (IntKind.i64.wrap (((rs).length : Int) - 1))) rfl (.cons rfl (.c .t0) (.cons rfl (.c .t0) (.cons rfl (.c .t0) .nil))) rfl rfl rfl)) (fun _ => ?_) (ncf g1)
  refine dH 10 rfl (fun _ => p_not rfl) (fun _ => ?_) (ncf g1)
  refine dT 11 rfl (p_pickF rfl g1 rfl) ?_
  refine dT 12 rfl pM ?_
  refine dH 13 rfl (fun _ => pF 1) (fun g2 => ?_) (fun g2 => ?_)
  ·
   have g2' := of_decide_eq_true (bnf g2)
   refine dH 14 rfl (fun _ => pL) (fun _ => ?_) (ncf g2)
   refine dH 15 rfl (fun _ => p_len rfl rfl) (fun _ => ?_) (ncf g2)
   refine dH 16 rfl (fun _ => pM) (fun _ => ?_) (ncf g2)
   refine dH 17 rfl (fun _ => pF 0) (fun _ => ?_) (ncf g2)
   refine dH 18 rfl (fun _ => pL) (fun _ => ?_) (ncf g2)
   obtain ⟨z3, hz4, b5⟩ := at_get (xs := rs) (n := r) (by omega) (by (simp only [IntKind.wrap_i64] at *; omega))
   refine dH 19 rfl (fun _ => p_index (by kernel_rfl) rfl rfl b5 hz4) (fun _ => ?_) (ncf g2)
   refine dH 20 rfl (fun _ => p_field (off := 1) (by kernel_rfl) rfl) (fun _ => ?_) (ncf g2)
   refine dH 21 rfl (fun _ => p_load1 (by kernel_rfl) rfl rfl) (fun _ => ?_) (ncf g2)
   refine dH 22 rfl (fun _ => pB) (fun _ => ?_) (ncf g2)
   refine dT 23 rfl (p_pickF rfl g2 rfl) ?_
   refine d_end (by kernel_rfl) ?_
   refine t_cond rfl (fun h6 => ?_) (fun h6 => ?_)
   ·
    have h6' := of_decide_eq_true h6
    refine tsr ?_
    refine r_op oA ?_
    refine r_end ?_
    refine t_ret Tryz.func115 (.tmp rfl .nil) rfl fun E S w u hI hd => ?_
    refine post_mk hI hd ?_ trivial rfl rfl rfl <;> clear hI hd <;> (try clear ih0)
    all_goals (refine scB ?_; (rw [atom_no3 (by assumption) (by assumption)]; done))
   ·
    have h6' := of_decide_eq_false h6
    refine t_skip ?_
    refine t_seq ?_
    refine tsr ?_
    refine r_op oA ?_
    refine r_end ?_
    refine t_block ?_
    refine t_loopL (fun m => ⟨[(3, some (.c (.ptr 0 0))), (5, some (.c (.t none (.v (.int .i64 ((m : Int)))))))], [(0, some (.box [.t none (.v (.int .i64 (r))), .t none (.sl 1 encI (ts))]))], 1⟩ : Nat → St) (fun m => m ≤ ts.length ∧ ∀ j z, j < m → ts[j]? = some z → (fun t => !termOk t) z = false) (fun m => ts.length - m) 0 ⟨⟨rfl, ⟨rfl, trivial⟩⟩, ⟨rfl, trivial⟩, rfl⟩ (by exact ⟨Nat.zero_le _, fun j z h => by omega⟩) ?_
    rintro m hI ih0
    try dsimp only at hI ih0
    obtain ⟨i1, i2⟩ := hI
    refine t_seq ?_
    refine tsr ?_
    refine r_op oM ?_
    refine r_op (oF 1) ?_
    refine r_op oL ?_
    refine r_op (o_len rfl rfl rfl) ?_
    refine r_op oB ?_
    refine r_end ?_
    refine t_cond rfl (fun h7 => ?_) (fun h7 => ?_)
    ·
     have h7' := of_decide_eq_true h7
     refine t_skip ?_
     refine t_seq ?_
     refine t_block ?_
     refine tsr ?_
     refine r_op (oF 1) ?_
     refine r_op oL ?_
     refine r_op oM ?_
     obtain ⟨z8, hz9, b10⟩ := at_get (xs := ts) (n := (m : Int)) (by omega) (by omega)
     refine r_op (o_index rfl (by kernel_rfl) rfl rfl b10 hz9) ?_
     refine r_op (o_load1 rfl (by kernel_rfl) rfl rfl) ?_
     refine r_op (o_call 1 1 false (Go.Proofs.enters_of Tryz.func121 (by kernel_rfl) rfl) (c_spec_l1In (z8) (-10) (4)) rfl (.cons rfl (.c .t0) (.cons rfl (.c .t0) (.cons rfl (.c .t0) .nil))) rfl rfl rfl) ?_
     refine r_op (o_not rfl rfl) ?_
     refine r_end ?_
     refine t_cond rfl (fun h11 => ?_) (fun h11 => ?_)
     ·
      have h11' := of_decide_eq_false (bnt h11)
      refine tsr ?_
      refine r_op oA ?_
      refine r_end ?_
      refine t_ret Tryz.func115 (.tmp rfl .nil) rfl fun E S w u hI hd => ?_
      refine post_mk hI hd ?_ trivial rfl rfl rfl <;> clear hI hd <;> (try clear ih0)
      all_goals (refine scB ?_; (rw [atom_yes (by assumption) (by simp only [IntKind.wrap_i64] at *; omega) (by assumption) (by omega), any_true (p := fun t => !termOk t) (by assumption) (by simp only [termOk, Bool.not_eq_true']; exact decide_eq_false (by assumption))]; rfl))
     ·
      have h11' := of_decide_eq_true (bnf h11)
      refine t_skip ?_
      refine t_endblock ?_
      refine t_region ?_
      refine r_op oM ?_
      refine r_op oB ?_
      refine r_op oA ?_
      refine r_end ?_
      refine t_le ?_ (ih0 (m + 1) (by (try dsimp only); omega) (by (try dsimp only); exact ⟨by omega, no_step i2 (by assumption) rfl (by simp only [termOk, Bool.not_eq_false']; exact decide_eq_true (by assumption))⟩))
      exact ⟨⟨rfl, ⟨(eqI (wr64 (by omega) (by omega))), trivial⟩⟩, ⟨rfl, trivial⟩, rfl⟩
    ·
     have h7' := of_decide_eq_false h7
     refine t_exit rfl ?_
     refine tsr ?_
     refine r_op oA ?_
     refine r_end ?_
     refine t_ret Tryz.func115 (.tmp rfl .nil) rfl fun E S w u hI hd => ?_
     refine post_mk hI hd ?_ trivial rfl rfl rfl <;> clear hI hd <;> (try clear ih0)
     all_goals (refine scB ?_; (rw [atom_yes (by assumption) (by simp only [IntKind.wrap_i64] at *; omega) (by assumption) (by omega), any_false (p := fun t => !termOk t) i2 (by omega)]; rfl))
  ·
   have g2' := of_decide_eq_false (bnt g2)
   refine dG 14 (nc g2) (fun _ => ?_)
   refine dG 15 (nc g2) (fun _ => ?_)
   refine dG 16 (nc g2) (fun _ => ?_)
   refine dG 17 (nc g2) (fun _ => ?_)
   refine dG 18 (nc g2) (fun _ => ?_)
   refine dG 19 (nc g2) (fun _ => ?_)
   refine dG 20 (nc g2) (fun _ => ?_)
   refine dG 21 (nc g2) (fun _ => ?_)
   refine dG 22 (nc g2) (fun _ => ?_)
   refine dT 23 rfl (p_pickT rfl g2 rfl) ?_
   refine d_end (by kernel_rfl) ?_
   refine t_cond rfl (fun _ => ?_) (nc rfl)
   refine tsr ?_
   refine r_op oA ?_
   refine r_end ?_
   refine t_ret Tryz.func115 (.tmp rfl .nil) rfl fun E S w u hI hd => ?_
   refine post_mk hI hd ?_ trivial rfl rfl rfl <;> clear hI hd <;> (try clear ih0)
   all_goals (refine scB ?_; (rw [atom_no2 (by simp only [IntKind.wrap_i64] at *; omega)]; done))
 ·
  have g1' := (bnt g1)
  refine dG 5 (nc g1) (fun _ => ?_)
  refine dG 6 (nc g1) (fun _ => ?_)
  refine dG 7 (nc g1) (fun _ => ?_)
  refine dG 8 (nc g1) (fun _ => ?_)
  refine dG 9 (nc g1) (fun _ => ?_)
  refine dG 10 (nc g1) (fun _ => ?_)
  refine dT 11 rfl (p_pickT rfl g1 rfl) ?_
  refine dT 12 rfl pM ?_
  refine dG 13 (nc rfl) (fun _ => ?_)
  refine dG 14 (nc rfl) (fun _ => ?_)
  refine dG 15 (nc rfl) (fun _ => ?_)
  refine dG 16 (nc rfl) (fun _ => ?_)
  refine dG 17 (nc rfl) (fun _ => ?_)
  refine dG 18 (nc rfl) (fun _ => ?_)
  refine dG 19 (nc rfl) (fun _ => ?_)
  refine dG 20 (nc rfl) (fun _ => ?_)
  refine dG 21 (nc rfl) (fun _ => ?_)
  refine dG 22 (nc rfl) (fun _ => ?_)
  refine dT 23 rfl (p_pickT rfl rfl rfl) ?_
  refine d_end (by kernel_rfl) ?_
  refine t_cond rfl (fun _ => ?_) (nc rfl)
  refine tsr ?_
  refine r_op oA ?_
  refine r_end ?_
  refine t_ret Tryz.func115 (.tmp rfl .nil) rfl fun E S w u hI hd => ?_
  refine post_mk hI hd ?_ trivial rfl rfl rfl <;> clear hI hd <;> (try clear ih0)
  all_goals (refine scB ?_; (rw [atom_no1 (by assumption)]; done))
set_option maxHeartbeats 1000000 in
set_option maxRecDepth 10000 in
theorem c_spec_NullNumber (v : Int) (hv : -9223372036854775808 ≤ v) (hv2 : v ≤ 9223372036854775807) : Pu Tryz.prog 88 [.c (.t none (.v (.int .i64 (v))))] [] 0 (.tup [(false, [.t none (.v (.int .i64 (if -40 ≤ v ∧ v ≤ -1 then -1 - v else 0)))]), (false, [.t none (.v (.bool (decide (-40 ≤ v ∧ v ≤ -1))))])]) := by
 refine pu_enter Tryz.func88 rfl (Nat.le_of_ble_eq_true rfl) fun w S => ?_
 refine tsr ?_
 refine r_op oA ?_
 refine r_op oA ?_
 refine r_end ?_
 refine t_seq ?_
 refine tsr ?_
 refine r_op oM ?_
 refine r_op oB ?_
 refine r_op oM ?_
 refine r_guard rfl rfl rfl (fun g1 => ?_) (fun g1 => ?_)
 ·
  have g1' := of_decide_eq_false g1
  refine r_op oM ?_
  refine r_guard rfl rfl rfl (fun _ => ?_) (ncf g1)
  refine r_op oB ?_
  refine r_guard rfl rfl rfl (fun _ => ?_) (ncf g1)
  refine r_op (o_call 0 0 false (Go.Proofs.enters_of Tryz.func121 (by kernel_rfl) rfl) (c_spec_l1In (IntKind.i64.wrap ((-1) - v)) (0) (39)) rfl (.cons rfl (.c .t0) (.cons rfl (.c .t0) (.cons rfl (.c .t0) .nil))) rfl rfl rfl) ?_
  refine r_guard rfl rfl rfl (fun _ => ?_) (ncf g1)
  refine r_op (o_not rfl rfl) ?_
  refine r_op (o_pickF rfl rfl g1 rfl) ?_
  refine r_end ?_
  refine t_cond rfl (fun h2 => ?_) (fun h2 => ?_)
  ·
   have h2' := of_decide_eq_false (bnt h2)
   refine tsr ?_
   refine r_op oA ?_
   refine r_op oA ?_
   refine r_end ?_
   refine t_ret Tryz.func88 (.tmp rfl (.tmp rfl .nil)) rfl fun E S w u hI hd => ?_
   refine post_mk hI hd ?_ trivial rfl rfl rfl <;> clear hI hd
   all_goals (((have hn : ¬(-40 ≤ v ∧ v ≤ -1) := by (simp only [IntKind.wrap_i64] at *; omega)); (simp [hn]; done)))
  ·
   have h2' := of_decide_eq_true (bnf h2)
   refine t_skip ?_
   refine tsr ?_
   refine r_op oM ?_
   refine r_op oB ?_
   refine r_op oA ?_
   refine r_op oA ?_
   refine r_end ?_
   refine t_ret Tryz.func88 (.tmp rfl (.tmp rfl .nil)) rfl fun E S w u hI hd => ?_
   refine post_mk hI hd ?_ trivial rfl rfl rfl <;> clear hI hd
   all_goals (((have hn : (-40 ≤ v ∧ v ≤ -1) := by (simp only [IntKind.wrap_i64] at *; omega)); (have e : IntKind.i64.wrap (-1 - v) = -1 - v := wr64 (by omega) (by omega)); (simp [hn, e]; done)))
 ·
  have g1' := of_decide_eq_true g1
  refine r_guard rfl rfl rfl (nc g1) (fun _ => ?_)
  refine r_guard rfl rfl rfl (nc g1) (fun _ => ?_)
  refine r_guard rfl rfl rfl (nc g1) (fun _ => ?_)
  refine r_op (o_pickT rfl rfl g1 rfl) ?_
  refine r_end ?_
  refine t_cond rfl (fun _ => ?_) (nc rfl)
  refine tsr ?_
  refine r_op oA ?_
  refine r_op oA ?_
  refine r_end ?_
  refine t_ret Tryz.func88 (.tmp rfl (.tmp rfl .nil)) rfl fun E S w u hI hd => ?_
  refine post_mk hI hd ?_ trivial rfl rfl rfl <;> clear hI hd
  all_goals (((have hn : ¬(-40 ≤ v ∧ v ≤ -1) := by (simp only [IntKind.wrap_i64] at *; omega)); (simp [hn]; done)))
set_option maxHeartbeats 1000000 in
set_option maxRecDepth 10000 in
theorem c_spec_IsValidValue (v : Int) (hv : -9223372036854775808 ≤ v) (hv2 : v ≤ 9223372036854775807) : Pu Tryz.prog 62 [.c (.t none (.v (.int .i64 (v))))] [] 0 (.c (.t none (.v (.bool (decide (-40 ≤ v ∧ v ≤ 9)))))) := by
 refine pu_enter Tryz.func62 rfl (Nat.le_of_ble_eq_true rfl) fun w S => ?_
 refine tsr ?_
 refine r_op oA ?_
 refine etr ?_
 refine r_op oM ?_
 refine r_op (o_call 0 0 false (Go.Proofs.enters_of Tryz.func88 (by kernel_rfl) rfl) (c_spec_NullNumber (v) (by omega) (by omega)) rfl (.cons rfl (.c .t0) .nil) rfl rfl rfl) ?_
 refine r_op oM ?_
 refine r_op (o_extract rfl rfl rfl rfl) ?_
 refine r_op (o_extract rfl rfl rfl rfl) ?_
 refine r_op oA ?_
 refine r_op oA ?_
 refine etr ?_
 refine r_op oM ?_
 refine r_op oM ?_
 refine r_guard rfl rfl rfl (fun g1 => ?_) (fun g1 => ?_)
 ·
  have g1' := of_decide_eq_false g1
  refine r_op oM ?_
  refine r_guard rfl rfl rfl (fun _ => ?_) (ncf g1)
  refine r_op (o_call 0 0 false (Go.Proofs.enters_of Tryz.func121 (by kernel_rfl) rfl) (c_spec_l1In (v) (0) (9)) rfl (.cons rfl (.c .t0) (.cons rfl (.c .t0) (.cons rfl (.c .t0) .nil))) rfl rfl rfl) ?_
  refine r_op (o_pickF rfl rfl g1 rfl) ?_
  refine r_op oA ?_
  refine r_end ?_
  refine t_ret Tryz.func62 (.tmp rfl .nil) rfl fun E S w u hI hd => ?_
  refine post_mk hI hd ?_ trivial rfl rfl rfl <;> clear hI hd
  all_goals ((exact scD (by omega)))
 ·
  have g1' := of_decide_eq_true g1
  refine r_guard rfl rfl rfl (nc g1) (fun _ => ?_)
  refine r_op (o_pickT rfl rfl g1 rfl) ?_
  refine r_op oA ?_
  refine r_end ?_
  refine t_ret Tryz.func62 (.tmp rfl .nil) rfl fun E S w u hI hd => ?_
  refine post_mk hI hd ?_ trivial rfl rfl rfl <;> clear hI hd
  all_goals ((exact scTrue (by omega)))
set_option maxHeartbeats 1000000 in
set_option maxRecDepth 10000 in
theorem c_spec_IsValidFact (rs : List (List UInt8 × Int × Bool)) (r : Int) (ts : List Int) (hrs : rs.length ≤ 4611686018427387904) (hts : ts.length ≤ 4611686018427387904) (ho : ∀ x ∈ ts, okI x) : Pu Tryz.prog 74 [.c (.t none (.sl 3 (enS3 encS encI encB) (rs))), .agg [.t none (.v (.int .i64 (r))), .t none (.sl 1 encI (ts))]] [] 0 (.c (.t none (.v (.bool (factOk rs r ts))))) := by
 refine pu_enter Tryz.func74 rfl (Nat.le_of_ble_eq_true rfl) fun w S => ?_
 refine tsr ?_
 refine r_op (o_box 0 rfl rfl rfl rfl) ?_
 refine r_op oA ?_
 refine r_end ?_
 refine t_seq ?_
 refine t_seq ?_
 refine t_draw (fun _ => true) (by kernel_rfl) ?_
 refine dT 0 rfl pM ?_
 refine dO 1 rfl (o_call 1 1 false (Go.Proofs.enters_of Tryz.func76 (by kernel_rfl) rfl) (c_spec_AreValidRelations (rs) (by omega)) rfl (.cons rfl (.c .t0) .nil) rfl rfl rfl) ?_
 refine dT 2 rfl (p_not rfl) ?_
 refine dT 3 rfl pM ?_
 refine dH 4 rfl (fun _ => pF 0) (fun g1 => ?_) (fun g1 => ?_)
 ·
  have g1' := (bnf g1)
  refine dH 5 rfl (fun _ => pL) (fun _ => ?_) (ncf g1)
  refine dH 6 rfl (fun _ => pM) (fun _ => ?_) (ncf g1)
  refine dH 7 rfl (fun _ => p_len rfl rfl) (fun _ => ?_) (ncf g1)
  refine dH 8 rfl (fun _ => pB) (fun _ => ?_) (ncf g1)
  refine d_onlyG 9 rfl rfl (by kernel_rfl) rfl rfl rfl (fun _ => (o_call 1 1 false (Go.Proofs.enters_of Tryz.func121 (by kernel_rfl) rfl) (c_spec_l1In (r) (0) (IntKind.i64.wrap (((rs).length : Int) - 1))) rfl (.cons rfl (.c .t0) (.cons rfl (.c .t0) (.cons rfl (.c .t0) .nil))) rfl rfl rfl)) (fun _ => ?_) (ncf g1)
  refine dH 10 rfl (fun _ => p_not rfl) (fun _ => ?_) (ncf g1)
  refine dT 11 rfl (p_pickF rfl g1 rfl) ?_
  refine dT 12 rfl pM ?_
  refine dH 13 rfl (fun _ => pF 1) (fun g2 => ?_) (fun g2 => ?_)
  ·
   have g2' := of_decide_eq_true (bnf g2)
   refine dH 14 rfl (fun _ => pL) (fun _ => ?_) (ncf g2)
   refine dH 15 rfl (fun _ => p_len rfl rfl) (fun _ => ?_) (ncf g2)
   refine dH 16 rfl (fun _ => pM) (fun _ => ?_) (ncf g2)
   refine dH 17 rfl (fun _ => pF 0) (fun _ => ?_) (ncf g2)
   refine dH 18 rfl (fun _ => pL) (fun _ => ?_) (ncf g2)
   obtain ⟨z3, hz4, b5⟩ := at_get (xs := rs) (n := r) (by omega) (by (simp only [IntKind.wrap_i64] at *; omega))
   refine dH 19 rfl (fun _ => p_index (by kernel_rfl) rfl rfl b5 hz4) (fun _ => ?_) (ncf g2)
   refine dH 20 rfl (fun _ => p_field (off := 1) (by kernel_rfl) rfl) (fun _ => ?_) (ncf g2)
   refine dH 21 rfl (fun _ => p_load1 (by kernel_rfl) rfl rfl) (fun _ => ?_) (ncf g2)
   refine dH 22 rfl (fun _ => pB) (fun _ => ?_) (ncf g2)
   refine dT 23 rfl (p_pickF rfl g2 rfl) ?_
   refine d_end (by kernel_rfl) ?_
   refine t_cond rfl (fun h6 => ?_) (fun h6 => ?_)
   ·
    have h6' := of_decide_eq_true h6
    refine tsr ?_
    refine r_op oA ?_
    refine r_end ?_
    refine t_ret Tryz.func74 (.tmp rfl .nil) rfl fun E S w u hI hd => ?_
    refine post_mk hI hd ?_ trivial rfl rfl rfl <;> clear hI hd <;> (try clear ih0)
    all_goals (refine scB ?_; (rw [fact_no3 (by assumption) (by assumption)]; done))
   ·
    have h6' := of_decide_eq_false h6
    refine t_skip ?_
    refine t_seq ?_
    refine tsr ?_
    refine r_op oA ?_
    refine r_end ?_
    refine t_block ?_
    refine t_loopL (fun m => ⟨[(3, some (.c (.ptr 0 0))), (5, some (.c (.t none (.v (.int .i64 ((m : Int)))))))], [(0, some (.box [.t none (.v (.int .i64 (r))), .t none (.sl 1 encI (ts))]))], 1⟩ : Nat → St) (fun m => m ≤ ts.length ∧ ∀ j z, j < m → ts[j]? = some z → (fun t => !valOk t) z = false) (fun m => ts.length - m) 0 ⟨⟨rfl, ⟨rfl, trivial⟩⟩, ⟨rfl, trivial⟩, rfl⟩ (by exact ⟨Nat.zero_le _, fun j z h => by omega⟩) ?_
    rintro m hI ih0
    try dsimp only at hI ih0
    obtain ⟨i1, i2⟩ := hI
    refine t_seq ?_
    refine tsr ?_
    refine r_op oM ?_
    refine r_op (oF 1) ?_
    refine r_op oL ?_
    refine r_op (o_len rfl rfl rfl) ?_
    refine r_op oB ?_
    refine r_end ?_
    refine t_cond rfl (fun h7 => ?_) (fun h7 => ?_)
    ·
     have h7' := of_decide_eq_true h7
     refine t_skip ?_
     refine t_seq ?_
     refine t_block ?_
     refine tsr ?_
     refine r_op (oF 1) ?_
     refine r_op oL ?_
     refine r_op oM ?_
     obtain ⟨z8, hz9, b10⟩ := at_get (xs := ts) (n := (m : Int)) (by omega) (by omega)
     refine r_op (o_index rfl (by kernel_rfl) rfl rfl b10 hz9) ?_
     refine r_op (o_load1 rfl (by kernel_rfl) rfl rfl) ?_
     refine r_op (o_call 1 1 false (Go.Proofs.enters_of Tryz.func62 (by kernel_rfl) rfl) (c_spec_IsValidValue (z8) (by exact (ho _ (List.mem_of_getElem? (by assumption))).1) (by exact (ho _ (List.mem_of_getElem? (by assumption))).2)) rfl (.cons rfl (.c .t0) .nil) rfl rfl rfl) ?_
     refine r_op (o_not rfl rfl) ?_
     refine r_end ?_
     refine t_cond rfl (fun h11 => ?_) (fun h11 => ?_)
     ·
      have h11' := of_decide_eq_false (bnt h11)
      refine tsr ?_
      refine r_op oA ?_
      refine r_end ?_
      refine t_ret Tryz.func74 (.tmp rfl .nil) rfl fun E S w u hI hd => ?_
      refine post_mk hI hd ?_ trivial rfl rfl rfl <;> clear hI hd <;> (try clear ih0)
      all_goals (refine scB ?_; (rw [fact_yes (by assumption) (by simp only [IntKind.wrap_i64] at *; omega) (by assumption) (by omega), any_true (p := fun t => !valOk t) (by assumption) (by simp only [valOk, Bool.not_eq_true']; exact decide_eq_false (by assumption))]; rfl))
     ·
      have h11' := of_decide_eq_true (bnf h11)
      refine t_skip ?_
      refine t_endblock ?_
      refine t_region ?_
      refine r_op oM ?_
      refine r_op oB ?_
      refine r_op oA ?_
      refine r_end ?_
      refine t_le ?_ (ih0 (m + 1) (by (try dsimp only); omega) (by (try dsimp only); exact ⟨by omega, no_step i2 (by assumption) rfl (by simp only [valOk, Bool.not_eq_false']; exact decide_eq_true (by assumption))⟩))
      exact ⟨⟨rfl, ⟨(eqI (wr64 (by omega) (by omega))), trivial⟩⟩, ⟨rfl, trivial⟩, rfl⟩
    ·
     have h7' := of_decide_eq_false h7
     refine t_exit rfl ?_
     refine tsr ?_
     refine r_op oA ?_
     refine r_end ?_
     refine t_ret Tryz.func74 (.tmp rfl .nil) rfl fun E S w u hI hd => ?_
     refine post_mk hI hd ?_ trivial rfl rfl rfl <;> clear hI hd <;> (try clear ih0)
     all_goals (refine scB ?_; (rw [fact_yes (by assumption) (by simp only [IntKind.wrap_i64] at *; omega) (by assumption) (by omega), any_false (p := fun t => !valOk t) i2 (by omega)]; rfl))
  ·
   have g2' := of_decide_eq_false (bnt g2)
   refine dG 14 (nc g2) (fun _ => ?_)
   refine dG 15 (nc g2) (fun _ => ?_)
   refine dG 16 (nc g2) (fun _ => ?_)
   refine dG 17 (nc g2) (fun _ => ?_)
   refine dG 18 (nc g2) (fun _ => ?_)
   refine dG 19 (nc g2) (fun _ => ?_)
   refine dG 20 (nc g2) (fun _ => ?_)
   refine dG 21 (nc g2) (fun _ => ?_)
   refine dG 22 (nc g2) (fun _ => ?_)
   refine dT 23 rfl (p_pickT rfl g2 rfl) ?_
   refine d_end (by kernel_rfl) ?_
   refine t_cond rfl (fun _ => ?_) (nc rfl)
   refine tsr ?_
   refine r_op oA ?_
   refine r_end ?_
   refine t_ret Tryz.func74 (.tmp rfl .nil) rfl fun E S w u hI hd => ?_
   refine post_mk hI hd ?_ trivial rfl rfl rfl <;> clear hI hd <;> (try clear ih0)
   all_goals (refine scB ?_; (rw [fact_no2 (by simp only [IntKind.wrap_i64] at *; omega)]; done))
 ·
  have g1' := (bnt g1)
  refine dG 5 (nc g1) (fun _ => ?_)
  refine dG 6 (nc g1) (fun _ => ?_)
  refine dG 7 (nc g1) (fun _ => ?_)
  refine dG 8 (nc g1) (fun _ => ?_)
  refine dG 9 (nc g1) (fun _ => ?_)
  refine dG 10 (nc g1) (fun _ => ?_)
  refine dT 11 rfl (p_pickT rfl g1 rfl) ?_
  refine dT 12 rfl pM ?_
  refine dG 13 (nc rfl) (fun _ => ?_)
  refine dG 14 (nc rfl) (fun _ => ?_)
  refine dG 15 (nc rfl) (fun _ => ?_)
  refine dG 16 (nc rfl) (fun _ => ?_)
  refine dG 17 (nc rfl) (fun _ => ?_)
  refine dG 18 (nc rfl) (fun _ => ?_)
  refine dG 19 (nc rfl) (fun _ => ?_)
  refine dG 20 (nc rfl) (fun _ => ?_)
  refine dG 21 (nc rfl) (fun _ => ?_)
  refine dG 22 (nc rfl) (fun _ => ?_)
  refine dT 23 rfl (p_pickT rfl rfl rfl) ?_
  refine d_end (by kernel_rfl) ?_
  refine t_cond rfl (fun _ => ?_) (nc rfl)
  refine tsr ?_
  refine r_op oA ?_
  refine r_end ?_
  refine t_ret Tryz.func74 (.tmp rfl .nil) rfl fun E S w u hI hd => ?_
  refine post_mk hI hd ?_ trivial rfl rfl rfl <;> clear hI hd <;> (try clear ih0)
  all_goals (refine scB ?_; (rw [fact_no1 (by assumption)]; done))
set_option maxHeartbeats 1000000 in
set_option maxRecDepth 10000 in
theorem c_spec_NullsOfFact (r : Int) (l : List Int) (hl : l.length ≤ 1048576) (ho : ∀ x ∈ l, okI x) : Pu Tryz.prog 75 [.agg [.t none (.v (.int .i64 (r))), .t none (.sl 1 encI (l))]] [(1, some (.row none 3 true 1 encI (setI (nulV l))))] 2 (.c (.own 1)) := by
 refine pu_enter Tryz.func75 rfl (Nat.le_of_ble_eq_true rfl) fun w S => ?_
 refine tsr ?_
 refine r_op (o_box 0 rfl rfl rfl rfl) ?_
 refine r_op oA ?_
 refine etr ?_
 refine r_op (o_lit0 1 (e := 3) (sz := 1) (zs := [.int .i64 (0)]) encI rfl rfl (by kernel_rfl) rfl) ?_
 refine r_op oA ?_
 refine r_end ?_
 refine t_seq ?_
 refine tsr ?_
 refine r_op oA ?_
 refine r_end ?_
 refine t_block ?_
 refine t_loopL (fun m => ⟨[(1, some (.c (.ptr 0 0))), (2, some (.c (.t none (.v (.slice none 0 0))))), (3, some (.c (.own 1))), (4, some (.c (.t none (.v (.int .i64 ((m : Int)))))))], [(0, some (.box [.t none (.v (.int .i64 (r))), .t none (.sl 1 encI (l))])), (1, some (.row none 3 true 1 encI (setI (nulV (l.take m)))))], 2⟩ : Nat → St) (fun m => m ≤ l.length) (fun m => l.length - m) 0 ⟨⟨rfl, ⟨rfl, ⟨rfl, ⟨rfl, trivial⟩⟩⟩⟩, ⟨rfl, ⟨rfl, trivial⟩⟩, rfl⟩ (by exact Nat.zero_le _) ?_
 rintro m hI ih0
 try dsimp only at hI ih0
 have i1 := hI; have q1 := setI_len (nulV (l.take m)); have q2 := nulV_part l m
 refine t_seq ?_
 refine tsr ?_
 refine r_op oM ?_
 refine r_op (oF 1) ?_
 refine r_op oL ?_
 refine r_op (o_len rfl rfl rfl) ?_
 refine r_op oB ?_
 refine r_end ?_
 refine t_cond rfl (fun h1 => ?_) (fun h1 => ?_)
 ·
  have h1' := of_decide_eq_true h1
  refine t_skip ?_
  refine t_seq ?_
  refine t_block ?_
  refine tsr ?_
  refine r_op (oF 1) ?_
  refine r_op oL ?_
  refine r_op oM ?_
  obtain ⟨z2, hz3, b4⟩ := at_get (xs := l) (n := (m : Int)) (by omega) (by omega)
  refine r_op (o_index rfl (by kernel_rfl) rfl rfl b4 hz3) ?_
  refine r_op (o_load1 rfl (by kernel_rfl) rfl rfl) ?_
  refine r_op (o_call 2 2 false (Go.Proofs.enters_of Tryz.func88 (by kernel_rfl) rfl) (c_spec_NullNumber (z2) (by exact (ho _ (List.mem_of_getElem? (by assumption))).1) (by exact (ho _ (List.mem_of_getElem? (by assumption))).2)) rfl (.cons rfl (.c .t0) .nil) rfl rfl rfl) ?_
  refine r_op oM ?_
  refine r_op (o_extract rfl rfl rfl rfl) ?_
  refine r_op (o_extract rfl rfl rfl rfl) ?_
  refine r_op oA ?_
  refine r_op oA ?_
  refine etr ?_
  refine r_op oM ?_
  refine r_end ?_
  refine t_cond rfl (fun h5 => ?_) (fun h5 => ?_)
  ·
   have h5' := of_decide_eq_true h5
   refine t_region ?_
   refine r_op oM ?_
   refine r_op oM ?_
   refine r_op (o_callC 1 (l' := putI (setI (nulV (l.take m))) (if -40 ≤ (z2) ∧ (z2) ≤ -1 then -1 - (z2) else 0)) (Go.Proofs.enters_of Tryz.func127 (by kernel_rfl) rfl) (fun U => c_spec_l4Put U  (setI (nulV (l.take m))) (if -40 ≤ (z2) ∧ (z2) ≤ -1 then -1 - (z2) else 0) (by omega)) rfl rfl (.cons rfl (.own rfl) (.cons rfl .t0 .nil))) ?_
   refine r_op oA ?_
   refine r_end ?_
   refine t_endblock ?_
   refine t_region ?_
   refine r_op oM ?_
   refine r_op oB ?_
   refine r_op oA ?_
   refine r_end ?_
   refine t_le ?_ (ih0 (m + 1) (by (try dsimp only); omega) (by (try dsimp only); omega))
   exact ⟨⟨rfl, ⟨rfl, ⟨rfl, ⟨(eqI (wr64 (by omega) (by omega))), trivial⟩⟩⟩⟩, ⟨rfl, ⟨(eqR (by (rw [nulV_more (by assumption) (by assumption), setI_snoc]; done))), trivial⟩⟩, rfl⟩
  ·
   have h5' := of_decide_eq_false h5
   refine t_skip ?_
   refine t_endblock ?_
   refine t_region ?_
   refine r_op oM ?_
   refine r_op oB ?_
   refine r_op oA ?_
   refine r_end ?_
   refine t_le ?_ (ih0 (m + 1) (by (try dsimp only); omega) (by (try dsimp only); omega))
   exact ⟨⟨rfl, ⟨rfl, ⟨rfl, ⟨(eqI (wr64 (by omega) (by omega))), trivial⟩⟩⟩⟩, ⟨rfl, ⟨(eqR (by (rw [nulV_same (by assumption) (by assumption)]; done))), trivial⟩⟩, rfl⟩
 ·
  have h1' := of_decide_eq_false h1
  refine t_exit rfl ?_
  refine tsr ?_
  refine r_op oM ?_
  refine r_op oA ?_
  refine r_end ?_
  refine t_ret Tryz.func75 (.tmp rfl .nil) rfl fun E S w u hI hd => ?_
  refine post_mk hI hd ?_ ⟨eqR ?_, trivial⟩ rfl rfl rfl <;> clear hI hd <;> (try clear ih0)
  all_goals first | rfl | ((rw [nulV_end (by omega)]))
set_option maxHeartbeats 1000000 in
set_option maxRecDepth 10000 in
theorem c_spec_IsValidInstance (rs : Rels) (l : Atoms) (hrs : rs.length ≤ 4611686018427387904) (hl : szS (fun (x : Int × (List (Int))) => (x.2).length) l ≤ 1048576) (ho : ∀ z ∈ l, ∀ x ∈ z.2, okI x) : Pu Tryz.prog 34 [.agg [.t none (.sl 3 (enS3 encS encI encB) (rs)), .t none (.sl 2 (enS2 encI (enSl 1 encI)) (l))]] [] 0 (.c (.t none (.v (.bool (instOk rs l))))) := by
 refine pu_enter Tryz.func34 rfl (Nat.le_of_ble_eq_true rfl) fun w S => ?_
 have gl := sz_len (f := (fun (x : Int × (List (Int))) => (x.2).length)) (l := l)
 refine tsr ?_
 refine r_op (o_box 0 rfl rfl rfl rfl) ?_
 refine r_op oA ?_
 refine r_end ?_
 refine t_seq ?_
 refine tsr ?_
 refine r_op oA ?_
 refine r_end ?_
 refine t_block ?_
 refine t_loopL (fun m => ⟨[(1, some (.c (.ptr 0 0))), (3, some (.c (.t none (.v (.int .i64 ((m : Int)))))))], [(0, some (.box [.t none (.sl 3 (enS3 encS encI encB) (rs)), .t none (.sl 2 (enS2 encI (enSl 1 encI)) (l))]))], 1⟩ : Nat → St) (fun m => m ≤ l.length ∧ ∀ j, j < m → instStep rs l j = true) (fun m => l.length - m) 0 ⟨⟨rfl, ⟨rfl, trivial⟩⟩, ⟨rfl, trivial⟩, rfl⟩ (by exact ⟨Nat.zero_le _, fun j h => by omega⟩) ?_
 rintro m hI ih0
 try dsimp only at hI ih0
 obtain ⟨i1, i2⟩ := hI
 refine t_seq ?_
 refine tsr ?_
 refine r_op oM ?_
 refine r_op (oF 1) ?_
 refine r_op oL ?_
 refine r_op (o_len rfl rfl rfl) ?_
 refine r_op oB ?_
 refine r_end ?_
 refine t_cond rfl (fun h1 => ?_) (fun h1 => ?_)
 ·
  have h1' := of_decide_eq_true h1
  refine t_skip ?_
  refine t_seq ?_
  refine t_block ?_
  refine tsr ?_
  refine r_op (oF 1) ?_
  refine r_op oL ?_
  refine r_op oM ?_
  obtain ⟨z2, hz3, b4⟩ := at_get (xs := l) (n := (m : Int)) (by omega) (by omega)
  refine r_op (o_index rfl (by kernel_rfl) rfl rfl b4 hz3) ?_
  refine r_op (o_loadA rfl (n := 2) (by kernel_rfl) (by kernel_rfl) rfl rfl) ?_
  refine r_op (o_alloc 1 (zs := [.int .i64 (0), .slice none 0 0]) rfl rfl (by kernel_rfl) rfl) ?_
  refine r_op (oS 2) ?_
  refine r_end ?_
  refine t_seq ?_
  refine t_draw (fun _ => true) (by kernel_rfl) ?_
  refine dT 0 rfl (pF 0) ?_
  refine dT 1 rfl pL ?_
  refine dT 2 rfl (pC 2) ?_
  refine dO 3 rfl (o_call 2 2 false (Go.Proofs.enters_of Tryz.func74 (by kernel_rfl) rfl) (c_spec_IsValidFact (rs) (z2.1) (z2.2) (by omega) (by (have e1 := sz_at (f := (fun (x : Int × (List (Int))) => (x.2).length)) (l := l) (m := m) (by assumption); (try dsimp only at e1); omega)) (by exact ho _ (List.mem_of_getElem? (by assumption)))) rfl (.cons rfl (.c .t0) (.cons rfl (.agg (.cons .t0 (.cons .t0 .nil))) .nil)) rfl rfl rfl) ?_
  refine dT 4 rfl (p_not rfl) ?_
  refine dT 5 rfl pM ?_
  refine dH 6 rfl (fun _ => pM) (fun g5 => ?_) (fun g5 => ?_)
  ·
   have g5' := (bnf g5)
   refine dH 7 rfl (fun _ => pB) (fun _ => ?_) (ncf g5)
   refine dH 8 rfl (fun _ => pM) (fun _ => ?_) (ncf g5)
   refine dH 9 rfl (fun _ => pF 1) (fun g6 => ?_) (fun g6 => ?_)
   ·
    have g6' := of_decide_eq_true g6
    refine dH 10 rfl (fun _ => pL) (fun _ => ?_) (nc g6)
    refine dH 11 rfl (fun _ => pM) (fun _ => ?_) (nc g6)
    refine dH 12 rfl (fun _ => pB) (fun _ => ?_) (nc g6)
    obtain ⟨z7, hz8, b9⟩ := at_get (xs := l) (n := IntKind.i64.wrap ((m : Int) - 1)) (by (simp only [IntKind.wrap_i64] at *; omega)) (by (simp only [IntKind.wrap_i64] at *; omega))
    refine dH 13 rfl (fun _ => p_index (by kernel_rfl) rfl rfl b9 hz8) (fun _ => ?_) (nc g6)
    refine dH 14 rfl (fun _ => p_loadA (n := 2) (by kernel_rfl) (by kernel_rfl) rfl rfl) (fun _ => ?_) (nc g6)
    refine dH 15 rfl (fun _ => pC 2) (fun _ => ?_) (nc g6)
    refine d_onlyG 16 rfl rfl (by kernel_rfl) rfl rfl rfl (fun _ => (o_call 2 2 false (Go.Proofs.enters_of Tryz.func20 (by kernel_rfl) rfl) (c_spec_CompareFacts (z7.1) (z7.2) (z2.1) (z2.2) (by (have e1 := sz_at (f := (fun (x : Int × (List (Int))) => (x.2).length)) (l := l) (m := (IntKind.i64.wrap ((m : Int) - 1)).toNat) (by assumption); (try dsimp only at e1); omega)) (by (have e1 := sz_at (f := (fun (x : Int × (List (Int))) => (x.2).length)) (l := l) (m := m) (by assumption); (try dsimp only at e1); omega))) rfl (.cons rfl (.agg (.cons .t0 (.cons .t0 .nil))) (.cons rfl (.agg (.cons .t0 (.cons .t0 .nil))) .nil)) rfl rfl rfl)) (fun _ => ?_) (nc g6)
    refine dH 17 rfl (fun _ => pB) (fun _ => ?_) (nc g6)
    refine dH 18 rfl (fun _ => p_pickT rfl g6 rfl) (fun _ => ?_) (ncf g5)
    refine dT 19 rfl (p_pickF rfl g5 rfl) ?_
    refine dT 20 rfl pM ?_
    refine dH 21 rfl (fun _ => pF 0) (fun g10 => ?_) (fun g10 => ?_)
    ·
     have g10' := of_decide_eq_false g10
     refine dH 22 rfl (fun _ => pL) (fun _ => ?_) (ncf g10)
     refine dH 23 rfl (fun _ => pF 0) (fun _ => ?_) (ncf g10)
     refine dH 24 rfl (fun _ => pL) (fun _ => ?_) (ncf g10)
     obtain ⟨z11, hz12, b13⟩ := at_get (xs := rs) (n := z2.1) (by exact (fact_idx (by assumption)).1) (by exact (fact_idx (by assumption)).2)
     refine dH 25 rfl (fun _ => p_index (by kernel_rfl) rfl rfl b13 hz12) (fun _ => ?_) (ncf g10)
     refine dH 26 rfl (fun _ => p_field (off := 2) (by kernel_rfl) rfl) (fun _ => ?_) (ncf g10)
     refine dH 27 rfl (fun _ => p_load1 (by kernel_rfl) rfl rfl) (fun _ => ?_) (ncf g10)
     refine dH 28 rfl (fun _ => pM) (fun _ => ?_) (ncf g10)
     refine dH 29 rfl (fun _ => pC 2) (fun g14 => ?_) (fun g14 => ?_)
     ·
      have g14' := g14
      refine d_onlyG 30 rfl rfl (by kernel_rfl) rfl rfl rfl (fun _ => (o_call 2 4 false (Go.Proofs.enters_of Tryz.func75 (by kernel_rfl) rfl) (c_spec_NullsOfFact (z2.1) (z2.2) (by (have e1 := sz_at (f := (fun (x : Int × (List (Int))) => (x.2).length)) (l := l) (m := m) (by assumption); (try dsimp only at e1); omega)) (by exact ho _ (List.mem_of_getElem? (by assumption)))) rfl (.cons rfl (.agg (.cons .t0 (.cons .t0 .nil))) .nil) rfl rfl rfl)) (fun _ => ?_) (nc g14)
      refine dH 31 rfl (fun _ => p_leno rfl rfl rfl) (fun _ => ?_) (nc g14)
      refine dH 32 rfl (fun _ => pB) (fun _ => ?_) (nc g14)
      refine dH 33 rfl (fun _ => p_pickT rfl g14 rfl) (fun _ => ?_) (ncf g10)
      refine dT 34 rfl (p_pickF rfl g10 rfl) ?_
      refine d_end (by kernel_rfl) ?_
      refine t_cond rfl (fun h15 => ?_) (fun h15 => ?_)
      ·
       have h15' := of_decide_eq_true h15
       refine tsr ?_
       refine r_op oA ?_
       refine r_end ?_
       refine t_ret Tryz.func34 (.tmp rfl .nil) rfl fun E S w u hI hd => ?_
       refine post_mk hI hd ?_ trivial rfl rfl rfl <;> clear hI hd <;> (try clear ih0)
       all_goals (refine scB ?_; (rw [instOk_not (rs := rs) (l := l) (m := m) (by omega) (by (try (have qb := instStep_bad (rs := rs) (l := l) (m := m) hz3 (by assumption))); (try (have qz := instStep_zero (rs := rs) (l := l) (m := m) hz3 (by omega))); (try (have qp := instStep_pos (rs := rs) (l := l) (m := m) hz3 (by omega) hz8 (by simp only [IntKind.wrap_i64]; omega))); (try (have qS := srcA_at (rs := rs) (r := z2.1) (ts := z2.2) hz8)); (try (have qT := srcA_at (rs := rs) (r := z2.1) (ts := z2.2) hz12)); clear hl gl ho hrs; grind)]; done))
      ·
       have h15' := of_decide_eq_false h15
       refine t_skip ?_
       refine t_endblock ?_
       refine t_region ?_
       refine r_op oM ?_
       refine r_op oB ?_
       refine r_op oA ?_
       refine r_end ?_
       refine t_le ?_ (ih0 (m + 1) (by (try dsimp only); omega) (by (try dsimp only); exact ⟨by omega, step_all i2 (by (try (have qb := instStep_bad (rs := rs) (l := l) (m := m) hz3 (by assumption))); (try (have qz := instStep_zero (rs := rs) (l := l) (m := m) hz3 (by omega))); (try (have qp := instStep_pos (rs := rs) (l := l) (m := m) hz3 (by omega) hz8 (by simp only [IntKind.wrap_i64]; omega))); (try (have qS := srcA_at (rs := rs) (r := z2.1) (ts := z2.2) hz8)); (try (have qT := srcA_at (rs := rs) (r := z2.1) (ts := z2.2) hz12)); clear hl gl ho hrs; grind)⟩))
       exact ⟨⟨rfl, ⟨(eqI (wr64 (by omega) (by omega))), trivial⟩⟩, ⟨rfl, trivial⟩, rfl⟩
     ·
      have g14' := g14
      refine dG 30 (ncf g14) (fun _ => ?_)
      refine dG 31 (ncf g14) (fun _ => ?_)
      refine dG 32 (ncf g14) (fun _ => ?_)
      refine dH 33 rfl (fun _ => p_pickF rfl g14 rfl) (fun _ => ?_) (ncf g10)
      refine dT 34 rfl (p_pickF rfl g10 rfl) ?_
      refine d_end (by kernel_rfl) ?_
      refine t_cond rfl (ncf rfl) (fun _ => ?_)
      refine t_skip ?_
      refine t_endblock ?_
      refine t_region ?_
      refine r_op oM ?_
      refine r_op oB ?_
      refine r_op oA ?_
      refine r_end ?_
      refine t_le ?_ (ih0 (m + 1) (by (try dsimp only); omega) (by (try dsimp only); exact ⟨by omega, step_all i2 (by (try (have qb := instStep_bad (rs := rs) (l := l) (m := m) hz3 (by assumption))); (try (have qz := instStep_zero (rs := rs) (l := l) (m := m) hz3 (by omega))); (try (have qp := instStep_pos (rs := rs) (l := l) (m := m) hz3 (by omega) hz8 (by simp only [IntKind.wrap_i64]; omega))); (try (have qS := srcA_at (rs := rs) (r := z2.1) (ts := z2.2) hz8)); (try (have qT := srcA_at (rs := rs) (r := z2.1) (ts := z2.2) hz12)); clear hl gl ho hrs; grind)⟩))
      exact ⟨⟨rfl, ⟨(eqI (wr64 (by omega) (by omega))), trivial⟩⟩, ⟨rfl, trivial⟩, rfl⟩
    ·
     have g10' := of_decide_eq_true g10
     refine dG 22 (nc g10) (fun _ => ?_)
     refine dG 23 (nc g10) (fun _ => ?_)
     refine dG 24 (nc g10) (fun _ => ?_)
     refine dG 25 (nc g10) (fun _ => ?_)
     refine dG 26 (nc g10) (fun _ => ?_)
     refine dG 27 (nc g10) (fun _ => ?_)
     refine dG 28 (nc g10) (fun _ => ?_)
     refine dK 29 ?_
     refine dK 30 ?_
     refine dK 31 ?_
     refine dK 32 ?_
     refine dG 33 (nc g10) (fun _ => ?_)
     refine dT 34 rfl (p_pickT rfl g10 rfl) ?_
     refine d_end (by kernel_rfl) ?_
     refine t_cond rfl (fun _ => ?_) (nc rfl)
     refine tsr ?_
     refine r_op oA ?_
     refine r_end ?_
     refine t_ret Tryz.func34 (.tmp rfl .nil) rfl fun E S w u hI hd => ?_
     refine post_mk hI hd ?_ trivial rfl rfl rfl <;> clear hI hd <;> (try clear ih0)
     all_goals (refine scB ?_; (rw [instOk_not (rs := rs) (l := l) (m := m) (by omega) (by (try (have qb := instStep_bad (rs := rs) (l := l) (m := m) hz3 (by assumption))); (try (have qz := instStep_zero (rs := rs) (l := l) (m := m) hz3 (by omega))); (try (have qp := instStep_pos (rs := rs) (l := l) (m := m) hz3 (by omega) hz8 (by simp only [IntKind.wrap_i64]; omega))); (try (have qS := srcA_at (rs := rs) (r := z2.1) (ts := z2.2) hz8)); (try (have qT := srcA_at (rs := rs) (r := z2.1) (ts := z2.2) (by assumption))); clear hl gl ho hrs; grind)]; done))
   ·
    have g6' := of_decide_eq_false g6
    refine dG 10 (ncf g6) (fun _ => ?_)
    refine dG 11 (ncf g6) (fun _ => ?_)
    refine dG 12 (ncf g6) (fun _ => ?_)
    refine dG 13 (ncf g6) (fun _ => ?_)
    refine dG 14 (ncf g6) (fun _ => ?_)
    refine dG 15 (ncf g6) (fun _ => ?_)
    refine dG 16 (ncf g6) (fun _ => ?_)
    refine dG 17 (ncf g6) (fun _ => ?_)
    refine dH 18 rfl (fun _ => p_pickF rfl g6 rfl) (fun _ => ?_) (ncf g5)
    refine dT 19 rfl (p_pickF rfl g5 rfl) ?_
    refine dT 20 rfl pM ?_
    refine dH 21 rfl (fun _ => pF 0) (fun _ => ?_) (ncf rfl)
    refine dH 22 rfl (fun _ => pL) (fun _ => ?_) (ncf rfl)
    refine dH 23 rfl (fun _ => pF 0) (fun _ => ?_) (ncf rfl)
    refine dH 24 rfl (fun _ => pL) (fun _ => ?_) (ncf rfl)
    obtain ⟨z16, hz17, b18⟩ := at_get (xs := rs) (n := z2.1) (by exact (fact_idx (by assumption)).1) (by exact (fact_idx (by assumption)).2)
    refine dH 25 rfl (fun _ => p_index (by kernel_rfl) rfl rfl b18 hz17) (fun _ => ?_) (ncf rfl)
    refine dH 26 rfl (fun _ => p_field (off := 2) (by kernel_rfl) rfl) (fun _ => ?_) (ncf rfl)
    refine dH 27 rfl (fun _ => p_load1 (by kernel_rfl) rfl rfl) (fun _ => ?_) (ncf rfl)
    refine dH 28 rfl (fun _ => pM) (fun _ => ?_) (ncf rfl)
    refine dH 29 rfl (fun _ => pC 2) (fun g19 => ?_) (fun g19 => ?_)
    ·
     have g19' := g19
     refine d_onlyG 30 rfl rfl (by kernel_rfl) rfl rfl rfl (fun _ => (o_call 2 4 false (Go.Proofs.enters_of Tryz.func75 (by kernel_rfl) rfl) (c_spec_NullsOfFact (z2.1) (z2.2) (by (have e1 := sz_at (f := (fun (x : Int × (List (Int))) => (x.2).length)) (l := l) (m := m) (by assumption); (try dsimp only at e1); omega)) (by exact ho _ (List.mem_of_getElem? (by assumption)))) rfl (.cons rfl (.agg (.cons .t0 (.cons .t0 .nil))) .nil) rfl rfl rfl)) (fun _ => ?_) (nc g19)
     refine dH 31 rfl (fun _ => p_leno rfl rfl rfl) (fun _ => ?_) (nc g19)
     refine dH 32 rfl (fun _ => pB) (fun _ => ?_) (nc g19)
     refine dH 33 rfl (fun _ => p_pickT rfl g19 rfl) (fun _ => ?_) (ncf rfl)
     refine dT 34 rfl (p_pickF rfl rfl rfl) ?_
     refine d_end (by kernel_rfl) ?_
     refine t_cond rfl (fun h20 => ?_) (fun h20 => ?_)
     ·
      have h20' := of_decide_eq_true h20
      refine tsr ?_
      refine r_op oA ?_
      refine r_end ?_
      refine t_ret Tryz.func34 (.tmp rfl .nil) rfl fun E S w u hI hd => ?_
      refine post_mk hI hd ?_ trivial rfl rfl rfl <;> clear hI hd <;> (try clear ih0)
      all_goals (refine scB ?_; (rw [instOk_not (rs := rs) (l := l) (m := m) (by omega) (by (try (have qb := instStep_bad (rs := rs) (l := l) (m := m) hz3 (by assumption))); (try (have qz := instStep_zero (rs := rs) (l := l) (m := m) hz3 (by omega))); (try (have qp := instStep_pos (rs := rs) (l := l) (m := m) hz3 (by omega) hz17 (by simp only [IntKind.wrap_i64]; omega))); (try (have qS := srcA_at (rs := rs) (r := z2.1) (ts := z2.2) hz17)); (try (have qT := srcA_at (rs := rs) (r := z2.1) (ts := z2.2) (by assumption))); clear hl gl ho hrs; grind)]; done))
     ·
      have h20' := of_decide_eq_false h20
      refine t_skip ?_
      refine t_endblock ?_
      refine t_region ?_
      refine r_op oM ?_
      refine r_op oB ?_
      refine r_op oA ?_
      refine r_end ?_
      refine t_le ?_ (ih0 (m + 1) (by (try dsimp only); omega) (by (try dsimp only); exact ⟨by omega, step_all i2 (by (try (have qb := instStep_bad (rs := rs) (l := l) (m := m) hz3 (by assumption))); (try (have qz := instStep_zero (rs := rs) (l := l) (m := m) hz3 (by omega))); (try (have qp := instStep_pos (rs := rs) (l := l) (m := m) hz3 (by omega) hz17 (by simp only [IntKind.wrap_i64]; omega))); (try (have qS := srcA_at (rs := rs) (r := z2.1) (ts := z2.2) hz17)); (try (have qT := srcA_at (rs := rs) (r := z2.1) (ts := z2.2) (by assumption))); clear hl gl ho hrs; grind)⟩))
      exact ⟨⟨rfl, ⟨(eqI (wr64 (by omega) (by omega))), trivial⟩⟩, ⟨rfl, trivial⟩, rfl⟩
    ·
     have g19' := g19
     refine dG 30 (ncf g19) (fun _ => ?_)
     refine dG 31 (ncf g19) (fun _ => ?_)
     refine dG 32 (ncf g19) (fun _ => ?_)
     refine dH 33 rfl (fun _ => p_pickF rfl g19 rfl) (fun _ => ?_) (ncf rfl)
     refine dT 34 rfl (p_pickF rfl rfl rfl) ?_
     refine d_end (by kernel_rfl) ?_
     refine t_cond rfl (ncf rfl) (fun _ => ?_)
     refine t_skip ?_
     refine t_endblock ?_
     refine t_region ?_
     refine r_op oM ?_
     refine r_op oB ?_
     refine r_op oA ?_
     refine r_end ?_
     refine t_le ?_ (ih0 (m + 1) (by (try dsimp only); omega) (by (try dsimp only); exact ⟨by omega, step_all i2 (by (try (have qb := instStep_bad (rs := rs) (l := l) (m := m) hz3 (by assumption))); (try (have qz := instStep_zero (rs := rs) (l := l) (m := m) hz3 (by omega))); (try (have qp := instStep_pos (rs := rs) (l := l) (m := m) hz3 (by omega) hz17 (by simp only [IntKind.wrap_i64]; omega))); (try (have qS := srcA_at (rs := rs) (r := z2.1) (ts := z2.2) hz17)); (try (have qT := srcA_at (rs := rs) (r := z2.1) (ts := z2.2) (by assumption))); clear hl gl ho hrs; grind)⟩))
     exact ⟨⟨rfl, ⟨(eqI (wr64 (by omega) (by omega))), trivial⟩⟩, ⟨rfl, trivial⟩, rfl⟩
  ·
   have g5' := (bnt g5)
   refine dG 7 (nc g5) (fun _ => ?_)
   refine dG 8 (nc g5) (fun _ => ?_)
   refine dK 9 ?_
   refine dK 10 ?_
   refine dK 11 ?_
   refine dK 12 ?_
   refine dK 13 ?_
   refine dK 14 ?_
   refine dK 15 ?_
   refine dK 16 ?_
   refine dK 17 ?_
   refine dG 18 (nc g5) (fun _ => ?_)
   refine dT 19 rfl (p_pickT rfl g5 rfl) ?_
   refine dT 20 rfl pM ?_
   refine dG 21 (nc rfl) (fun _ => ?_)
   refine dG 22 (nc rfl) (fun _ => ?_)
   refine dG 23 (nc rfl) (fun _ => ?_)
   refine dG 24 (nc rfl) (fun _ => ?_)
   refine dG 25 (nc rfl) (fun _ => ?_)
   refine dG 26 (nc rfl) (fun _ => ?_)
   refine dG 27 (nc rfl) (fun _ => ?_)
   refine dG 28 (nc rfl) (fun _ => ?_)
   refine dK 29 ?_
   refine dK 30 ?_
   refine dK 31 ?_
   refine dK 32 ?_
   refine dG 33 (nc rfl) (fun _ => ?_)
   refine dT 34 rfl (p_pickT rfl rfl rfl) ?_
   refine d_end (by kernel_rfl) ?_
   refine t_cond rfl (fun _ => ?_) (nc rfl)
   refine tsr ?_
   refine r_op oA ?_
   refine r_end ?_
   refine t_ret Tryz.func34 (.tmp rfl .nil) rfl fun E S w u hI hd => ?_
   refine post_mk hI hd ?_ trivial rfl rfl rfl <;> clear hI hd <;> (try clear ih0)
   all_goals (refine scB ?_; (rw [instOk_not (rs := rs) (l := l) (m := m) (by omega) (by (try (have qb := instStep_bad (rs := rs) (l := l) (m := m) hz3 (by assumption))); (try (have qz := instStep_zero (rs := rs) (l := l) (m := m) hz3 (by omega))); (try (have qp := instStep_pos (rs := rs) (l := l) (m := m) hz3 (by omega) (by assumption) (by simp only [IntKind.wrap_i64]; omega))); (try (have qS := srcA_at (rs := rs) (r := z2.1) (ts := z2.2) (by assumption))); (try (have qT := srcA_at (rs := rs) (r := z2.1) (ts := z2.2) (by assumption))); clear hl gl ho hrs; grind)]; done))
 ·
  have h1' := of_decide_eq_false h1
  refine t_exit rfl ?_
  refine tsr ?_
  refine r_op (oF 0) ?_
  refine r_op oL ?_
  refine r_op (o_call 1 1 false (Go.Proofs.enters_of Tryz.func76 (by kernel_rfl) rfl) (c_spec_AreValidRelations (rs) (by omega)) rfl (.cons rfl (.c .t0) .nil) rfl rfl rfl) ?_
  refine r_op oM ?_
  refine r_guard rfl rfl rfl (fun g21 => ?_) (fun g21 => ?_)
  ·
   have g21' := g21
   refine r_op (oF 1) ?_
   refine r_guard rfl rfl rfl (fun _ => ?_) (nc g21)
   refine r_op oL ?_
   refine r_guard rfl rfl rfl (fun _ => ?_) (nc g21)
   refine r_op (o_len rfl rfl rfl) ?_
   refine r_guard rfl rfl rfl (fun _ => ?_) (nc g21)
   refine r_op oB ?_
   refine r_op (o_pickT rfl rfl g21 rfl) ?_
   refine r_op oA ?_
   refine r_end ?_
   refine t_ret Tryz.func34 (.tmp rfl .nil) rfl fun E S w u hI hd => ?_
   refine post_mk hI hd ?_ trivial rfl rfl rfl <;> clear hI hd <;> (try clear ih0)
   all_goals (refine scB ?_; (rw [instOk_end (m := m) i2 (by omega)]; clear hl gl ho hrs; grind))
  ·
   have g21' := g21
   refine r_guard rfl rfl rfl (ncf g21) (fun _ => ?_)
   refine r_guard rfl rfl rfl (ncf g21) (fun _ => ?_)
   refine r_guard rfl rfl rfl (ncf g21) (fun _ => ?_)
   refine r_op (o_pickF rfl rfl g21 rfl) ?_
   refine r_op oA ?_
   refine r_end ?_
   refine t_ret Tryz.func34 (.tmp rfl .nil) rfl fun E S w u hI hd => ?_
   refine post_mk hI hd ?_ trivial rfl rfl rfl <;> clear hI hd <;> (try clear ih0)
   all_goals (refine scB ?_; (rw [instOk_end (m := m) i2 (by omega)]; clear hl gl ho hrs; grind))
set_option maxHeartbeats 1000000 in
set_option maxRecDepth 10000 in
theorem c_spec_l11Ok (rs : Rels) (fs l : Atoms) (hrs : rs.length ≤ 4611686018427387904) (hfs : szS (fun (x : Int × (List (Int))) => (x.2).length) fs ≤ 1048576) (hll : szS (fun (x : Int × (List (Int))) => (x.2).length) l ≤ 1048576) (ho : ∀ z ∈ fs, ∀ x ∈ z.2, okI x) : Pu Tryz.prog 53 [.agg [.t none (.sl 3 (enS3 encS encI encB) (rs)), .t none (.sl 2 (enS2 encI (enSl 1 encI)) (fs))], .c (.t none (.sl 2 (enS2 encI (enSl 1 encI)) (l)))] [] 0 (.c (.t none (.v (.bool (mtOk rs fs l))))) := by
 refine pu_enter Tryz.func53 rfl (Nat.le_of_ble_eq_true rfl) fun w S => ?_
 have gl := sz_len (f := (fun (x : Int × (List (Int))) => (x.2).length)) (l := l)
 refine tsr ?_
 refine r_op (o_box 0 rfl rfl rfl rfl) ?_
 refine r_op oA ?_
 refine r_end ?_
 refine t_seq ?_
 refine tsr ?_
 refine r_op oA ?_
 refine r_end ?_
 refine t_block ?_
 refine t_loopL (fun m => ⟨[(1, some (.c (.t none (.sl 2 (enS2 encI (enSl 1 encI)) (l))))), (2, some (.c (.ptr 0 0))), (5, some (.c (.t none (.v (.int .i64 ((m : Int)))))))], [(0, some (.box [.t none (.sl 3 (enS3 encS encI encB) (rs)), .t none (.sl 2 (enS2 encI (enSl 1 encI)) (fs))]))], 1⟩ : Nat → St) (fun m => m ≤ l.length ∧ ∀ j z, j < m → l[j]? = some z → badA rs z = false) (fun m => l.length - m) 0 ⟨⟨rfl, ⟨rfl, ⟨rfl, trivial⟩⟩⟩, ⟨rfl, trivial⟩, rfl⟩ (by exact ⟨Nat.zero_le _, fun j z h => by omega⟩) ?_
 rintro m hI ih0
 try dsimp only at hI ih0
 obtain ⟨i1, i2⟩ := hI; have iA : l.length ≤ m → l.any (badA rs) = false := fun e => any_false i2 e
 refine t_seq ?_
 refine tsr ?_
 refine r_op oM ?_
 refine r_op oM ?_
 refine r_op (o_len rfl rfl rfl) ?_
 refine r_op oB ?_
 refine r_end ?_
 refine t_cond rfl (fun h1 => ?_) (fun h1 => ?_)
 ·
  have h1' := of_decide_eq_true h1
  refine t_skip ?_
  refine t_seq ?_
  refine t_block ?_
  refine t_seq ?_
  refine t_draw (fun _ => true) (by kernel_rfl) ?_
  refine dT 0 rfl (pF 0) ?_
  refine dT 1 rfl pL ?_
  refine dT 2 rfl pM ?_
  refine dT 3 rfl pM ?_
  obtain ⟨z2, hz3, b4⟩ := at_get (xs := l) (n := (m : Int)) (by omega) (by omega)
  refine dT 4 rfl (p_index (by kernel_rfl) rfl rfl b4 hz3) ?_
  refine dT 5 rfl (p_loadA (n := 2) (by kernel_rfl) (by kernel_rfl) rfl rfl) ?_
  refine dO 6 rfl (o_call 1 1 false (Go.Proofs.enters_of Tryz.func115 (by kernel_rfl) rfl) (c_spec_IsValidAtom (rs) (z2.1) (z2.2) (by omega) (by (have e1 := sz_at (f := (fun (x : Int × (List (Int))) => (x.2).length)) (l := l) (m := m) (by assumption); (try dsimp only at e1); omega))) rfl (.cons rfl (.c .t0) (.cons rfl (.agg (.cons .t0 (.cons .t0 .nil))) .nil)) rfl rfl rfl) ?_
  refine dT 7 rfl (p_not rfl) ?_
  refine d_end (by kernel_rfl) ?_
  refine t_cond rfl (fun h5 => ?_) (fun h5 => ?_)
  ·
   have h5' := (bnt h5)
   refine tsr ?_
   refine r_op oA ?_
   refine r_end ?_
   refine t_ret Tryz.func53 (.tmp rfl .nil) rfl fun E S w u hI hd => ?_
   refine post_mk hI hd ?_ trivial rfl rfl rfl <;> clear hI hd <;> (try clear ih0)
   all_goals (refine scB ?_; (try (have qA := iA (by omega))); (try (have qB := any_true (p := badA rs) (l := l) (m := m) hz3 (by unfold badA; grind))); clear hrs hfs hll ho gl; unfold mtOk; grind)
  ·
   have h5' := (bnf h5)
   refine t_skip ?_
   refine t_endblock ?_
   refine t_region ?_
   refine r_op oM ?_
   refine r_op oB ?_
   refine r_op oA ?_
   refine r_end ?_
   refine t_le ?_ (ih0 (m + 1) (by (try dsimp only); omega) (by (try dsimp only); exact ⟨by omega, no_step i2 (by assumption) rfl (by unfold badA; grind)⟩))
   exact ⟨⟨rfl, ⟨rfl, ⟨(eqI (wr64 (by omega) (by omega))), trivial⟩⟩⟩, ⟨rfl, trivial⟩, rfl⟩
 ·
  have h1' := of_decide_eq_false h1
  refine t_exit rfl ?_
  refine tsr ?_
  refine r_op (oC 2) ?_
  refine r_op (o_call 1 1 false (Go.Proofs.enters_of Tryz.func34 (by kernel_rfl) rfl) (c_spec_IsValidInstance (rs) (fs) (by omega) (by omega) (by omega)) rfl (.cons rfl (.agg (.cons .t0 (.cons .t0 .nil))) .nil) rfl rfl rfl) ?_
  refine r_op oM ?_
  refine r_guard rfl rfl rfl (fun g6 => ?_) (fun g6 => ?_)
  ·
   have g6' := g6
   refine r_op oM ?_
   refine r_guard rfl rfl rfl (fun _ => ?_) (nc g6)
   refine r_op (o_len rfl rfl rfl) ?_
   refine r_guard rfl rfl rfl (fun _ => ?_) (nc g6)
   refine r_op oB ?_
   refine r_op (o_pickT rfl rfl g6 rfl) ?_
   refine r_op oA ?_
   refine r_end ?_
   refine t_ret Tryz.func53 (.tmp rfl .nil) rfl fun E S w u hI hd => ?_
   refine post_mk hI hd ?_ trivial rfl rfl rfl <;> clear hI hd <;> (try clear ih0)
   all_goals (refine scB ?_; (try (have qA := iA (by omega))); (try (have qB := any_true (p := badA rs) (l := l) (m := m) (by assumption) (by unfold badA; grind))); clear hrs hfs hll ho gl; unfold mtOk; grind)
  ·
   have g6' := g6
   refine r_guard rfl rfl rfl (ncf g6) (fun _ => ?_)
   refine r_guard rfl rfl rfl (ncf g6) (fun _ => ?_)
   refine r_op (o_pickF rfl rfl g6 rfl) ?_
   refine r_op oA ?_
   refine r_end ?_
   refine t_ret Tryz.func53 (.tmp rfl .nil) rfl fun E S w u hI hd => ?_
   refine post_mk hI hd ?_ trivial rfl rfl rfl <;> clear hI hd <;> (try clear ih0)
   all_goals (refine scB ?_; (try (have qA := iA (by omega))); (try (have qB := any_true (p := badA rs) (l := l) (m := m) (by assumption) (by unfold badA; grind))); clear hrs hfs hll ho gl; unfold mtOk; grind)
set_option maxHeartbeats 1000000 in
set_option maxRecDepth 10000 in
theorem c_spec_l11None  : Pu Tryz.prog 70 [] [] 0 (.c (.t none (.v (.int .i64 (10))))) := by
 refine pu_enter Tryz.func70 rfl (Nat.le_of_ble_eq_true rfl) fun w S => ?_
 refine tsr ?_
 refine r_op oA ?_
 refine etr ?_
 refine r_op oA ?_
 refine r_end ?_
 refine t_ret Tryz.func70 (.tmp rfl .nil) rfl fun E S w u hI hd => ?_
 refine post_mk hI hd ?_ trivial rfl rfl rfl <;> clear hI hd
 all_goals (rfl)
set_option maxHeartbeats 1000000 in
set_option maxRecDepth 10000 in
theorem c_spec_l11Blank  : Pu Tryz.prog 55 [] [(0, some (.row none 3 true 1 encI (freeB)))] 1 (.c (.own 0)) := by
 refine pu_enter Tryz.func55 rfl (Nat.le_of_ble_eq_true rfl) fun w S => ?_
 refine tsr ?_
 refine r_op oA ?_
 refine etr ?_
 refine r_op (o_lit0 0 (e := 3) (sz := 1) (zs := [.int .i64 (0)]) encI rfl rfl (by kernel_rfl) rfl) ?_
 refine r_op oA ?_
 refine r_end ?_
 refine t_seq ?_
 refine t_block ?_
 refine t_loopL (fun m => ⟨[(0, some (.c (.t none (.v (.slice none 0 0))))), (1, some (.c (.own 0)))], [(0, some (.row none 3 true 1 encI (List.replicate m 10)))], 1⟩ : Nat → St) (fun m => m ≤ 5) (fun m => 5 - m) 0 ⟨⟨rfl, ⟨rfl, trivial⟩⟩, ⟨rfl, trivial⟩, rfl⟩ (by omega) ?_
 rintro m hI ih0
 try dsimp only at hI ih0
 have i1 := hI; have rl : (List.replicate m (10 : Int)).length = m := List.length_replicate
 refine t_seq ?_
 refine tsr ?_
 refine r_op oM ?_
 refine r_op (o_leno rfl rfl rfl rfl) ?_
 refine r_op oB ?_
 refine r_end ?_
 refine t_cond rfl (fun h1 => ?_) (fun h1 => ?_)
 ·
  have h1' := of_decide_eq_true h1
  refine t_skip ?_
  refine t_block ?_
  refine t_region ?_
  refine r_op oM ?_
  refine r_op (o_call 1 1 false (Go.Proofs.enters_of Tryz.func70 (by kernel_rfl) rfl) (c_spec_l11None ) rfl .nil rfl rfl rfl) ?_
  refine r_op (o_litS 1 (e := 3) (sz := 1) (zs := [.int .i64 (0)]) rfl rfl (by kernel_rfl) rfl rfl rfl rfl rfl) ?_
  refine r_op (o_append 0 (e := 3) (sz := 1) (by' := 8) (10) rfl (by kernel_rfl) rfl rfl rfl rfl rfl rfl (.cons .sc .nil) rfl (by omega) (by omega)) ?_
  refine r_op oA ?_
  refine r_end ?_
  refine t_endblock ?_
  refine t_le ?_ (ih0 (m + 1) (by (try dsimp only); omega) (by (try dsimp only); omega))
  exact ⟨⟨rfl, ⟨rfl, trivial⟩⟩, ⟨(eqR (List.replicate_succ').symm), trivial⟩, rfl⟩
 ·
  have h1' := of_decide_eq_false h1
  refine t_exit rfl ?_
  refine tsr ?_
  refine r_op oM ?_
  refine r_op oA ?_
  refine r_end ?_
  refine t_ret Tryz.func55 (.tmp rfl .nil) rfl fun E S w u hI hd => ?_
  refine post_mk hI hd ?_ ⟨eqR ?_, trivial⟩ rfl rfl rfl <;> clear hI hd <;> (try clear ih0)
  all_goals first | rfl | ((obtain rfl : m = 5 := by omega); rfl)
set_option maxHeartbeats 1000000 in
set_option maxRecDepth 10000 in
theorem c_spec_l11Fit (b : List Int) (r : Int) (ts : List Int) (r2 : Int) (vs : List Int) (hb : b.length = 5) (ha : ts.length ≤ 4611686018427387904) (ht : ∀ t ∈ ts, -10 ≤ t ∧ t ≤ 4) (hv : r = r2 → ts.length = vs.length) : Pu Tryz.prog 116 [.agg [.t none (.v (.int .i64 (r))), .t none (.sl 1 encI (ts))], .agg [.t none (.v (.int .i64 (r2))), .t none (.sl 1 encI (vs))], .c (.t none (.sl 1 encI (b)))] [(0, some (.row none 3 true 1 encI ((fitF (r, ts) (r2, vs) b).1)))] 1 (.tup [(false, [.own 0]), (false, [.t none (.v (.bool ((fitF (r, ts) (r2, vs) b).2)))])]) := by
 refine pu_enter Tryz.func116 rfl (Nat.le_of_ble_eq_true rfl) fun w S => ?_
 refine tsr ?_
 refine r_op (o_box 0 rfl rfl rfl rfl) ?_
 refine r_op (o_box 1 rfl rfl rfl rfl) ?_
 refine r_op oA ?_
 refine r_op oA ?_
 refine etr ?_
 refine r_op (o_lit0 2 (e := 3) (sz := 1) (zs := [.int .i64 (0)]) encI rfl rfl (by kernel_rfl) rfl) ?_
 refine r_op oM ?_
 refine r_op (o_appendS 2 (e := 3) (sz := 1) (by' := 8) rfl (by kernel_rfl) rfl rfl rfl rfl (fun _ _ => ⟨_, rfl⟩) (by (simp; omega)) (by (simp; omega))) ?_
 refine r_op oA ?_
 refine r_end ?_
 refine t_seq ?_
 refine tsr ?_
 refine r_op (oF 0) ?_
 refine r_op oL ?_
 refine r_op (oF 0) ?_
 refine r_op oL ?_
 refine r_op oB ?_
 refine r_op oM ?_
 refine r_guard rfl rfl rfl (fun g1 => ?_) (fun g1 => ?_)
 ·
  have g1' := of_decide_eq_false g1
  refine r_op (oF 1) ?_
  refine r_guard rfl rfl rfl (fun _ => ?_) (ncf g1)
  refine r_op oL ?_
  refine r_guard rfl rfl rfl (fun _ => ?_) (ncf g1)
  refine r_op (o_len rfl rfl rfl) ?_
  refine r_guard rfl rfl rfl (fun _ => ?_) (ncf g1)
  refine r_op (oF 1) ?_
  refine r_guard rfl rfl rfl (fun _ => ?_) (ncf g1)
  refine r_op oL ?_
  refine r_guard rfl rfl rfl (fun _ => ?_) (ncf g1)
  refine r_op (o_len rfl rfl rfl) ?_
  refine r_guard rfl rfl rfl (fun _ => ?_) (ncf g1)
  refine r_op oB ?_
  refine r_op (o_pickF rfl rfl g1 rfl) ?_
  refine r_end ?_
  refine t_cond rfl (fun h2 => ?_) (fun h2 => ?_)
  ·
   have h2' := of_decide_eq_true h2
   refine tsr ?_
   refine r_op oM ?_
   refine r_op oA ?_
   refine r_op oA ?_
   refine r_end ?_
   refine gt_as0b 6 2 7 rfl rfl rfl rfl ?_
   refine t_ret Tryz.func116 (.tmp rfl (.tmp rfl .nil)) rfl fun E S w u hI hd => ?_
   refine post_mk hI hd ?_ ⟨eqR ?_, trivial⟩ rfl rfl rfl <;> clear hI hd <;> (try clear ih0)
   all_goals ((exfalso; have e9 := hv (by omega); omega))
  ·
   have h2' := of_decide_eq_false h2
   refine t_skip ?_
   refine t_seq ?_
   refine tsr ?_
   refine r_op oA ?_
   refine r_end ?_
   refine t_block ?_
   refine t_loopL (fun (m, q) => ⟨[(3, some (.c (.ptr 0 0))), (4, some (.c (.ptr 1 0))), (8, some (.c (.own 2))), (9, some (.c (.t none (.v (.int .i64 ((m : Int)))))))], [(0, some (.box [.t none (.v (.int .i64 (r))), .t none (.sl 1 encI (ts))])), (1, some (.box [.t none (.v (.int .i64 (r2))), .t none (.sl 1 encI (vs))])), (2, some (.row none 3 true 1 encI (q)))], 3⟩ : Nat × List Int → St) (fun (m, q) => m ≤ ts.length ∧ q.length = 5 ∧ fitP b ((ts.zip vs).take m) = (q, true)) (fun (m, q) => ts.length - m) (0, b) ⟨⟨rfl, ⟨rfl, ⟨rfl, ⟨rfl, trivial⟩⟩⟩⟩, ⟨rfl, ⟨rfl, ⟨(eqR rfl), trivial⟩⟩⟩, rfl⟩ (by exact ⟨Nat.zero_le _, hb, rfl⟩) ?_
   rintro ⟨m, q⟩ hI ih0
   try dsimp only at hI ih0
   obtain ⟨i1, i2, i3⟩ := hI
   refine t_seq ?_
   refine tsr ?_
   refine r_op oM ?_
   refine r_op (oF 1) ?_
   refine r_op oL ?_
   refine r_op (o_len rfl rfl rfl) ?_
   refine r_op oB ?_
   refine r_end ?_
   refine t_cond rfl (fun h3 => ?_) (fun h3 => ?_)
   ·
    have h3' := of_decide_eq_true h3
    refine t_skip ?_
    refine t_seq ?_
    refine t_block ?_
    refine tsr ?_
    refine r_op (oF 1) ?_
    refine r_op oL ?_
    refine r_op oM ?_
    obtain ⟨z4, hz5, b6⟩ := at_get (xs := ts) (n := (m : Int)) (by omega) (by omega)
    refine r_op (o_index rfl (by kernel_rfl) rfl rfl b6 hz5) ?_
    refine r_op (o_load1 rfl (by kernel_rfl) rfl rfl) ?_
    refine r_op oA ?_
    refine r_end ?_
    refine t_seq ?_
    refine tsr ?_
    refine r_op oM ?_
    refine r_op oB ?_
    refine r_end ?_
    refine t_cond rfl (fun h7 => ?_) (fun h7 => ?_)
    ·
     have h7' := of_decide_eq_true h7
     refine t_seq ?_
     refine tsr ?_
     refine r_op oM ?_
     refine r_op oB ?_
     refine r_op (oF 1) ?_
     refine r_op oL ?_
     refine r_op oM ?_
     obtain ⟨z8, hz9, b10⟩ := at_get (xs := vs) (n := (m : Int)) (by omega) (by omega)
     refine r_op (o_index rfl (by kernel_rfl) rfl rfl b10 hz9) ?_
     refine r_op (o_load1 rfl (by kernel_rfl) rfl rfl) ?_
     refine r_op oB ?_
     refine r_end ?_
     refine t_cond rfl (fun h11 => ?_) (fun h11 => ?_)
     ·
      have h11' := of_decide_eq_true h11
      refine tsr ?_
      refine r_op oM ?_
      refine r_op oA ?_
      refine r_op oA ?_
      refine r_end ?_
      refine gt_as0b 6 2 7 rfl rfl rfl rfl ?_
      refine t_ret Tryz.func116 (.tmp rfl (.tmp rfl .nil)) rfl fun E S w u hI hd => ?_
      refine post_mk hI hd ?_ ⟨eqR ?_, trivial⟩ rfl rfl rfl <;> clear hI hd <;> (try clear ih0)
      all_goals (first | (exfalso; have e9 := hv (by omega); omega) | (have e : fitF (r, ts) (r2, vs) b = _ := (by exact fitF_yes (by omega) (fit_bad i3 (zip_at hz5 hz9 rfl rfl) (fs_neg_bad (by omega) (by (have o1 := ht _ (List.mem_of_getElem? hz5); have o2 : IntKind.i64.wrap (-1 - z4) = -1 - z4 := wr64 (by omega) (by omega); omega)))))); (rw [e]; done))
     ·
      have h11' := of_decide_eq_false h11
      refine t_skip ?_
      refine t_exit rfl ?_
      refine t_region ?_
      refine r_op oM ?_
      refine r_op oB ?_
      refine r_op oA ?_
      refine r_end ?_
      refine t_le ?_ (ih0 (m + 1, q) (by (try dsimp only); omega) (by (try dsimp only); exact ⟨by omega, (by exact i2), by (exact fit_more i3 (zip_at hz5 hz9 rfl rfl) (fs_neg (by omega) (by (have o1 := ht _ (List.mem_of_getElem? hz5); have o2 : IntKind.i64.wrap (-1 - z4) = -1 - z4 := wr64 (by omega) (by omega); omega))))⟩))
      exact ⟨⟨rfl, ⟨rfl, ⟨rfl, ⟨(eqI (wr64 (by omega) (by omega))), trivial⟩⟩⟩⟩, ⟨rfl, ⟨rfl, ⟨rfl, trivial⟩⟩⟩, rfl⟩
    ·
     have h7' := of_decide_eq_false h7
     refine t_skip ?_
     refine t_seq ?_
     refine t_seq ?_
     refine t_draw (fun _ => true) (by kernel_rfl) ?_
     refine dT 0 rfl pM ?_
     refine dT 1 rfl pM ?_
     obtain ⟨z12, hz13, b14⟩ := at_get (xs := q) (n := z4) (by omega) (by (have o1 := ht _ (List.mem_of_getElem? (by assumption)); omega))
     refine dT 2 rfl (p_indexo (by kernel_rfl) rfl rfl rfl b14 (at_lt b14 hz13)) ?_
     refine dT 3 rfl (p_load1o (by kernel_rfl) rfl rfl rfl hz13) ?_
     refine dO 4 rfl (o_call 3 3 false (Go.Proofs.enters_of Tryz.func70 (by kernel_rfl) rfl) (c_spec_l11None ) rfl .nil rfl rfl rfl) ?_
     refine dT 5 rfl pB ?_
     refine dT 6 rfl pM ?_
     refine dH 7 rfl (fun _ => pM) (fun g15 => ?_) (fun g15 => ?_)
     ·
      have g15' := of_decide_eq_true g15
      refine dH 8 rfl (fun _ => pM) (fun _ => ?_) (nc g15)
      refine dH 9 rfl (fun _ => p_indexo (by kernel_rfl) rfl rfl rfl b14 (at_lt b14 hz13)) (fun _ => ?_) (nc g15)
      refine dH 10 rfl (fun _ => p_load1o (by kernel_rfl) rfl rfl rfl hz13) (fun _ => ?_) (nc g15)
      refine dH 11 rfl (fun _ => pF 1) (fun _ => ?_) (nc g15)
      refine dH 12 rfl (fun _ => pL) (fun _ => ?_) (nc g15)
      refine dH 13 rfl (fun _ => pM) (fun _ => ?_) (nc g15)
      obtain ⟨z16, hz17, b18⟩ := at_get (xs := vs) (n := (m : Int)) (by omega) (by omega)
      refine dH 14 rfl (fun _ => p_index (by kernel_rfl) rfl rfl b18 hz17) (fun _ => ?_) (nc g15)
      refine dH 15 rfl (fun _ => p_load1 (by kernel_rfl) rfl rfl) (fun _ => ?_) (nc g15)
      refine dH 16 rfl (fun _ => pB) (fun _ => ?_) (nc g15)
      refine dT 17 rfl (p_pickT rfl g15 rfl) ?_
      refine d_end (by kernel_rfl) ?_
      refine t_cond rfl (fun h19 => ?_) (fun h19 => ?_)
      ·
       have h19' := of_decide_eq_true h19
       refine tsr ?_
       refine r_op oM ?_
       refine r_op oA ?_
       refine r_op oA ?_
       refine r_end ?_
       refine gt_as0b 6 2 7 rfl rfl rfl rfl ?_
       refine t_ret Tryz.func116 (.tmp rfl (.tmp rfl .nil)) rfl fun E S w u hI hd => ?_
       refine post_mk hI hd ?_ ⟨eqR ?_, trivial⟩ rfl rfl rfl <;> clear hI hd <;> (try clear ih0)
       all_goals (first | (exfalso; have e9 := hv (by omega); omega) | (have e : fitF (r, ts) (r2, vs) b = _ := (by exact fitF_yes (by omega) (fit_bad i3 (zip_at hz5 hz17 rfl rfl) (fs_bad (by omega) hz13 (by omega) (by omega))))); (rw [e]; done))
      ·
       have h19' := of_decide_eq_false h19
       refine t_skip ?_
       refine t_region ?_
       refine r_op oM ?_
       refine r_op oM ?_
       refine r_op (oF 1) ?_
       refine r_op oL ?_
       refine r_op oM ?_
       refine r_op (o_index rfl (by kernel_rfl) rfl rfl b18 hz17) ?_
       refine r_op (o_load1 rfl (by kernel_rfl) rfl rfl) ?_
       refine r_op (o_indexo rfl (by kernel_rfl) rfl rfl rfl b14 (at_lt b14 hz13)) ?_
       refine r_op (o_storeo (z16) (n := 1) (by kernel_rfl) rfl rfl hz13 rfl rfl rfl rfl (.cons .sc .nil) rfl (fun j h1 h2 => by (simp at h1 h2; omega))) ?_
       refine r_end ?_
       refine t_endblock ?_
       refine t_region ?_
       refine r_op oM ?_
       refine r_op oB ?_
       refine r_op oA ?_
       refine r_end ?_
       refine t_le ?_ (ih0 (m + 1, (q).set (z4).toNat (z16)) (by (try dsimp only); omega) (by (try dsimp only); exact ⟨by omega, (by (rw [List.length_set]; exact i2)), by (exact fit_more i3 (zip_at hz5 hz17 rfl rfl) (fs_set (by omega) hz13 (by omega)))⟩))
       exact ⟨⟨rfl, ⟨rfl, ⟨rfl, ⟨(eqI (wr64 (by omega) (by omega))), trivial⟩⟩⟩⟩, ⟨rfl, ⟨rfl, ⟨rfl, trivial⟩⟩⟩, rfl⟩
     ·
      have g15' := of_decide_eq_false g15
      refine dG 8 (ncf g15) (fun _ => ?_)
      refine dG 9 (ncf g15) (fun _ => ?_)
      refine dG 10 (ncf g15) (fun _ => ?_)
      refine dG 11 (ncf g15) (fun _ => ?_)
      refine dG 12 (ncf g15) (fun _ => ?_)
      refine dG 13 (ncf g15) (fun _ => ?_)
      refine dG 14 (ncf g15) (fun _ => ?_)
      refine dG 15 (ncf g15) (fun _ => ?_)
      refine dG 16 (ncf g15) (fun _ => ?_)
      refine dT 17 rfl (p_pickF rfl g15 rfl) ?_
      refine d_end (by kernel_rfl) ?_
      refine t_cond rfl (ncf rfl) (fun _ => ?_)
      refine t_skip ?_
      refine t_region ?_
      refine r_op oM ?_
      refine r_op oM ?_
      refine r_op (oF 1) ?_
      refine r_op oL ?_
      refine r_op oM ?_
      obtain ⟨z20, hz21, b22⟩ := at_get (xs := vs) (n := (m : Int)) (by omega) (by omega)
      refine r_op (o_index rfl (by kernel_rfl) rfl rfl b22 hz21) ?_
      refine r_op (o_load1 rfl (by kernel_rfl) rfl rfl) ?_
      refine r_op (o_indexo rfl (by kernel_rfl) rfl rfl rfl b14 (at_lt b14 hz13)) ?_
      refine r_op (o_storeo (z20) (n := 1) (by kernel_rfl) rfl rfl hz13 rfl rfl rfl rfl (.cons .sc .nil) rfl (fun j h1 h2 => by (simp at h1 h2; omega))) ?_
      refine r_end ?_
      refine t_endblock ?_
      refine t_region ?_
      refine r_op oM ?_
      refine r_op oB ?_
      refine r_op oA ?_
      refine r_end ?_
      refine t_le ?_ (ih0 (m + 1, (q).set (z4).toNat (z20)) (by (try dsimp only); omega) (by (try dsimp only); exact ⟨by omega, (by (rw [List.length_set]; exact i2)), by (exact fit_more i3 (zip_at hz5 hz21 rfl rfl) (fs_set (by omega) hz13 (by omega)))⟩))
      exact ⟨⟨rfl, ⟨rfl, ⟨rfl, ⟨(eqI (wr64 (by omega) (by omega))), trivial⟩⟩⟩⟩, ⟨rfl, ⟨rfl, ⟨rfl, trivial⟩⟩⟩, rfl⟩
   ·
    have h3' := of_decide_eq_false h3
    refine t_exit rfl ?_
    refine tsr ?_
    refine r_op oM ?_
    refine r_op oA ?_
    refine r_op oA ?_
    refine r_end ?_
    refine gt_as0b 6 2 7 rfl rfl rfl rfl ?_
    refine t_ret Tryz.func116 (.tmp rfl (.tmp rfl .nil)) rfl fun E S w u hI hd => ?_
    refine post_mk hI hd ?_ ⟨eqR ?_, trivial⟩ rfl rfl rfl <;> clear hI hd <;> (try clear ih0)
    all_goals (first | (exfalso; have e9 := hv (by omega); omega) | (have e : fitF (r, ts) (r2, vs) b = _ := (by exact fitF_yes (by omega) (fit_end i3 (by omega)))); (rw [e]; done))
 ·
  have g1' := of_decide_eq_true g1
  refine r_guard rfl rfl rfl (nc g1) (fun _ => ?_)
  refine r_guard rfl rfl rfl (nc g1) (fun _ => ?_)
  refine r_guard rfl rfl rfl (nc g1) (fun _ => ?_)
  refine r_guard rfl rfl rfl (nc g1) (fun _ => ?_)
  refine r_guard rfl rfl rfl (nc g1) (fun _ => ?_)
  refine r_guard rfl rfl rfl (nc g1) (fun _ => ?_)
  refine r_op (o_pickT rfl rfl g1 rfl) ?_
  refine r_end ?_
  refine t_cond rfl (fun _ => ?_) (nc rfl)
  refine tsr ?_
  refine r_op oM ?_
  refine r_op oA ?_
  refine r_op oA ?_
  refine r_end ?_
  refine gt_as0b 6 2 7 rfl rfl rfl rfl ?_
  refine t_ret Tryz.func116 (.tmp rfl (.tmp rfl .nil)) rfl fun E S w u hI hd => ?_
  refine post_mk hI hd ?_ ⟨eqR ?_, trivial⟩ rfl rfl rfl <;> clear hI hd <;> (try clear ih0)
  all_goals (first | (exfalso; have e9 := hv (by omega); omega) | (have e : fitF (r, ts) (r2, vs) b = _ := (by exact fitF_no (by omega))); first | (rw [e]; done) | (rw [e]; rfl))
set_option maxHeartbeats 1000000 in
set_option maxRecDepth 10000 in
theorem c_spec_l11Walk_n : ∀ (n : Nat) (rs : Rels) (fs l : Atoms) (k : Int) (b : List Int) (hf : fs.length ≤ 30) (hl : l.length ≤ 3) (hb : b.length = 5) (hv : ∀ a ∈ l, ∀ f ∈ fs, a.1 = f.1 → a.2.length = f.2.length) (ht : ∀ a ∈ l, (∀ t ∈ a.2, -10 ≤ t ∧ t ≤ 4) ∧ a.2.length ≤ 4611686018427387904) (hk : 0 ≤ k ∧ k ≤ l.length) (hn : l.length - k.toNat = n), Pu Tryz.prog 54 [.agg [.t none (.sl 3 (enS3 encS encI encB) (rs)), .t none (.sl 2 (enS2 encI (enSl 1 encI)) (fs))], .c (.t none (.sl 2 (enS2 encI (enSl 1 encI)) (l))), .c (.t none (.v (.int .i64 (k)))), .c (.t none (.sl 1 encI (b)))] [(0, some (.row none 34 true 1 (enSl 1 encI) (matchL fs (l.drop k.toNat) b)))] 1 (.c (.own 0)) := by
 refine rec_on fun n ih => ?_
 intro rs fs l k b hf hl hb hv ht hk hn
 have rec_ : ∀ (rs : Rels) (fs l : Atoms) (k : Int) (b : List Int) (hdec : l.length - k.toNat < n) (hf : fs.length ≤ 30) (hl : l.length ≤ 3) (hb : b.length = 5) (hv : ∀ a ∈ l, ∀ f ∈ fs, a.1 = f.1 → a.2.length = f.2.length) (ht : ∀ a ∈ l, (∀ t ∈ a.2, -10 ≤ t ∧ t ≤ 4) ∧ a.2.length ≤ 4611686018427387904) (hk : 0 ≤ k ∧ k ≤ l.length), Pu Tryz.prog 54 [.agg [.t none (.sl 3 (enS3 encS encI encB) (rs)), .t none (.sl 2 (enS2 encI (enSl 1 encI)) (fs))], .c (.t none (.sl 2 (enS2 encI (enSl 1 encI)) (l))), .c (.t none (.v (.int .i64 (k)))), .c (.t none (.sl 1 encI (b)))] [(0, some (.row none 34 true 1 (enSl 1 encI) (matchL fs (l.drop k.toNat) b)))] 1 (.c (.own 0)) := fun rs fs l k b hdec hf hl hb hv ht hk => ih _ hdec rs fs l k b hf hl hb hv ht hk rfl
 refine pu_enter Tryz.func54 rfl (Nat.le_of_ble_eq_true rfl) fun w S => ?_
 refine tsr ?_
 refine r_op (o_box 0 rfl rfl rfl rfl) ?_
 refine r_op oA ?_
 refine r_end ?_
 refine t_seq ?_
 refine tsr ?_
 refine r_op oM ?_
 refine r_op oM ?_
 refine r_op (o_len rfl rfl rfl) ?_
 refine r_op oB ?_
 refine r_end ?_
 refine t_cond rfl (fun h1 => ?_) (fun h1 => ?_)
 ·
  have h1' := of_decide_eq_true h1
  refine tsr ?_
  refine r_op (o_lit0 1 (e := 3) (sz := 1) (zs := [.int .i64 (0)]) encI rfl rfl (by kernel_rfl) rfl) ?_
  refine r_op oM ?_
  refine r_op (o_appendS 1 (e := 3) (sz := 1) (by' := 8) rfl (by kernel_rfl) rfl rfl rfl rfl (fun _ _ => ⟨_, rfl⟩) (by (simp; omega)) (by (simp; omega))) ?_
  refine r_op (o_lit2 2 (e := 34) (sz := 1) (zs := [.slice none 0 0]) (enc := (enSl 1 encI)) (([]) ++ b) rfl rfl (by kernel_rfl) rfl rfl rfl rfl rfl rfl (.take (.own rfl) rfl .nil) rfl) ?_
  refine r_op oA ?_
  refine r_end ?_
  refine gt_as0 8 2 rfl rfl ?_
  refine t_ret Tryz.func54 (.tmp rfl .nil) rfl fun E S w u hI hd => ?_
  refine post_mk hI hd ?_ ⟨eqR ?_, trivial⟩ rfl rfl rfl <;> clear hI hd <;> (try clear ih0)
  all_goals first | rfl | ((exact (walk_nil (by assumption)).symm))
 ·
  have h1' := of_decide_eq_false h1
  refine t_skip ?_
  refine tsr ?_
  refine r_op (o_lit0 1 (e := 34) (sz := 1) (zs := [.slice none 0 0]) (enSl 1 encI) rfl rfl (by kernel_rfl) rfl) ?_
  refine r_op oA ?_
  refine r_end ?_
  refine t_seq ?_
  refine tsr ?_
  refine r_op oA ?_
  refine r_end ?_
  refine t_block ?_
  refine t_loopL (fun m => ⟨[(1, some (.c (.t none (.sl 2 (enS2 encI (enSl 1 encI)) (l))))), (2, some (.c (.t none (.v (.int .i64 (k)))))), (3, some (.c (.t none (.sl 1 encI (b))))), (4, some (.c (.ptr 0 0))), (8, some (.c (.t none (.v (.slice none 0 0))))), (9, some (.c (.own 1))), (10, some (.c (.t none (.v (.int .i64 ((m : Int)))))))], [(0, some (.box [.t none (.sl 3 (enS3 encS encI encB) (rs)), .t none (.sl 2 (enS2 encI (enSl 1 encI)) (fs))])), (1, some (.row none 34 true 1 (enSl 1 encI) (matchM fs (l.drop k.toNat) b m)))], 2⟩ : Nat → St) (fun m => m ≤ fs.length) (fun m => fs.length - m) 0 ⟨⟨rfl, ⟨rfl, ⟨rfl, ⟨rfl, ⟨rfl, ⟨rfl, ⟨rfl, trivial⟩⟩⟩⟩⟩⟩⟩, ⟨rfl, ⟨(eqR (walk_z (by assumption) hk).symm), trivial⟩⟩, rfl⟩ (by exact Nat.zero_le _) ?_
  rintro m hI ih0
  try dsimp only at hI ih0
  have i1 := hI
  refine t_seq ?_
  refine tsr ?_
  refine r_op oM ?_
  refine r_op (oF 1) ?_
  refine r_op oL ?_
  refine r_op (o_len rfl rfl rfl) ?_
  refine r_op oB ?_
  refine r_end ?_
  refine t_cond rfl (fun h2 => ?_) (fun h2 => ?_)
  ·
   have h2' := of_decide_eq_true h2
   refine t_skip ?_
   refine t_seq ?_
   refine t_block ?_
   refine t_seq ?_
   refine t_draw (fun _ => true) (by kernel_rfl) ?_
   refine dT 0 rfl pM ?_
   refine dT 1 rfl pM ?_
   obtain ⟨z3, hz4, b5⟩ := at_get (xs := l) (n := k) (by omega) (by omega)
   refine dT 2 rfl (p_index (by kernel_rfl) rfl rfl b5 hz4) ?_
   refine dT 3 rfl (p_loadA (n := 2) (by kernel_rfl) (by kernel_rfl) rfl rfl) ?_
   refine dT 4 rfl (pF 1) ?_
   refine dT 5 rfl pL ?_
   refine dT 6 rfl pM ?_
   obtain ⟨z6, hz7, b8⟩ := at_get (xs := fs) (n := (m : Int)) (by omega) (by omega)
   refine dT 7 rfl (p_index (by kernel_rfl) rfl rfl b8 hz7) ?_
   refine dT 8 rfl (p_loadA (n := 2) (by kernel_rfl) (by kernel_rfl) rfl rfl) ?_
   refine dT 9 rfl pM ?_
   refine dO 10 rfl (o_call 2 3 false (Go.Proofs.enters_of Tryz.func116 (by kernel_rfl) rfl) (c_spec_l11Fit (b) (z3.1) (z3.2) (z6.1) (z6.2) (by omega) (by exact (ht _ (List.mem_of_getElem? (by assumption))).2) (by exact (ht _ (List.mem_of_getElem? (by assumption))).1) (by exact hv _ (List.mem_of_getElem? (by assumption)) _ (List.mem_of_getElem? (by assumption)))) rfl (.cons rfl (.agg (.cons .t0 (.cons .t0 .nil))) (.cons rfl (.agg (.cons .t0 (.cons .t0 .nil))) (.cons rfl (.c .t0) .nil))) rfl rfl rfl) ?_
   refine dT 11 rfl pM ?_
   refine dT 12 rfl (p_extract rfl rfl rfl) ?_
   refine dT 13 rfl (p_extract rfl rfl rfl) ?_
   refine dT 14 rfl pA ?_
   refine dT 15 rfl pA ?_
   refine d_end (by kernel_rfl) ?_
   refine tsr ?_
   refine r_op oM ?_
   refine r_end ?_
   refine t_cond rfl (fun h9 => ?_) (fun h9 => ?_)
   ·
    have h9' := h9
    refine t_region ?_
    refine r_op oM ?_
    refine r_op (oC 2) ?_
    refine r_op oM ?_
    refine r_op oM ?_
    refine r_op oB ?_
    refine r_op oM ?_
    refine r_op (o_call 3 4 false (Go.Proofs.enters_of Tryz.func54 (by kernel_rfl) rfl) (rec_ (rs) (fs) (l) (IntKind.i64.wrap (k + 1)) ((fitF ((z3.1), (z3.2)) ((z6.1), (z6.2)) (b)).1) (by (rw [wr64 (by omega) (by omega)]; omega)) (by omega) (by omega) (by exact (fitF_len _ _ _).trans hb) (by omega) (by omega) (by (rw [wr64 (by omega) (by omega)]; omega))) rfl (.cons rfl (.agg (.cons .t0 (.cons .t0 .nil))) (.cons rfl (.c .t0) (.cons rfl (.c .t0) (.cons rfl (.c (.own rfl)) .nil)))) rfl rfl rfl) ?_
    refine r_op (o_appendD 1 (e := 34) (sz := 1) (by' := 24) rfl (by kernel_rfl) rfl rfl rfl rfl rfl rfl (by (refine Nat.le_trans (Nat.mul_le_mul_right _ (room_w hf hl (by assumption) hk (by simp only [List.length_drop]; omega))) (by decide))) (by exact Nat.le_trans (room_w hf hl (by assumption) hk (by simp only [List.length_drop]; omega)) (by decide))) ?_
    refine r_op oA ?_
    refine r_end ?_
    refine t_endblock ?_
    refine t_region ?_
    refine r_op oM ?_
    refine r_op oB ?_
    refine r_op oA ?_
    refine r_end ?_
    refine t_le ?_ (ih0 (m + 1) (by (try dsimp only); omega) (by (try dsimp only); omega))
    exact ⟨⟨rfl, ⟨rfl, ⟨rfl, ⟨rfl, ⟨rfl, ⟨rfl, ⟨(eqI (wr64 (by omega) (by omega))), trivial⟩⟩⟩⟩⟩⟩⟩, ⟨rfl, ⟨(eqR (by exact walk_yes hz4 hz7 rfl (by assumption) (by rw [wr64 (by omega) (by omega)]; omega) rfl)), trivial⟩⟩, rfl⟩
   ·
    have h9' := h9
    refine t_skip ?_
    refine t_endblock ?_
    refine t_region ?_
    refine r_op oM ?_
    refine r_op oB ?_
    refine r_op oA ?_
    refine r_end ?_
    refine t_le ?_ (ih0 (m + 1) (by (try dsimp only); omega) (by (try dsimp only); omega))
    exact ⟨⟨rfl, ⟨rfl, ⟨rfl, ⟨rfl, ⟨rfl, ⟨rfl, ⟨(eqI (wr64 (by omega) (by omega))), trivial⟩⟩⟩⟩⟩⟩⟩, ⟨rfl, ⟨(eqR (by exact walk_no hz4 hz7 rfl (by assumption))), trivial⟩⟩, rfl⟩
  ·
   have h2' := of_decide_eq_false h2
   refine t_exit rfl ?_
   refine tsr ?_
   refine r_op oM ?_
   refine r_op oA ?_
   refine r_end ?_
   refine gt_as0 8 1 rfl rfl ?_
   refine t_ret Tryz.func54 (.tmp rfl .nil) rfl fun E S w u hI hd => ?_
   refine post_mk hI hd ?_ ⟨eqR ?_, trivial⟩ rfl rfl rfl <;> clear hI hd <;> (try clear ih0)
   all_goals first | rfl | ((exact matchM_end (drop_ne (by assumption) hk) (by omega)))
theorem c_spec_l11Walk (rs : Rels) (fs l : Atoms) (k : Int) (b : List Int) (hf : fs.length ≤ 30) (hl : l.length ≤ 3) (hb : b.length = 5) (hv : ∀ a ∈ l, ∀ f ∈ fs, a.1 = f.1 → a.2.length = f.2.length) (ht : ∀ a ∈ l, (∀ t ∈ a.2, -10 ≤ t ∧ t ≤ 4) ∧ a.2.length ≤ 4611686018427387904) (hk : 0 ≤ k ∧ k ≤ l.length) : Pu Tryz.prog 54 [.agg [.t none (.sl 3 (enS3 encS encI encB) (rs)), .t none (.sl 2 (enS2 encI (enSl 1 encI)) (fs))], .c (.t none (.sl 2 (enS2 encI (enSl 1 encI)) (l))), .c (.t none (.v (.int .i64 (k)))), .c (.t none (.sl 1 encI (b)))] [(0, some (.row none 34 true 1 (enSl 1 encI) (matchL fs (l.drop k.toNat) b)))] 1 (.c (.own 0)) := c_spec_l11Walk_n _ rs fs l k b hf hl hb hv ht hk rfl
set_option maxHeartbeats 1000000 in
set_option maxRecDepth 10000 in
theorem c_spec_FindMatches (rs : Rels) (fs l : Atoms) (hrs : rs.length ≤ 4611686018427387904) (hfs : szS (fun (x : Int × (List (Int))) => (x.2).length) fs ≤ 1048576) (hll : szS (fun (x : Int × (List (Int))) => (x.2).length) l ≤ 1048576) (ho : ∀ z ∈ fs, ∀ x ∈ z.2, okI x) : Pu Tryz.prog 11 [.agg [.t none (.sl 3 (enS3 encS encI encB) (rs)), .t none (.sl 2 (enS2 encI (enSl 1 encI)) (fs))], .c (.t none (.sl 2 (enS2 encI (enSl 1 encI)) (l)))] [(1, some (.row none 34 true 1 (enSl 1 encI) (findL rs fs l)))] 2 (.c (.own 1)) := by
 refine pu_enter Tryz.func11 rfl (Nat.le_of_ble_eq_true rfl) fun w S => ?_
 refine tsr ?_
 refine r_op (o_box 0 rfl rfl rfl rfl) ?_
 refine r_op oA ?_
 refine etr ?_
 refine r_op (o_lit0 1 (e := 34) (sz := 1) (zs := [.slice none 0 0]) (enSl 1 encI) rfl rfl (by kernel_rfl) rfl) ?_
 refine r_op oA ?_
 refine r_end ?_
 refine t_seq ?_
 refine tsr ?_
 refine r_op (oC 2) ?_
 refine r_op oM ?_
 refine r_op (o_call 2 2 false (Go.Proofs.enters_of Tryz.func53 (by kernel_rfl) rfl) (c_spec_l11Ok (rs) (fs) (l) (by omega) (by omega) (by omega) (by omega)) rfl (.cons rfl (.agg (.cons .t0 (.cons .t0 .nil))) (.cons rfl (.c .t0) .nil)) rfl rfl rfl) ?_
 refine r_op (o_not rfl rfl) ?_
 refine r_end ?_
 refine t_cond rfl (fun h1 => ?_) (fun h1 => ?_)
 ·
  have h1' := (bnt h1)
  refine tsr ?_
  refine r_op oM ?_
  refine r_op oA ?_
  refine r_end ?_
  refine t_ret Tryz.func11 (.tmp rfl .nil) rfl fun E S w u hI hd => ?_
  refine post_mk hI hd ?_ ⟨eqR ?_, trivial⟩ rfl rfl rfl <;> clear hI hd <;> (try clear ih0) <;> (try clear ih1)
  all_goals first | rfl | ((exact findL_no (by simp_all; done)))
 ·
  have h1' := (bnf h1)
  refine t_skip ?_
  refine t_seq ?_
  refine t_draw (fun _ => true) (by kernel_rfl) ?_
  refine dT 0 rfl (pC 2) ?_
  refine dT 1 rfl pM ?_
  refine dO 2 rfl (o_call 2 3 false (Go.Proofs.enters_of Tryz.func55 (by kernel_rfl) rfl) (c_spec_l11Blank ) rfl .nil rfl rfl rfl) ?_
  refine dO 3 rfl (o_call 3 4 false (Go.Proofs.enters_of Tryz.func54 (by kernel_rfl) rfl) (c_spec_l11Walk (rs) (fs) (l) (0) (freeB) (by exact (mt_pre (by assumption)).1) (by exact (mt_pre (by assumption)).2.1) (by rfl) (by exact (mt_pre (by assumption)).2.2.1) (by exact (mt_pre (by assumption)).2.2.2) (by omega)) rfl (.cons rfl (.agg (.cons .t0 (.cons .t0 .nil))) (.cons rfl (.c .t0) (.cons rfl (.c .t0) (.cons rfl (.c (.own rfl)) .nil)))) rfl rfl rfl) ?_
  refine dT 4 rfl pA ?_
  refine d_end (by kernel_rfl) ?_
  refine t_seq ?_
  refine tsr ?_
  refine r_op oA ?_
  refine r_end ?_
  refine t_block ?_
  refine gt_sum 3 rfl ?_
  refine t_loopL (fun (vs, m) => ⟨[(4, some (.c (.t none (.v (.slice none 0 0))))), (5, some (.c (.own 1))), (6, some (.c (.own 3))), (7, some (.c (.t none (.v (.int .i64 ((m : Int)))))))], [(0, some (.box [.t none (.sl 3 (enS3 encS encI encB) (rs)), .t none (.sl 2 (enS2 encI (enSl 1 encI)) (fs))])), (1, some (.row none 34 true 1 (enSl 1 encI) (dedL ((matchL fs l freeB).take m)))), (2, some (.row none 3 true 1 encI (freeB))), (3, some (.row none 34 true 1 (encK (enSl 1 encI)) (tkL vs (matchL fs l freeB))))], 4⟩ : List Value × Nat → St) (fun (vs, m) => vs.length = m ∧ m ≤ (matchL fs l freeB).length) (fun (vs, m) => (matchL fs l freeB).length - m) ([], 0) ⟨⟨rfl, ⟨rfl, ⟨rfl, ⟨rfl, trivial⟩⟩⟩⟩, ⟨rfl, ⟨rfl, ⟨rfl, ⟨rfl, trivial⟩⟩⟩⟩, rfl⟩ (by exact ⟨rfl, Nat.zero_le _⟩) ?_
  rintro ⟨vs, m⟩ hI ih0
  try dsimp only at hI ih0
  obtain ⟨i0, i1⟩ := hI; have mp := mt_pre (rs := rs) (fs := fs) (l := l) (by assumption); have dr := ded_room (m := m) mp.1 mp.2.1; have tl := tkL_len (vs := vs) (L := matchL fs l freeB) (by omega); have mm := matchL_most mp.1 mp.2.1 freeB
  refine t_seq ?_
  refine tsr ?_
  refine r_op oM ?_
  refine r_op oM ?_
  refine r_op (o_leno rfl rfl rfl rfl) ?_
  refine r_op oB ?_
  refine r_end ?_
  refine t_cond rfl (fun h2 => ?_) (fun h2 => ?_)
  ·
   have h2' := of_decide_eq_true h2
   refine t_skip ?_
   refine t_seq ?_
   refine t_block ?_
   refine t_seq ?_
   obtain ⟨z3, hz4, b5⟩ := at_get (xs := matchL fs l freeB) (n := (m : Int)) (by omega) (by omega)
   refine gt_take0 4 3 rfl rfl (tkL_at (by omega) hz4) fun e6 v7 => ?_
   refine t_region ?_
   refine r_op oA ?_
   refine r_end ?_
   refine t_seq ?_
   refine tsr ?_
   refine r_op oA ?_
   refine r_end ?_
   refine t_block ?_
   refine t_loopL (fun n => ⟨[(4, some (.c (.t none (.v (.slice none 0 0))))), (5, some (.c (.own 1))), (6, some (.c (.own 3))), (7, some (.c (.t none (.v (.int .i64 ((m : Int))))))), (8, some (.c (.t none (.v (.bool (hasR ((dedL ((matchL fs l freeB).take m)).take n) z3)))))), (9, some (.c (.t none (.v (.int .i64 ((n : Int)))))))], [(0, some (.box [.t none (.sl 3 (enS3 encS encI encB) (rs)), .t none (.sl 2 (enS2 encI (enSl 1 encI)) (fs))])), (1, some (.row none 34 true 1 (enSl 1 encI) (dedL ((matchL fs l freeB).take m)))), (2, some (.row none 3 true 1 encI (freeB))), (3, some (.row none 34 true 1 (encK (enSl 1 encI)) ((tkL vs (matchL fs l freeB)).set (m : Int).toNat (.inl v7)))), (4, some (.row (some v7) e6 true 1 encI (z3)))], 5⟩ : Nat → St) (fun n => n ≤ (dedL ((matchL fs l freeB).take m)).length) (fun n => (dedL ((matchL fs l freeB).take m)).length - n) 0 ⟨⟨rfl, ⟨rfl, ⟨rfl, ⟨rfl, ⟨(eqBo hasR_zero.symm), ⟨rfl, trivial⟩⟩⟩⟩⟩⟩, ⟨rfl, ⟨rfl, ⟨rfl, ⟨rfl, ⟨rfl, trivial⟩⟩⟩⟩⟩, rfl⟩ (by exact Nat.zero_le _) ?_
   rintro n hI ih1
   try dsimp only at hI ih1
   have j1 := hI
   refine t_seq ?_
   refine tsr ?_
   refine r_op oM ?_
   refine r_op oM ?_
   refine r_op (o_leno rfl rfl rfl rfl) ?_
   refine r_op oB ?_
   refine r_end ?_
   refine t_cond rfl (fun h8 => ?_) (fun h8 => ?_)
   ·
    have h8' := of_decide_eq_true h8
    refine t_skip ?_
    refine t_seq ?_
    refine t_block ?_
    refine t_draw (fun _ => true) (by kernel_rfl) ?_
    refine dT 0 rfl pM ?_
    refine dT 1 rfl pM ?_
    refine dH 2 rfl (fun _ => pM) (fun g9 => ?_) (fun g9 => ?_)
    ·
     have g9' := g9
     refine dH 3 rfl (fun _ => pM) (fun _ => ?_) (ncf g9)
     obtain ⟨z10, hz11, b12⟩ := at_get (xs := dedL ((matchL fs l freeB).take m)) (n := (n : Int)) (by omega) (by omega)
     refine dH 4 rfl (fun _ => p_indexo (by kernel_rfl) rfl rfl rfl b12 (at_lt b12 hz11)) (fun _ => ?_) (ncf g9)
     refine dH 5 rfl (fun _ => p_load1o (by kernel_rfl) rfl rfl rfl hz11) (fun _ => ?_) (ncf g9)
     refine dH 6 rfl (fun _ => pM) (fun _ => ?_) (ncf g9)
     refine dH 7 rfl (fun _ => pM) (fun _ => ?_) (ncf g9)
     obtain ⟨z13, hz14, b15⟩ := at_get (xs := (tkL vs (matchL fs l freeB)).set (m : Int).toNat (.inl v7)) (n := (m : Int)) (by omega) (by (rw [List.length_set]; omega))
     refine dH 8 rfl (fun _ => p_indexo (by kernel_rfl) rfl rfl rfl b15 (at_lt b15 hz14)) (fun _ => ?_) (ncf g9)
     refine dH 9 rfl (fun _ => p_loadpin (k := 4) (o := 0) (by kernel_rfl) rfl rfl (tk_got (by omega) (by omega)) rfl) (fun _ => ?_) (ncf g9)
     refine d_onlyG 10 rfl rfl (by kernel_rfl) rfl rfl rfl (fun _ => (o_call 5 5 false (Go.Proofs.enters_of Tryz.func56 (by kernel_rfl) rfl) (c_spec_l4Ints (z10) (z3) (by (have e5 := ded_five (List.mem_of_getElem? (by assumption)); omega)) (by (have e5 := matchL_five fs l freeB _ (List.mem_of_getElem? (by assumption)); have e6 : freeB.length = 5 := rfl; omega))) rfl (.cons rfl (.c .t1) (.cons rfl (.c (.own rfl)) .nil)) rfl rfl rfl)) (fun _ => ?_) (ncf g9)
     refine dH 11 rfl (fun _ => pB) (fun _ => ?_) (ncf g9)
     refine dT 12 rfl (p_pickF rfl g9 rfl) ?_
     refine dT 13 rfl pA ?_
     refine d_end (by kernel_rfl) ?_
     refine t_endblock ?_
     refine t_region ?_
     refine r_op oM ?_
     refine r_op oB ?_
     refine r_op oA ?_
     refine r_end ?_
     refine t_le ?_ (ih1 (n + 1) (by (try dsimp only); omega) (by (try dsimp only); omega))
     exact ⟨⟨rfl, ⟨rfl, ⟨rfl, ⟨rfl, ⟨(eqBo (by exact hasR_new (by assumption) hz11 rfl)), ⟨(eqI (wr64 (by omega) (by omega))), trivial⟩⟩⟩⟩⟩⟩, ⟨rfl, ⟨rfl, ⟨rfl, ⟨rfl, ⟨rfl, trivial⟩⟩⟩⟩⟩, rfl⟩
    ·
     have g9' := g9
     refine dG 3 (nc g9) (fun _ => ?_)
     refine dG 4 (nc g9) (fun _ => ?_)
     refine dG 5 (nc g9) (fun _ => ?_)
     refine dG 6 (nc g9) (fun _ => ?_)
     refine dG 7 (nc g9) (fun _ => ?_)
     refine dG 8 (nc g9) (fun _ => ?_)
     refine dG 9 (nc g9) (fun _ => ?_)
     refine dG 10 (nc g9) (fun _ => ?_)
     refine dG 11 (nc g9) (fun _ => ?_)
     refine dT 12 rfl (p_pickT rfl g9 rfl) ?_
     refine dT 13 rfl pA ?_
     refine d_end (by kernel_rfl) ?_
     refine t_endblock ?_
     refine t_region ?_
     refine r_op oM ?_
     refine r_op oB ?_
     refine r_op oA ?_
     refine r_end ?_
     refine t_le ?_ (ih1 (n + 1) (by (try dsimp only); omega) (by (try dsimp only); omega))
     exact ⟨⟨rfl, ⟨rfl, ⟨rfl, ⟨rfl, ⟨(eqBo (by exact hasR_more (by assumption))), ⟨(eqI (wr64 (by omega) (by omega))), trivial⟩⟩⟩⟩⟩⟩, ⟨rfl, ⟨rfl, ⟨rfl, ⟨rfl, ⟨rfl, trivial⟩⟩⟩⟩⟩, rfl⟩
   ·
    have h8' := of_decide_eq_false h8
    refine t_exit rfl ?_
    refine tsr ?_
    refine r_op oM ?_
    refine r_op (o_not rfl rfl) ?_
    refine r_end ?_
    refine t_cond rfl (fun h16 => ?_) (fun h16 => ?_)
    ·
     have h16' := (bnt h16)
     refine t_region ?_
     refine r_op oM ?_
     refine r_op oM ?_
     refine r_op oM ?_
     obtain ⟨z17, hz18, b19⟩ := at_get (xs := (tkL vs (matchL fs l freeB)).set (m : Int).toNat (.inl v7)) (n := (m : Int)) (by omega) (by (rw [List.length_set]; omega))
     refine r_op (o_indexo rfl (by kernel_rfl) rfl rfl rfl b19 (at_lt b19 hz18)) ?_
     refine r_op (o_loadpin rfl (k := 4) (o := 0) (by kernel_rfl) rfl rfl (tk_got (by omega) (by omega)) rfl) ?_
     refine r_op (o_litS 5 (e := 34) (sz := 1) (zs := [.slice none 0 0]) rfl rfl (by kernel_rfl) rfl rfl rfl rfl rfl) ?_
     refine r_op (o_append 1 (e := 34) (sz := 1) (by' := 24) (z3) rfl (by kernel_rfl) rfl rfl rfl rfl rfl rfl (.take (.own rfl) rfl .nil) rfl (by omega) (by omega)) ?_
     refine r_op oA ?_
     refine r_end ?_
     refine t_endblock ?_
     refine t_region ?_
     refine r_op oM ?_
     refine r_op oB ?_
     refine r_op oA ?_
     refine r_end ?_
     have he := hasR_end (q := dedL ((matchL fs l freeB).take m)) (x := z3) (k := n) (by omega)
     refine t_le ?_ (ih0 (vs ++ [v7], m + 1) (by (try dsimp only); omega) (by (try dsimp only); exact ⟨by simp; omega, by omega⟩))
     exact ⟨⟨rfl, ⟨rfl, ⟨rfl, ⟨(eqI (wr64 (by omega) (by omega))), trivial⟩⟩⟩⟩, ⟨rfl, ⟨(eqR (by exact (ded_more hz4 rfl (he.symm.trans (by assumption))).symm)), ⟨rfl, ⟨(eqR (tkL_set i0 (by omega))), trivial⟩⟩⟩⟩, rfl⟩
    ·
     have h16' := (bnf h16)
     refine t_skip ?_
     refine t_endblock ?_
     refine t_region ?_
     refine r_op oM ?_
     refine r_op oB ?_
     refine r_op oA ?_
     refine r_end ?_
     have he := hasR_end (q := dedL ((matchL fs l freeB).take m)) (x := z3) (k := n) (by omega)
     refine t_le ?_ (ih0 (vs ++ [v7], m + 1) (by (try dsimp only); omega) (by (try dsimp only); exact ⟨by simp; omega, by omega⟩))
     exact ⟨⟨rfl, ⟨rfl, ⟨rfl, ⟨(eqI (wr64 (by omega) (by omega))), trivial⟩⟩⟩⟩, ⟨rfl, ⟨(eqR (by exact (ded_same hz4 rfl (he.symm.trans (by assumption))).symm)), ⟨rfl, ⟨(eqR (tkL_set i0 (by omega))), trivial⟩⟩⟩⟩, rfl⟩
  ·
   have h2' := of_decide_eq_false h2
   refine t_exit rfl ?_
   refine tsr ?_
   refine r_op oM ?_
   refine r_op oA ?_
   refine r_end ?_
   refine t_ret Tryz.func11 (.tmp rfl .nil) rfl fun E S w u hI hd => ?_
   refine post_mk hI hd ?_ ⟨eqR ?_, trivial⟩ rfl rfl rfl <;> clear hI hd <;> (try clear ih0) <;> (try clear ih1)
   all_goals first | rfl | ((exact findL_yes (by assumption) (by omega)))
set_option maxHeartbeats 1000000 in
set_option maxRecDepth 10000 in
theorem c_spec_l11Bind (code : List Int) (i h : Int) (rs : Rels) (fs l : Atoms) (hc : code.length ≤ 1048576) (hi0 : 0 ≤ i) (hi1 : i ≤ code.length) (hx : instL rs fs) (hL : ∀ a ∈ l, atomL a) (hl4 : l.length ≤ 2) : MuG Tryz.prog 60 [.c (.ptr 0 0), .agg [.t none (.sl 3 (enS3 encS encI encB) (rs)), .t none (.sl 2 (enS2 encI (enSl 1 encI)) (fs))], .c (.t none (.sl 2 (enS2 encI (enSl 1 encI)) (l)))] [.t none (.sl 1 encU (code)), .t none (.v (.int .i64 (i))), .t none (.v (.int .i64 (h)))] (fun (⟨b, i2, h2⟩ : (List Int) × Int × Int) => b.length ≤ 5 ∧ (∀ x ∈ b, okI x) ∧ 0 ≤ i2 ∧ i2 ≤ code.length) (fun (⟨b, i2, h2⟩ : (List Int) × Int × Int) => [.t none (.sl 1 encU (code)), .t none (.v (.int .i64 (i2))), .t none (.v (.int .i64 (h2)))]) (fun (⟨b, i2, h2⟩ : (List Int) × Int × Int) => []) 1 (fun (⟨b, i2, h2⟩ : (List Int) × Int × Int) => .c (.t none (.sl 1 encI (b)))) := by
 refine mu_enterG Tryz.func60 rfl (Nat.le_of_ble_eq_true rfl) fun v0 w S M hM => ?_
 obtain ⟨hx1, hx2, hx3, hx4⟩ := hx; have s1 := szF_L hx4; have s2 := szA_L hL; have s3 := factL_ok hx4; have s4 := findL_121 (rs := rs) hx3 hl4; have s5 : ∀ r ∈ findL rs fs l, r.length ≤ 5 ∧ ∀ x ∈ r, okI x := fun r hr => ⟨Nat.le_of_eq (findL_five hr), findL_ok s3 hr⟩
 refine tsr ?_
 refine r_op (o_box 1 rfl rfl rfl rfl) ?_
 refine r_op oA ?_
 refine etr ?_
 refine r_op (oC 2) ?_
 refine r_op oM ?_
 refine r_op (o_call 2 4 false (Go.Proofs.enters_of Tryz.func11 (by kernel_rfl) rfl) (c_spec_FindMatches (rs) (fs) (l) (by omega) (by omega) (by omega) (by omega)) rfl (.cons rfl (.agg (.cons .t0 (.cons .t0 .nil))) (.cons rfl (.c .t0) .nil)) rfl rfl rfl) ?_
 refine r_op oA ?_
 refine r_end ?_
 refine t_seq ?_
 refine tsr ?_
 refine r_op oM ?_
 refine r_op (o_leno rfl rfl rfl rfl) ?_
 refine r_op oB ?_
 refine r_op oM ?_
 refine r_guard rfl rfl rfl (fun g1 => ?_) (fun g1 => ?_)
 ·
  have g1' := of_decide_eq_true g1
  refine r_op oM ?_
  refine r_guard rfl rfl rfl (fun _ => ?_) (nc g1)
  refine r_opX (o_callGM 0 4 5 (pv := some (v0)) (Go.Proofs.enters_of Tryz.func61 (by kernel_rfl) rfl) (c_spec_l1Once (code) (i) (h) (4) (by omega) (by omega) (by omega) (by omega) (by omega)) rfl rfl (.cur rfl (.cons rfl .nil)) rfl (fun ⟨_, _, _⟩ => rfl) (fun _ => rfl) (fun ⟨_, _, _⟩ => rfl) rfl rfl) ?_
  rintro ⟨⟨b2, i23, h24⟩, hq5⟩
  try dsimp only at hq5
  try dsimp only
  refine r_guard rfl rfl rfl (fun _ => ?_) (nc g1)
  refine r_op (o_not rfl rfl) ?_
  refine r_op (o_pickT rfl rfl g1 rfl) ?_
  refine r_end ?_
  refine t_cond rfl (fun h7 => ?_) (fun h7 => ?_)
  ·
   have h7' := (bnt h7)
   refine tsr ?_
   refine r_op oM ?_
   refine r_op oM ?_
   refine r_op oM ?_
   refine r_op (o_leno rfl rfl rfl rfl) ?_
   refine r_opX (o_callGM 0 5 6 (pv := some (v0)) (Go.Proofs.enters_of Tryz.func81 (by kernel_rfl) rfl) (c_spec_l1Below ((code)) ((i23)) ((h24)) (((findL (rs) (fs) (l)).length : Int)) (by omega) (by omega) (by omega) (by omega) (by omega)) rfl rfl (.cur rfl (.cons rfl .nil)) rfl (fun ⟨_, _, _⟩ => rfl) (fun _ => rfl) (fun ⟨_, _, _⟩ => rfl) rfl rfl) ?_
   rintro ⟨⟨x8, i29, h210⟩, hq11⟩
   try dsimp only at hq11
   try dsimp only
   obtain ⟨q12, q13⟩ := hq11
   obtain ⟨z14, hz15, b16⟩ := at_get (xs := findL (rs) (fs) (l)) (n := (x8)) (by omega) (by omega)
   refine r_op (o_indexo rfl (by kernel_rfl) rfl rfl rfl b16 (at_lt b16 hz15)) ?_
   refine r_op (o_load1o rfl (by kernel_rfl) rfl rfl rfl hz15) ?_
   refine r_op oA ?_
   refine r_end ?_
   refine gt_freeze 3 rfl (frz_cur (i := 3) hM rfl rfl rfl) ?_
   refine t_ret Tryz.func60 (.tmp rfl .nil) rfl fun E S w u hI hd => ?_
   refine post_mkG (⟨z14, (i29), (h210)⟩) ?_ hI hd ?_ ⟨rfl, trivial⟩ rfl rfl <;> clear hI hd <;> (try clear ih0)
   · (try dsimp only) <;> ((exact ⟨(s5 _ (List.mem_of_getElem? (by assumption))).1, (s5 _ (List.mem_of_getElem? (by assumption))).2, by omega⟩))
   · rfl
  ·
   have h7' := (bnf h7)
   refine t_skip ?_
   refine tsr ?_
   refine r_op (o_lit0 5 (e := 3) (sz := 1) (zs := [.int .i64 (0)]) encI rfl rfl (by kernel_rfl) rfl) ?_
   refine r_op oA ?_
   refine r_end ?_
   refine t_seq ?_
   refine t_block ?_
   refine t_loopL (fun (b, i3, h3) => ⟨[(0, some (.c (.ptr 0 0))), (6, some (.c (.t none (.v (.slice none 0 0))))), (8, some (.c (.own 5)))], [(0, some (.pbox (v0) [.t none (.sl 1 encU (code)), .t none (.v (.int .i64 (i3))), .t none (.v (.int .i64 (h3)))])), (1, some (.box [.t none (.sl 3 (enS3 encS encI encB) (rs)), .t none (.sl 2 (enS2 encI (enSl 1 encI)) (fs))])), (3, some (.row none 34 true 1 (enSl 1 encI) (findL (rs) (fs) (l)))), (5, some (.row none 3 true 1 encI (b)))], 6⟩ : List Int × Int × Int → St) (fun (b, i3, h3) => b.length ≤ 5 ∧ (∀ x ∈ b, okI x) ∧ (0 ≤ i3 ∧ i3 ≤ code.length)) (fun (b, i3, h3) => 5 - b.length) ([], (i23), (h24)) ⟨⟨rfl, ⟨rfl, ⟨rfl, trivial⟩⟩⟩, ⟨rfl, ⟨rfl, ⟨rfl, ⟨rfl, trivial⟩⟩⟩⟩, rfl⟩ (by exact ⟨by simp, fun x hx => by simp at hx, by omega⟩) ?_
   rintro ⟨b, i3, h3⟩ hI ih0
   try dsimp only at hI ih0
   obtain ⟨j1, j2, j3⟩ := hI
   refine t_seq ?_
   refine tsr ?_
   refine r_op oM ?_
   refine r_op (o_leno rfl rfl rfl rfl) ?_
   refine r_op oM ?_
   refine r_opX (o_callGM 0 6 7 (pv := some (v0)) (Go.Proofs.enters_of Tryz.func81 (by kernel_rfl) rfl) (c_spec_l1Below (code) (i3) (h3) (12) (by omega) (by omega) (by omega) (by omega) (by omega)) rfl rfl (.cur rfl (.cons rfl .nil)) rfl (fun ⟨_, _, _⟩ => rfl) (fun _ => rfl) (fun ⟨_, _, _⟩ => rfl) rfl rfl) ?_
   rintro ⟨⟨x17, i218, h219⟩, hq20⟩
   try dsimp only at hq20
   try dsimp only
   obtain ⟨q21, q22⟩ := hq20
   refine r_op (o_binD rfl rfl rfl (quo_11 rfl (by omega))) ?_
   refine r_op oB ?_
   refine r_op oB ?_
   refine r_end ?_
   refine t_cond rfl (fun h23 => ?_) (fun h23 => ?_)
   ·
    have h23' := of_decide_eq_true h23
    refine t_skip ?_
    refine t_block ?_
    refine t_region ?_
    refine r_op oM ?_
    refine r_op oM ?_
    refine r_op (o_litS 7 (e := 3) (sz := 1) (zs := [.int .i64 (0)]) rfl rfl (by kernel_rfl) rfl rfl rfl rfl rfl) ?_
    refine r_freezeB 7 (enc := encI) ([10, 10, 0, 1, 2, -1, -2]) rfl (.cons (.cons (.cons (.cons (.cons (.cons (.cons .nil))))))) (frz_cur (i := 7) hM rfl rfl rfl) ?_
    refine r_opX (o_callGM 0 8 9 (pv := some (v0)) (Go.Proofs.enters_of Tryz.func120 (by kernel_rfl) rfl) (c_spec_l1PickInt ((code)) ((i218)) ((h219)) ([10, 10, 0, 1, 2, -1, -2]) (by omega) (by omega) (by omega) (by (simp only [List.length_cons, List.length_nil]; omega)) (by (simp only [List.length_cons, List.length_nil]; omega))) rfl rfl (.cur rfl (.cons rfl .nil)) rfl (fun ⟨_, _, _⟩ => rfl) (fun _ => rfl) (fun ⟨_, _, _⟩ => rfl) rfl rfl) ?_
    rintro ⟨⟨x24, i225, h226⟩, hq27⟩
    try dsimp only at hq27
    try dsimp only
    obtain ⟨q28, q29⟩ := hq27
    refine r_op (o_litS 9 (e := 3) (sz := 1) (zs := [.int .i64 (0)]) rfl rfl (by kernel_rfl) rfl rfl rfl rfl rfl) ?_
    refine r_op (o_append 5 (e := 3) (sz := 1) (by' := 8) ((x24)) rfl (by kernel_rfl) rfl rfl rfl rfl rfl rfl (.cons .sc .nil) rfl (by omega) (by omega)) ?_
    refine r_op oA ?_
    refine r_end ?_
    refine t_endblock ?_
    refine t_le ?_ (ih0 (b ++ [(x24)], (i225), (h226)) (by (try dsimp only); (simp only [List.length_append, List.length_singleton, IntKind.wrap_i64] at *; omega)) (by (try dsimp only); exact ⟨(by simp only [List.length_append, List.length_singleton, IntKind.wrap_i64] at *; omega), mem_snoc j2 (pick7 (by assumption)), by omega⟩))
    exact ⟨⟨rfl, ⟨rfl, ⟨rfl, trivial⟩⟩⟩, ⟨rfl, ⟨rfl, ⟨rfl, ⟨rfl, trivial⟩⟩⟩⟩, rfl⟩
   ·
    have h23' := of_decide_eq_false h23
    refine t_exit rfl ?_
    refine tsr ?_
    refine r_op oM ?_
    refine r_op oA ?_
    refine r_end ?_
    refine gt_freeze 5 rfl (frz_cur (i := 5) hM rfl rfl rfl) ?_
    refine t_ret Tryz.func60 (.tmp rfl .nil) rfl fun E S w u hI hd => ?_
    refine post_mkG (⟨b, (i218), (h219)⟩) ?_ hI hd ?_ ⟨rfl, trivial⟩ rfl rfl <;> clear hI hd <;> (try clear ih0)
    · (try dsimp only) <;> ((exact ⟨j1, j2, by omega⟩))
    · rfl
 ·
  have g1' := of_decide_eq_false g1
  refine r_guard rfl rfl rfl (ncf g1) (fun _ => ?_)
  refine r_guard rfl rfl rfl (ncf g1) (fun _ => ?_)
  refine r_op (o_pickF rfl rfl g1 rfl) ?_
  refine r_end ?_
  refine t_cond rfl (ncf rfl) (fun _ => ?_)
  refine t_skip ?_
  refine tsr ?_
  refine r_op (o_lit0 4 (e := 3) (sz := 1) (zs := [.int .i64 (0)]) encI rfl rfl (by kernel_rfl) rfl) ?_
  refine r_op oA ?_
  refine r_end ?_
  refine t_seq ?_
  refine t_block ?_
  refine t_loopL (fun (b, i3, h3) => ⟨[(0, some (.c (.ptr 0 0))), (6, some (.c (.t none (.v (.slice none 0 0))))), (8, some (.c (.own 4)))], [(0, some (.pbox (v0) [.t none (.sl 1 encU (code)), .t none (.v (.int .i64 (i3))), .t none (.v (.int .i64 (h3)))])), (1, some (.box [.t none (.sl 3 (enS3 encS encI encB) (rs)), .t none (.sl 2 (enS2 encI (enSl 1 encI)) (fs))])), (3, some (.row none 34 true 1 (enSl 1 encI) (findL (rs) (fs) (l)))), (4, some (.row none 3 true 1 encI (b)))], 5⟩ : List Int × Int × Int → St) (fun (b, i3, h3) => b.length ≤ 5 ∧ (∀ x ∈ b, okI x) ∧ (0 ≤ i3 ∧ i3 ≤ code.length)) (fun (b, i3, h3) => 5 - b.length) ([], i, h) ⟨⟨rfl, ⟨rfl, ⟨rfl, trivial⟩⟩⟩, ⟨rfl, ⟨rfl, ⟨rfl, ⟨rfl, trivial⟩⟩⟩⟩, rfl⟩ (by exact ⟨by simp, fun x hx => by simp at hx, by omega⟩) ?_
  rintro ⟨b, i3, h3⟩ hI ih0
  try dsimp only at hI ih0
  obtain ⟨j1, j2, j3⟩ := hI
  refine t_seq ?_
  refine tsr ?_
  refine r_op oM ?_
  refine r_op (o_leno rfl rfl rfl rfl) ?_
  refine r_op oM ?_
  refine r_opX (o_callGM 0 5 6 (pv := some (v0)) (Go.Proofs.enters_of Tryz.func81 (by kernel_rfl) rfl) (c_spec_l1Below (code) (i3) (h3) (12) (by omega) (by omega) (by omega) (by omega) (by omega)) rfl rfl (.cur rfl (.cons rfl .nil)) rfl (fun ⟨_, _, _⟩ => rfl) (fun _ => rfl) (fun ⟨_, _, _⟩ => rfl) rfl rfl) ?_
  rintro ⟨⟨x30, i231, h232⟩, hq33⟩
  try dsimp only at hq33
  try dsimp only
  obtain ⟨q34, q35⟩ := hq33
  refine r_op (o_binD rfl rfl rfl (quo_11 rfl (by omega))) ?_
  refine r_op oB ?_
  refine r_op oB ?_
  refine r_end ?_
  refine t_cond rfl (fun h36 => ?_) (fun h36 => ?_)
  ·
   have h36' := of_decide_eq_true h36
   refine t_skip ?_
   refine t_block ?_
   refine t_region ?_
   refine r_op oM ?_
   refine r_op oM ?_
   refine r_op (o_litS 6 (e := 3) (sz := 1) (zs := [.int .i64 (0)]) rfl rfl (by kernel_rfl) rfl rfl rfl rfl rfl) ?_
   refine r_freezeB 6 (enc := encI) ([10, 10, 0, 1, 2, -1, -2]) rfl (.cons (.cons (.cons (.cons (.cons (.cons (.cons .nil))))))) (frz_cur (i := 6) hM rfl rfl rfl) ?_
   refine r_opX (o_callGM 0 7 8 (pv := some (v0)) (Go.Proofs.enters_of Tryz.func120 (by kernel_rfl) rfl) (c_spec_l1PickInt ((code)) ((i231)) ((h232)) ([10, 10, 0, 1, 2, -1, -2]) (by omega) (by omega) (by omega) (by (simp only [List.length_cons, List.length_nil]; omega)) (by (simp only [List.length_cons, List.length_nil]; omega))) rfl rfl (.cur rfl (.cons rfl .nil)) rfl (fun ⟨_, _, _⟩ => rfl) (fun _ => rfl) (fun ⟨_, _, _⟩ => rfl) rfl rfl) ?_
   rintro ⟨⟨x37, i238, h239⟩, hq40⟩
   try dsimp only at hq40
   try dsimp only
   obtain ⟨q41, q42⟩ := hq40
   refine r_op (o_litS 8 (e := 3) (sz := 1) (zs := [.int .i64 (0)]) rfl rfl (by kernel_rfl) rfl rfl rfl rfl rfl) ?_
   refine r_op (o_append 4 (e := 3) (sz := 1) (by' := 8) ((x37)) rfl (by kernel_rfl) rfl rfl rfl rfl rfl rfl (.cons .sc .nil) rfl (by omega) (by omega)) ?_
   refine r_op oA ?_
   refine r_end ?_
   refine t_endblock ?_
   refine t_le ?_ (ih0 (b ++ [(x37)], (i238), (h239)) (by (try dsimp only); (simp only [List.length_append, List.length_singleton, IntKind.wrap_i64] at *; omega)) (by (try dsimp only); exact ⟨(by simp only [List.length_append, List.length_singleton, IntKind.wrap_i64] at *; omega), mem_snoc j2 (pick7 (by assumption)), by omega⟩))
   exact ⟨⟨rfl, ⟨rfl, ⟨rfl, trivial⟩⟩⟩, ⟨rfl, ⟨rfl, ⟨rfl, ⟨rfl, trivial⟩⟩⟩⟩, rfl⟩
  ·
   have h36' := of_decide_eq_false h36
   refine t_exit rfl ?_
   refine tsr ?_
   refine r_op oM ?_
   refine r_op oA ?_
   refine r_end ?_
   refine gt_freeze 4 rfl (frz_cur (i := 4) hM rfl rfl rfl) ?_
   refine t_ret Tryz.func60 (.tmp rfl .nil) rfl fun E S w u hI hd => ?_
   refine post_mkG (⟨b, (i231), (h232)⟩) ?_ hI hd ?_ ⟨rfl, trivial⟩ rfl rfl <;> clear hI hd <;> (try clear ih0)
   · (try dsimp only) <;> ((exact ⟨j1, j2, by omega⟩))
   · rfl
set_option maxHeartbeats 1000000 in
set_option maxRecDepth 10000 in
theorem c_spec_DrawIsTrigger (code : List Int) (hc : code.length ≤ 1048576) : PuG Tryz.prog 63 [.c (.t none (.sl 1 encU (code)))] (fun (⟨rs, fs, b, hs, e, lv, rv, v⟩ : Rels × Atoms × Atoms × Atoms × Bool × Int × Int × (List Int)) => instL rs fs ∧ depL (b, hs, e, lv, rv) ∧ v.length ≤ 5 ∧ (∀ x ∈ v, okI x)) (fun (⟨rs, fs, b, hs, e, lv, rv, v⟩ : Rels × Atoms × Atoms × Atoms × Bool × Int × Int × (List Int)) => []) 0 (fun (⟨rs, fs, b, hs, e, lv, rv, v⟩ : Rels × Atoms × Atoms × Atoms × Bool × Int × Int × (List Int)) => .tup [(true, [.t none (.sl 3 (enS3 encS encI encB) (rs)), .t none (.sl 2 (enS2 encI (enSl 1 encI)) (fs))]), (true, [.t none (.sl 2 (enS2 encI (enSl 1 encI)) (b)), .t none (.sl 2 (enS2 encI (enSl 1 encI)) (hs)), .t none (.v (.bool (e))), .t none (.v (.int .i64 (lv))), .t none (.v (.int .i64 (rv)))]), (false, [.t none (.sl 1 encI (v))])]) := by
 refine pu_enterG Tryz.func63 rfl (Nat.le_of_ble_eq_true rfl) fun w S => ?_
 refine tsr ?_
 refine r_op (o_alloc 0 (zs := [.slice none 0 0, .slice none 0 0]) rfl rfl (by kernel_rfl) rfl) ?_
 refine r_op (o_alloc 1 (zs := [.slice none 0 0, .slice none 0 0, .bool (false), .int .i64 (0), .int .i64 (0)]) rfl rfl (by kernel_rfl) rfl) ?_
 refine r_op oA ?_
 refine etr ?_
 refine r_op oM ?_
 refine r_opX (o_callG 2 5 (Go.Proofs.enters_of Tryz.func48 (by kernel_rfl) rfl) (c_spec_l11Both (code) (by omega)) rfl (.cons rfl (.c .t0) .nil) rfl rfl) ?_
 rintro ⟨⟨rs1, fs2, b3, hs4, e5, lv6, rv7, i28, h29⟩, hq10⟩
 try dsimp only at hq10
 try dsimp only
 obtain ⟨q11, q12, q13⟩ := hq10
 have dd : depL (b3, hs4, e5, lv6, rv7) := (by assumption)
 refine r_op oM ?_
 refine r_op (o_extract rfl rfl rfl rfl) ?_
 refine r_op (o_extract rfl rfl rfl rfl) ?_
 refine r_op (o_extract rfl rfl rfl rfl) ?_
 refine r_op (o_alloc 5 (zs := [.slice none 0 0, .slice none 0 0]) rfl rfl (by kernel_rfl) rfl) ?_
 refine r_op (o_alloc 6 (zs := [.slice none 0 0, .slice none 0 0, .bool (false), .int .i64 (0), .int .i64 (0)]) rfl rfl (by kernel_rfl) rfl) ?_
 refine r_op oA ?_
 refine r_op (oS 2) ?_
 refine r_op (oS 5) ?_
 refine r_end ?_
 refine t_seq ?_
 refine t_draw (fun i => !(Nat.beq i 6 || Nat.beq i 7 || Nat.beq i 8)) (by kernel_rfl) ?_
 refine dT 2 rfl pM ?_
 refine dT 3 rfl (pC 2) ?_
 refine dT 4 rfl (pF 0) ?_
 refine dT 5 rfl pL ?_
 refine d_threeX 0 1 6 rfl rfl rfl (by kernel_rfl) rfl rfl rfl (osX (oC 2)) (osX (oC 5)) (o_callGM 4 7 8 (pv := none) (Go.Proofs.enters_of Tryz.func60 (by kernel_rfl) rfl) (c_spec_l11Bind ((code)) ((i28)) ((h29)) ((rs1)) ((fs2)) ((b3)) (by omega) (by omega) (by omega) (by omega) (by exact dd.2.2.1) (by exact dd.1.2)) rfl rfl (.cur rfl (.agg rfl rfl (.cons rfl .nil))) rfl (fun ⟨_, _, _⟩ => rfl) (fun _ => rfl) (fun ⟨_, _, _⟩ => rfl) rfl rfl) ?_ ?_ ?_
 ·
  rintro ⟨⟩
  refine d_twoX 1 6 rfl rfl (by kernel_rfl) rfl rfl (osX (oC 5)) (o_callGM 4 7 8 (pv := none) (Go.Proofs.enters_of Tryz.func60 (by kernel_rfl) rfl) (c_spec_l11Bind ((code)) ((i28)) ((h29)) ((rs1)) ((fs2)) ((b3)) (by omega) (by omega) (by omega) (by omega) (by exact dd.2.2.1) (by exact dd.1.2)) rfl rfl (.cur rfl (.agg rfl rfl (.cons rfl .nil))) rfl (fun ⟨_, _, _⟩ => rfl) (fun _ => rfl) (fun ⟨_, _, _⟩ => rfl) rfl rfl) ?_ ?_
  ·
   rintro ⟨⟩
   refine dOX 6 rfl (o_callGM 4 7 8 (pv := none) (Go.Proofs.enters_of Tryz.func60 (by kernel_rfl) rfl) (c_spec_l11Bind ((code)) ((i28)) ((h29)) ((rs1)) ((fs2)) ((b3)) (by omega) (by omega) (by omega) (by omega) (by exact dd.2.2.1) (by exact dd.1.2)) rfl rfl (.cur rfl (.agg rfl rfl (.cons rfl .nil))) rfl (fun ⟨_, _, _⟩ => rfl) (fun _ => rfl) (fun ⟨_, _, _⟩ => rfl) rfl rfl) ?_
   rintro ⟨⟨b28, i229, h230⟩, hq31⟩
   try dsimp only at hq31
   try dsimp only
   obtain ⟨q32, q33, q34⟩ := hq31
   refine dO 7 rfl (oS 2) ?_
   refine dO 8 rfl (oS 5) ?_
   refine dT 9 rfl pA ?_
   refine d_end (by kernel_rfl) ?_
   refine t_ret Tryz.func63 (.cells (n := 2) (by kernel_rfl) (by kernel_rfl) rfl rfl rfl (.cells (n := 5) (by kernel_rfl) (by kernel_rfl) rfl rfl rfl (.tmp rfl .nil))) rfl fun E S w u hI hd => ?_
   refine post_mkG (⟨(rs1), (fs2), (b3), (hs4), (e5), (lv6), (rv7), (b28)⟩) ?_ hI hd ?_ trivial rfl rfl <;> clear hI hd
   · (try dsimp only) <;> (exact ⟨by assumption, by assumption, by assumption, by assumption⟩)
   · rfl
  ·
   rintro ⟨⟨b21, i222, h223⟩, hq24⟩
   try dsimp only at hq24
   try dsimp only
   obtain ⟨q25, q26, q27⟩ := hq24
   refine d_two 1 7 rfl rfl (by kernel_rfl) rfl rfl (oC 5) (oS 2) ?_ ?_
   ·
    refine dO 7 rfl (oS 2) ?_
    refine dO 8 rfl (oS 5) ?_
    refine dT 9 rfl pA ?_
    refine d_end (by kernel_rfl) ?_
    refine t_ret Tryz.func63 (.cells (n := 2) (by kernel_rfl) (by kernel_rfl) rfl rfl rfl (.cells (n := 5) (by kernel_rfl) (by kernel_rfl) rfl rfl rfl (.tmp rfl .nil))) rfl fun E S w u hI hd => ?_
    refine post_mkG (⟨(rs1), (fs2), (b3), (hs4), (e5), (lv6), (rv7), (b21)⟩) ?_ hI hd ?_ trivial rfl rfl <;> clear hI hd
    · (try dsimp only) <;> (exact ⟨by assumption, by assumption, by assumption, by assumption⟩)
    · rfl
   ·
    refine dT 1 rfl (pC 5) ?_
    refine dO 8 rfl (oS 5) ?_
    refine dT 9 rfl pA ?_
    refine d_end (by kernel_rfl) ?_
    refine t_ret Tryz.func63 (.cells (n := 2) (by kernel_rfl) (by kernel_rfl) rfl rfl rfl (.cells (n := 5) (by kernel_rfl) (by kernel_rfl) rfl rfl rfl (.tmp rfl .nil))) rfl fun E S w u hI hd => ?_
    refine post_mkG (⟨(rs1), (fs2), (b3), (hs4), (e5), (lv6), (rv7), (b21)⟩) ?_ hI hd ?_ trivial rfl rfl <;> clear hI hd
    · (try dsimp only) <;> (exact ⟨by assumption, by assumption, by assumption, by assumption⟩)
    · rfl
 ·
  rintro ⟨⟩
  refine d_twoX 0 6 rfl rfl (by kernel_rfl) rfl rfl (osX (oC 2)) (o_callGM 4 7 8 (pv := none) (Go.Proofs.enters_of Tryz.func60 (by kernel_rfl) rfl) (c_spec_l11Bind ((code)) ((i28)) ((h29)) ((rs1)) ((fs2)) ((b3)) (by omega) (by omega) (by omega) (by omega) (by exact dd.2.2.1) (by exact dd.1.2)) rfl rfl (.cur rfl (.agg rfl rfl (.cons rfl .nil))) rfl (fun ⟨_, _, _⟩ => rfl) (fun _ => rfl) (fun ⟨_, _, _⟩ => rfl) rfl rfl) ?_ ?_
  ·
   rintro ⟨⟩
   refine dOX 6 rfl (o_callGM 4 7 8 (pv := none) (Go.Proofs.enters_of Tryz.func60 (by kernel_rfl) rfl) (c_spec_l11Bind ((code)) ((i28)) ((h29)) ((rs1)) ((fs2)) ((b3)) (by omega) (by omega) (by omega) (by omega) (by exact dd.2.2.1) (by exact dd.1.2)) rfl rfl (.cur rfl (.agg rfl rfl (.cons rfl .nil))) rfl (fun ⟨_, _, _⟩ => rfl) (fun _ => rfl) (fun ⟨_, _, _⟩ => rfl) rfl rfl) ?_
   rintro ⟨⟨b42, i243, h244⟩, hq45⟩
   try dsimp only at hq45
   try dsimp only
   obtain ⟨q46, q47, q48⟩ := hq45
   refine dO 7 rfl (oS 2) ?_
   refine dO 8 rfl (oS 5) ?_
   refine dT 9 rfl pA ?_
   refine d_end (by kernel_rfl) ?_
   refine t_ret Tryz.func63 (.cells (n := 2) (by kernel_rfl) (by kernel_rfl) rfl rfl rfl (.cells (n := 5) (by kernel_rfl) (by kernel_rfl) rfl rfl rfl (.tmp rfl .nil))) rfl fun E S w u hI hd => ?_
   refine post_mkG (⟨(rs1), (fs2), (b3), (hs4), (e5), (lv6), (rv7), (b42)⟩) ?_ hI hd ?_ trivial rfl rfl <;> clear hI hd
   · (try dsimp only) <;> (exact ⟨by assumption, by assumption, by assumption, by assumption⟩)
   · rfl
  ·
   rintro ⟨⟨b35, i236, h237⟩, hq38⟩
   try dsimp only at hq38
   try dsimp only
   obtain ⟨q39, q40, q41⟩ := hq38
   refine dT 0 rfl (pC 2) ?_
   refine dO 7 rfl (oS 2) ?_
   refine dO 8 rfl (oS 5) ?_
   refine dT 9 rfl pA ?_
   refine d_end (by kernel_rfl) ?_
   refine t_ret Tryz.func63 (.cells (n := 2) (by kernel_rfl) (by kernel_rfl) rfl rfl rfl (.cells (n := 5) (by kernel_rfl) (by kernel_rfl) rfl rfl rfl (.tmp rfl .nil))) rfl fun E S w u hI hd => ?_
   refine post_mkG (⟨(rs1), (fs2), (b3), (hs4), (e5), (lv6), (rv7), (b35)⟩) ?_ hI hd ?_ trivial rfl rfl <;> clear hI hd
   · (try dsimp only) <;> (exact ⟨by assumption, by assumption, by assumption, by assumption⟩)
   · rfl
 ·
  rintro ⟨⟨b14, i215, h216⟩, hq17⟩
  try dsimp only at hq17
  try dsimp only
  obtain ⟨q18, q19, q20⟩ := hq17
  refine dT 0 rfl (pC 2) ?_
  refine d_two 1 7 rfl rfl (by kernel_rfl) rfl rfl (oC 5) (oS 2) ?_ ?_
  ·
   refine dO 7 rfl (oS 2) ?_
   refine dO 8 rfl (oS 5) ?_
   refine dT 9 rfl pA ?_
   refine d_end (by kernel_rfl) ?_
   refine t_ret Tryz.func63 (.cells (n := 2) (by kernel_rfl) (by kernel_rfl) rfl rfl rfl (.cells (n := 5) (by kernel_rfl) (by kernel_rfl) rfl rfl rfl (.tmp rfl .nil))) rfl fun E S w u hI hd => ?_
   refine post_mkG (⟨(rs1), (fs2), (b3), (hs4), (e5), (lv6), (rv7), (b14)⟩) ?_ hI hd ?_ trivial rfl rfl <;> clear hI hd
   · (try dsimp only) <;> (exact ⟨by assumption, by assumption, by assumption, by assumption⟩)
   · rfl
  ·
   refine dT 1 rfl (pC 5) ?_
   refine dO 8 rfl (oS 5) ?_
   refine dT 9 rfl pA ?_
   refine d_end (by kernel_rfl) ?_
   refine t_ret Tryz.func63 (.cells (n := 2) (by kernel_rfl) (by kernel_rfl) rfl rfl rfl (.cells (n := 5) (by kernel_rfl) (by kernel_rfl) rfl rfl rfl (.tmp rfl .nil))) rfl fun E S w u hI hd => ?_
   refine post_mkG (⟨(rs1), (fs2), (b3), (hs4), (e5), (lv6), (rv7), (b14)⟩) ?_ hI hd ?_ trivial rfl rfl <;> clear hI hd
   · (try dsimp only) <;> (exact ⟨by assumption, by assumption, by assumption, by assumption⟩)
   · rfl
set_option maxHeartbeats 1000000 in
set_option maxRecDepth 10000 in
theorem c_spec_DrawIsActiveTrigger (code : List Int) (hc : code.length ≤ 1048576) : PuG Tryz.prog 21 [.c (.t none (.sl 1 encU (code)))] (fun (⟨rs, fs, b, hs, e, lv, rv, v⟩ : Rels × Atoms × Atoms × Atoms × Bool × Int × Int × (List Int)) => instL rs fs ∧ depL (b, hs, e, lv, rv) ∧ v.length ≤ 5 ∧ (∀ x ∈ v, okI x)) (fun (⟨rs, fs, b, hs, e, lv, rv, v⟩ : Rels × Atoms × Atoms × Atoms × Bool × Int × Int × (List Int)) => []) 0 (fun (⟨rs, fs, b, hs, e, lv, rv, v⟩ : Rels × Atoms × Atoms × Atoms × Bool × Int × Int × (List Int)) => .tup [(true, [.t none (.sl 3 (enS3 encS encI encB) (rs)), .t none (.sl 2 (enS2 encI (enSl 1 encI)) (fs))]), (true, [.t none (.sl 2 (enS2 encI (enSl 1 encI)) (b)), .t none (.sl 2 (enS2 encI (enSl 1 encI)) (hs)), .t none (.v (.bool (e))), .t none (.v (.int .i64 (lv))), .t none (.v (.int .i64 (rv)))]), (false, [.t none (.sl 1 encI (v))])]) := by
 refine pu_enterG Tryz.func21 rfl (Nat.le_of_ble_eq_true rfl) fun w S => ?_
 refine tsr ?_
 refine r_op (o_alloc 0 (zs := [.slice none 0 0, .slice none 0 0]) rfl rfl (by kernel_rfl) rfl) ?_
 refine r_op (o_alloc 1 (zs := [.slice none 0 0, .slice none 0 0, .bool (false), .int .i64 (0), .int .i64 (0)]) rfl rfl (by kernel_rfl) rfl) ?_
 refine r_op oA ?_
 refine etr ?_
 refine r_op oM ?_
 refine r_opX (o_callG 2 2 (Go.Proofs.enters_of Tryz.func63 (by kernel_rfl) rfl) (c_spec_DrawIsTrigger (code) (by omega)) rfl (.cons rfl (.c .t0) .nil) rfl rfl) ?_
 rintro ⟨⟨rs1, fs2, b3, hs4, e5, lv6, rv7, v8⟩, hq9⟩
 try dsimp only at hq9
 try dsimp only
 obtain ⟨q10, q11, q12, q13⟩ := hq9
 refine r_op (o_extract rfl rfl rfl rfl) ?_
 refine r_op (o_extract rfl rfl rfl rfl) ?_
 refine r_op (o_extract rfl rfl rfl rfl) ?_
 refine r_op (oS 2) ?_
 refine r_op (oS 5) ?_
 refine r_op oA ?_
 refine r_end ?_
 refine t_ret Tryz.func21 (.cells (n := 2) (by kernel_rfl) (by kernel_rfl) rfl rfl rfl (.cells (n := 5) (by kernel_rfl) (by kernel_rfl) rfl rfl rfl (.tmp rfl .nil))) rfl fun E S w u hI hd => ?_
 refine post_mkG (⟨(rs1), (fs2), (b3), (hs4), (e5), (lv6), (rv7), (v8)⟩) ?_ hI hd ?_ trivial rfl rfl <;> clear hI hd
 · (try dsimp only) <;> (exact ⟨by assumption, by assumption, by assumption, by assumption⟩)
 · rfl
set_option maxHeartbeats 1000000 in
set_option maxRecDepth 10000 in
theorem c_impl_within (a0 a1 a2 : Int) : Pu Tryz.prog 117 [.c (.t none (.v (.int .i64 (a0)))), .c (.t none (.v (.int .i64 (a1)))), .c (.t none (.v (.int .i64 (a2))))] [] 0 (.c (.t none (.v (.bool (decide (a1 ≤ a0 ∧ a0 ≤ a2)))))) := by
 refine pu_enter Tryz.func117 rfl (Nat.le_of_ble_eq_true rfl) fun w S => ?_
 refine tsr ?_
 refine r_op oA ?_
 refine etr ?_
 refine r_op oM ?_
 refine r_op oM ?_
 refine r_op oB ?_
 refine r_op oM ?_
 refine r_guard rfl rfl rfl (fun g1 => ?_) (fun g1 => ?_)
 ·
  have g1' := of_decide_eq_true g1
  refine r_op oM ?_
  refine r_guard rfl rfl rfl (fun _ => ?_) (nc g1)
  refine r_op oM ?_
  refine r_guard rfl rfl rfl (fun _ => ?_) (nc g1)
  refine r_op oB ?_
  refine r_op (o_pickT rfl rfl g1 rfl) ?_
  refine r_op oA ?_
  refine r_end ?_
  refine t_ret Tryz.func117 (.tmp rfl .nil) rfl fun E S w u hI hd => ?_
  refine post_mk hI hd ?_ trivial rfl rfl rfl <;> clear hI hd
  all_goals (simp_all <;> omega)
 ·
  have g1' := of_decide_eq_false g1
  refine r_guard rfl rfl rfl (ncf g1) (fun _ => ?_)
  refine r_guard rfl rfl rfl (ncf g1) (fun _ => ?_)
  refine r_op (o_pickF rfl rfl g1 rfl) ?_
  refine r_op oA ?_
  refine r_end ?_
  refine t_ret Tryz.func117 (.tmp rfl .nil) rfl fun E S w u hI hd => ?_
  refine post_mk hI hd ?_ trivial rfl rfl rfl <;> clear hI hd
  all_goals (simp_all <;> omega)
set_option maxHeartbeats 1000000 in
set_option maxRecDepth 10000 in
theorem c_impl_IsValidRelation (n : List UInt8) (a : Int) (s : Bool) : Pu Tryz.prog 151 [.agg [.t none (.v (.string (mkS (n)))), .t none (.v (.int .i64 (a))), .t none (.v (.bool (s)))]] [] 0 (.c (.t none (.v (.bool (relOk (n, a, s)))))) := by
 refine pu_enter Tryz.func151 rfl (Nat.le_of_ble_eq_true rfl) fun w S => ?_
 refine tsr ?_
 refine r_op (o_box 0 rfl rfl rfl rfl) ?_
 refine r_op oA ?_
 refine etr ?_
 refine r_op (oF 0) ?_
 refine r_op oL ?_
 refine r_op (o_lenS rfl Tryz.underlying9 rfl) ?_
 refine r_op oB ?_
 refine r_op oM ?_
 refine r_guard rfl rfl rfl (fun g1 => ?_) (fun g1 => ?_)
 ·
  have g1' := of_decide_eq_true g1
  refine r_op (oF 0) ?_
  refine r_guard rfl rfl rfl (fun _ => ?_) (nc g1)
  refine r_op oL ?_
  refine r_guard rfl rfl rfl (fun _ => ?_) (nc g1)
  refine r_op (o_str rfl rfl rfl rfl) ?_
  refine r_op (o_pickT rfl rfl g1 rfl) ?_
  refine r_op oM ?_
  refine r_guard rfl rfl rfl (fun g2 => ?_) (fun g2 => ?_)
  ·
   have g2' := (bnt g2)
   refine r_op (oF 0) ?_
   refine r_guard rfl rfl rfl (fun _ => ?_) (nc g2)
   refine r_op oL ?_
   refine r_guard rfl rfl rfl (fun _ => ?_) (nc g2)
   refine r_op (o_str rfl rfl rfl rfl) ?_
   refine r_op (o_pickT rfl rfl g2 rfl) ?_
   refine r_op oM ?_
   refine r_guard rfl rfl rfl (fun g3 => ?_) (fun g3 => ?_)
   ·
    have g3' := (bnt g3)
    refine r_op (oF 1) ?_
    refine r_guard rfl rfl rfl (fun _ => ?_) (nc g3)
    refine r_op oL ?_
    refine r_guard rfl rfl rfl (fun _ => ?_) (nc g3)
    refine r_op (o_call 1 1 false (Go.Proofs.enters_of Tryz.func117 (by kernel_rfl) rfl) (c_impl_within (a) (1) (3)) rfl (.cons rfl (.c .t0) (.cons rfl (.c .t0) (.cons rfl (.c .t0) .nil))) rfl rfl rfl) ?_
    refine r_op (o_pickT rfl rfl g3 rfl) ?_
    refine r_op oA ?_
    refine r_end ?_
    refine t_ret Tryz.func151 (.tmp rfl .nil) rfl fun E S w u hI hd => ?_
    refine post_mk hI hd ?_ trivial rfl rfl rfl <;> clear hI hd
    all_goals (refine scB ?_; (obtain ⟨c, rfl⟩ := one_of (by assumption); simp only [less_lo, less_hi, Bool.not_eq_true', Bool.not_eq_false', decide_eq_true_eq, decide_eq_false_iff_not] at *; simp [relOk, nameOk]; omega))
   ·
    have g3' := (bnf g3)
    refine r_guard rfl rfl rfl (ncf g3) (fun _ => ?_)
    refine r_guard rfl rfl rfl (ncf g3) (fun _ => ?_)
    refine r_op (o_pickF rfl rfl g3 rfl) ?_
    refine r_op oA ?_
    refine r_end ?_
    refine t_ret Tryz.func151 (.tmp rfl .nil) rfl fun E S w u hI hd => ?_
    refine post_mk hI hd ?_ trivial rfl rfl rfl <;> clear hI hd
    all_goals (refine scB ?_; (obtain ⟨c, rfl⟩ := one_of (by assumption); simp only [less_lo, less_hi, Bool.not_eq_true', Bool.not_eq_false', decide_eq_true_eq, decide_eq_false_iff_not] at *; simp [relOk, nameOk]; omega))
  ·
   have g2' := (bnf g2)
   refine r_guard rfl rfl rfl (ncf g2) (fun _ => ?_)
   refine r_guard rfl rfl rfl (ncf g2) (fun _ => ?_)
   refine r_op (o_pickF rfl rfl g2 rfl) ?_
   refine r_op oM ?_
   refine r_guard rfl rfl rfl (ncf rfl) (fun _ => ?_)
   refine r_guard rfl rfl rfl (ncf rfl) (fun _ => ?_)
   refine r_guard rfl rfl rfl (ncf rfl) (fun _ => ?_)
   refine r_op (o_pickF rfl rfl rfl rfl) ?_
   refine r_op oA ?_
   refine r_end ?_
   refine t_ret Tryz.func151 (.tmp rfl .nil) rfl fun E S w u hI hd => ?_
   refine post_mk hI hd ?_ trivial rfl rfl rfl <;> clear hI hd
   all_goals (refine scB ?_; (obtain ⟨c, rfl⟩ := one_of (by assumption); simp only [less_lo, less_hi, Bool.not_eq_true', Bool.not_eq_false', decide_eq_true_eq, decide_eq_false_iff_not] at *; simp [relOk, nameOk]; omega))
 ·
  have g1' := of_decide_eq_false g1
  refine r_guard rfl rfl rfl (ncf g1) (fun _ => ?_)
  refine r_guard rfl rfl rfl (ncf g1) (fun _ => ?_)
  refine r_op (o_pickF rfl rfl g1 rfl) ?_
  refine r_op oM ?_
  refine r_guard rfl rfl rfl (ncf rfl) (fun _ => ?_)
  refine r_guard rfl rfl rfl (ncf rfl) (fun _ => ?_)
  refine r_guard rfl rfl rfl (ncf rfl) (fun _ => ?_)
  refine r_op (o_pickF rfl rfl rfl rfl) ?_
  refine r_op oM ?_
  refine r_guard rfl rfl rfl (ncf rfl) (fun _ => ?_)
  refine r_guard rfl rfl rfl (ncf rfl) (fun _ => ?_)
  refine r_guard rfl rfl rfl (ncf rfl) (fun _ => ?_)
  refine r_op (o_pickF rfl rfl rfl rfl) ?_
  refine r_op oA ?_
  refine r_end ?_
  refine t_ret Tryz.func151 (.tmp rfl .nil) rfl fun E S w u hI hd => ?_
  refine post_mk hI hd ?_ trivial rfl rfl rfl <;> clear hI hd
  all_goals (refine scB ?_; (have e := nameOk_not (by assumption); simp [relOk, e]; done))
end Go.Eng
