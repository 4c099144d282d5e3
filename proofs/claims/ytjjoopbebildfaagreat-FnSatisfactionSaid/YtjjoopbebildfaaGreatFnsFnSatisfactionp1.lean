/- What the functions that FnSatisfaction reaches answer. -/
import Derived.Test.YtjjoopbebildfaaGreatFnsFnSatisfactionp0
import Derived.Test.YtjjoopbebildfaaGreatEngZQ
import Derived.Test.YtjjoopbebildfaaGreatChecked
set_option linter.unusedVariables false
set_option linter.unusedSimpArgs false
namespace Go.Eng
open Go Go.RowKit Go.Proofs
set_option maxHeartbeats 1000000 in
set_option maxRecDepth 10000 in
theorem c_spec_l5Any (code : List Int) (i h : Int) (hc : code.length ≤ 1048576) (hi0 : 0 ≤ i) (hi1 : i ≤ code.length) : MuG Tryz.prog 107 [.c (.ptr 0 0)] [.t none (.sl 1 encU (code)), .t none (.v (.int .i64 (i))), .t none (.v (.int .i64 (h)))] (fun (⟨rs, fs, i2, h2⟩ : Rels × Atoms × Int × Int) => instL rs fs ∧ 0 ≤ i2 ∧ i2 ≤ code.length) (fun (⟨rs, fs, i2, h2⟩ : Rels × Atoms × Int × Int) => [.t none (.sl 1 encU (code)), .t none (.v (.int .i64 (i2))), .t none (.v (.int .i64 (h2)))]) (fun (⟨rs, fs, i2, h2⟩ : Rels × Atoms × Int × Int) => []) 1 (fun (⟨rs, fs, i2, h2⟩ : Rels × Atoms × Int × Int) => .agg [.t none (.sl 3 (enS3 encS encI encB) (rs)), .t none (.sl 2 (enS2 encI (enSl 1 encI)) (fs))]) := by
 refine mu_enterG Tryz.func107 rfl (Nat.le_of_ble_eq_true rfl) fun v0 w S M hM => ?_
 refine tsr ?_
 refine r_op (o_alloc 1 (zs := [.slice none 0 0, .slice none 0 0]) rfl rfl (by kernel_rfl) rfl) ?_
 refine etr ?_
 refine r_op oM ?_
 refine r_opX (o_callGM 0 2 7 (pv := some (v0)) (Go.Proofs.enters_of Tryz.func158 (by kernel_rfl) rfl) (c_spec_l5Target (code) (i) (h) (5) (3) (by omega) (by omega) (by omega) (by omega) (by omega)) rfl rfl (.cur rfl (.cons rfl (.cons rfl .nil))) rfl (fun ⟨_, _, _⟩ => rfl) (fun _ => rfl) (fun ⟨_, _, _⟩ => rfl) rfl rfl) ?_
 rintro ⟨⟨fs1, i22, h23⟩, hq4⟩
 try dsimp only at hq4
 try dsimp only
 obtain ⟨q5, q6, q7⟩ := hq4
 refine r_op (o_alloc 7 (zs := [.slice none 0 0, .slice none 0 0]) rfl rfl (by kernel_rfl) rfl) ?_
 refine r_op (oS 2) ?_
 refine r_end ?_
 refine t_seq ?_
 refine tsr ?_
 refine r_op oM ?_
 refine r_opX (o_callGM 0 8 9 (pv := some (v0)) (Go.Proofs.enters_of Tryz.func61 (by kernel_rfl) rfl) (c_spec_l1Once ((code)) ((i22)) ((h23)) (2) (by omega) (by omega) (by omega) (by omega) (by omega)) rfl rfl (.cur rfl (.cons rfl .nil)) rfl (fun ⟨_, _, _⟩ => rfl) (fun _ => rfl) (fun ⟨_, _, _⟩ => rfl) rfl rfl) ?_
 rintro ⟨⟨b8, i29, h210⟩, hq11⟩
 try dsimp only at hq11
 try dsimp only
 refine r_end ?_
 refine t_cond rfl (fun h13 => ?_) (fun h13 => ?_)
 ·
  have h13' := h13
  refine tsr ?_
  refine r_op oM ?_
  refine r_opX (o_callGM 0 9 14 (pv := some (v0)) (Go.Proofs.enters_of Tryz.func78 (by kernel_rfl) rfl) (c_spec_l5Source (((code))) ((i29)) ((h210)) (3) (by omega) (by omega) (by omega) (by omega)) rfl rfl (.cur rfl (.cons rfl .nil)) rfl (fun ⟨_, _, _⟩ => rfl) (fun _ => rfl) (fun ⟨_, _, _⟩ => rfl) rfl rfl) ?_
  rintro ⟨⟨fs14, i215, h216⟩, hq17⟩
  try dsimp only at hq17
  try dsimp only
  obtain ⟨q18, q19, q20⟩ := hq17
  have b4f : ∀ a ∈ fs14, factL a := (by assumption)
  refine r_op (o_alloc 14 (zs := [.slice none 0 0, .slice none 0 0]) rfl rfl (by kernel_rfl) rfl) ?_
  refine r_op (oS 2) ?_
  refine r_end ?_
  refine t_seq ?_
  refine tsr ?_
  refine r_op oA ?_
  refine r_end ?_
  refine t_block ?_
  refine gt_freeze 5 rfl (frz_cur (i := 5) hM rfl rfl rfl) ?_
  refine gt_freeze 6 rfl (frz_cur (i := 6) hM rfl rfl rfl) ?_
  refine gt_freeze 12 rfl (frz_cur (i := 12) hM rfl rfl rfl) ?_
  refine gt_freeze 13 rfl (frz_cur (i := 13) hM rfl rfl rfl) ?_
  refine t_loopL (fun (m, xs) => ⟨[(0, some (.c (.ptr 0 0))), (2, some (.c (.ptr 1 0))), (3, some (.c (.ptr 7 0))), (4, some (.c (.ptr 14 0))), (5, some (.c (.t none (.v (.int .i64 ((m : Int)))))))], [(0, some (.pbox (v0) [.t none (.sl 1 encU ((((code))))), .t none (.v (.int .i64 ((i215)))), .t none (.v (.int .i64 ((h216))))])), (1, some (.box [.t none (.v (.slice none 0 0)), .t none (.v (.slice none 0 0))])), (7, some (.box [.t none (.sl 3 (enS3 encS encI encB) (sigs5)), .t none (.sl 2 (enS2 encI (enSl 1 encI)) (xs))])), (14, some (.box [.t none (.sl 3 (enS3 encS encI encB) (sigs5)), .t none (.sl 2 (enS2 encI (enSl 1 encI)) ((fs14)))]))], 15⟩ : Nat × Atoms → St) (fun (m, xs) => m ≤ fs14.length ∧ xs.length ≤ 5 + m ∧ (∀ a ∈ xs, factL a)) (fun (m, xs) => fs14.length - m) (0, (fs1)) ⟨⟨rfl, ⟨rfl, ⟨rfl, ⟨rfl, ⟨rfl, trivial⟩⟩⟩⟩⟩, ⟨rfl, ⟨rfl, ⟨rfl, ⟨rfl, trivial⟩⟩⟩⟩, rfl⟩ (by exact ⟨Nat.zero_le _, by (try dsimp only); omega, by assumption⟩) ?_
  rintro ⟨m, xs⟩ hI ih0
  try dsimp only at hI ih0
  obtain ⟨b1, b2, b4⟩ := hI
  refine t_seq ?_
  refine tsr ?_
  refine r_op oM ?_
  refine r_op (oF 1) ?_
  refine r_op oL ?_
  refine r_op (o_len rfl rfl rfl) ?_
  refine r_op oB ?_
  refine r_end ?_
  refine t_cond rfl (fun h21 => ?_) (fun h21 => ?_)
  ·
   have h21' := of_decide_eq_true h21
   refine t_skip ?_
   refine t_seq ?_
   refine t_block ?_
   refine t_draw (fun i => !(Nat.beq i 7)) (by kernel_rfl) ?_
   refine dT 0 rfl (pC 2) ?_
   refine dT 1 rfl (pF 1) ?_
   refine dT 2 rfl pL ?_
   refine dT 3 rfl pM ?_
   obtain ⟨z22, hz23, b24⟩ := at_get (xs := (fs14)) (n := (m : Int)) (by omega) (by omega)
   refine dT 4 rfl (p_index (by kernel_rfl) rfl rfl b24 hz23) ?_
   refine dT 5 rfl (p_loadA (n := 2) (by kernel_rfl) (by kernel_rfl) rfl rfl) ?_
   refine dO 6 rfl (o_call 15 15 true (Go.Proofs.enters_of Tryz.func93 (by kernel_rfl) rfl) (c_spec_l5Put (sigs5) (xs) (z22.1) (z22.2) (by (have e7 := szF_L b4; omega)) (by (have e7 := (b4f _ (List.mem_of_getElem? (by assumption))).2.1; omega))) rfl (.cons rfl (.agg (.cons .t0 (.cons .t0 .nil))) (.cons rfl (.agg (.cons .t0 (.cons .t0 .nil))) .nil)) rfl rfl rfl) ?_
   refine dO 7 rfl (oS 2) ?_
   refine d_end (by kernel_rfl) ?_
   refine t_endblock ?_
   refine t_region ?_
   refine r_op oM ?_
   refine r_op oB ?_
   refine r_op oA ?_
   refine r_end ?_
   refine t_le ?_ (ih0 (m + 1, putF (xs) ((z22.1), (z22.2))) (by (try dsimp only); omega) (by (try dsimp only); exact ⟨by omega, Nat.le_trans (putF_len _ _) (by omega), putF_all b4 (b4f _ (List.mem_of_getElem? hz23))⟩))
   exact ⟨⟨rfl, ⟨rfl, ⟨rfl, ⟨rfl, ⟨(eqI (wr64 (by omega) (by omega))), trivial⟩⟩⟩⟩⟩, ⟨rfl, ⟨rfl, ⟨rfl, ⟨rfl, trivial⟩⟩⟩⟩, rfl⟩
  ·
   have h21' := of_decide_eq_false h21
   refine t_exit rfl ?_
   refine t_region ?_
   refine r_op (oC 2) ?_
   refine r_op (o_call 15 20 false (Go.Proofs.enters_of Tryz.func87 (by kernel_rfl) rfl) (c_spec_l5Copy (sigs5) (xs) (by (rw [sigs5_len]; omega)) (by (have e7 := szF_L b4; omega))) rfl (.cons rfl (.agg (.cons .t0 (.cons .t0 .nil))) .nil) rfl rfl rfl) ?_
   refine r_op (oS 2) ?_
   refine r_end ?_
   refine t_seq ?_
   refine tsr ?_
   refine r_op oM ?_
   refine r_opX (o_callGM 0 20 21 (pv := some (v0)) (Go.Proofs.enters_of Tryz.func81 (by kernel_rfl) rfl) (c_spec_l1Below ((((code)))) ((i215)) ((h216)) (14) (by omega) (by omega) (by omega) (by omega) (by omega)) rfl rfl (.cur rfl (.cons rfl .nil)) rfl (fun ⟨_, _, _⟩ => rfl) (fun _ => rfl) (fun ⟨_, _, _⟩ => rfl) rfl rfl) ?_
   rintro ⟨⟨x25, i226, h227⟩, hq28⟩
   try dsimp only at hq28
   try dsimp only
   obtain ⟨q29, q30⟩ := hq28
   refine r_end ?_
   refine t_block ?_
   refine tsr ?_
   refine r_op oB ?_
   refine r_op oA ?_
   refine r_end ?_
   refine t_cond rfl (fun h31 => ?_) (fun h31 => ?_)
   ·
    have h31' := of_decide_eq_true h31
    refine t_draw (fun i => !(Nat.beq i 3 || Nat.beq i 5 || Nat.beq i 7)) (by kernel_rfl) ?_
    refine d_takeP 0 rfl rfl (by kernel_rfl) (by kernel_rfl) (by kernel_rfl) (pw_fieldb (off := 1) (by kernel_rfl) rfl) ?_
    refine dT 2 rfl pM ?_
    refine d_twoX 1 3 rfl rfl (by kernel_rfl) rfl rfl (osX oL) (o_callGM 0 21 29 (pv := some (v0)) (Go.Proofs.enters_of Tryz.func161 (by kernel_rfl) rfl) (c_spec_l4Any (((((code))))) ((i226)) ((h227)) (by omega) (by omega) (by omega)) rfl rfl (.cur rfl .nil) rfl (fun ⟨_, _, _, _⟩ => rfl) (fun _ => rfl) (fun ⟨_, _, _, _⟩ => rfl) rfl rfl) ?_ ?_
    ·
     rintro ⟨⟩
     refine dOX 3 rfl (o_callGM 0 21 29 (pv := some (v0)) (Go.Proofs.enters_of Tryz.func161 (by kernel_rfl) rfl) (c_spec_l4Any (((((code))))) ((i226)) ((h227)) (by omega) (by omega) (by omega)) rfl rfl (.cur rfl .nil) rfl (fun ⟨_, _, _, _⟩ => rfl) (fun _ => rfl) (fun ⟨_, _, _, _⟩ => rfl) rfl rfl) ?_
     rintro ⟨⟨r39, ts40, i241, h242⟩, hq43⟩
     try dsimp only at hq43
     try dsimp only
     obtain ⟨q44, q45⟩ := hq43
     refine dO 4 rfl (o_litS 29 (e := 36) (sz := 2) (zs := [.int .i64 (0), .slice none 0 0]) rfl rfl (by kernel_rfl) rfl rfl rfl rfl rfl) ?_
     refine dO 5 rfl (o_append 19 (e := 36) (sz := 2) (by' := 32) (((r39), (ts40))) rfl (by kernel_rfl) rfl rfl rfl rfl rfl rfl (.cons .sc (.take (.own rfl) rfl .nil)) rfl (by omega) (by omega)) ?_
     refine dT 6 rfl (pF 1) ?_
     refine dO 7 rfl (oS 1) ?_
     refine d_end (by kernel_rfl) ?_
     refine t_endblock ?_
     refine tsr ?_
     refine r_op (oC 2) ?_
     refine r_op (oS 2) ?_
     refine r_end ?_
     refine gt_freeze 17 rfl (frz_cur (i := 17) hM rfl rfl rfl) ?_
     refine gt_freeze 19 rfl (frz_cur (i := 19) hM rfl rfl rfl) ?_
     refine t_ret Tryz.func107 (.cells (n := 2) (by kernel_rfl) (by kernel_rfl) rfl rfl rfl .nil) rfl fun E S w u hI hd => ?_
     refine post_mkG (⟨(sigs5), (xs) ++ [((r39), (ts40))], (i241), (h242)⟩) ?_ hI hd ?_ ⟨rfl, trivial⟩ rfl rfl <;> clear hI hd <;> (try clear ih0)
     · (try dsimp only) <;> ((refine ⟨⟨?_, ?_, ?_, ?_⟩, by omega⟩ <;> (try dsimp only)) <;> first | decide | exact relS | (simp only [List.length_append, List.length_singleton]; omega) | exact mem_snoc (by assumption) (by assumption))
     · rfl
    ·
     rintro ⟨⟨r32, ts33, i234, h235⟩, hq36⟩
     try dsimp only at hq36
     try dsimp only
     obtain ⟨q37, q38⟩ := hq36
     refine dT 1 rfl pL ?_
     refine dO 4 rfl (o_litS 29 (e := 36) (sz := 2) (zs := [.int .i64 (0), .slice none 0 0]) rfl rfl (by kernel_rfl) rfl rfl rfl rfl rfl) ?_
     refine dO 5 rfl (o_append 19 (e := 36) (sz := 2) (by' := 32) (((r32), (ts33))) rfl (by kernel_rfl) rfl rfl rfl rfl rfl rfl (.cons .sc (.take (.own rfl) rfl .nil)) rfl (by omega) (by omega)) ?_
     refine dT 6 rfl (pF 1) ?_
     refine dO 7 rfl (oS 1) ?_
     refine d_end (by kernel_rfl) ?_
     refine t_endblock ?_
     refine tsr ?_
     refine r_op (oC 2) ?_
     refine r_op (oS 2) ?_
     refine r_end ?_
     refine gt_freeze 17 rfl (frz_cur (i := 17) hM rfl rfl rfl) ?_
     refine gt_freeze 19 rfl (frz_cur (i := 19) hM rfl rfl rfl) ?_
     refine t_ret Tryz.func107 (.cells (n := 2) (by kernel_rfl) (by kernel_rfl) rfl rfl rfl .nil) rfl fun E S w u hI hd => ?_
     refine post_mkG (⟨(sigs5), (xs) ++ [((r32), (ts33))], (i234), (h235)⟩) ?_ hI hd ?_ ⟨rfl, trivial⟩ rfl rfl <;> clear hI hd <;> (try clear ih0)
     · (try dsimp only) <;> ((refine ⟨⟨?_, ?_, ?_, ?_⟩, by omega⟩ <;> (try dsimp only)) <;> first | decide | exact relS | (simp only [List.length_append, List.length_singleton]; omega) | exact mem_snoc (by assumption) (by assumption))
     · rfl
   ·
    have h31' := of_decide_eq_false h31
    refine tsr ?_
    refine r_op oB ?_
    refine r_op oA ?_
    refine r_end ?_
    refine t_cond rfl (fun h46 => ?_) (fun h46 => ?_)
    ·
     have h46' := of_decide_eq_true h46
     refine t_region ?_
     refine r_op (oF 0) ?_
     refine r_op oL ?_
     refine r_op (o_subo rfl (by kernel_rfl) rfl rfl (.l rfl (by omega) (by (rw [sigs5_len]; omega)))) ?_
     refine r_op (oF 0) ?_
     refine r_op (oS 1) ?_
     refine r_end ?_
     refine t_endblock ?_
     refine tsr ?_
     refine r_op (oC 2) ?_
     refine r_op (oS 2) ?_
     refine r_end ?_
     refine gt_freeze 17 rfl (frz_cur (i := 17) hM rfl rfl rfl) ?_
     refine gt_freeze 19 rfl (frz_cur (i := 19) hM rfl rfl rfl) ?_
     refine t_ret Tryz.func107 (.cells (n := 2) (by kernel_rfl) (by kernel_rfl) rfl rfl rfl .nil) rfl fun E S w u hI hd => ?_
     refine post_mkG (⟨(((sigs5)).take ((sigs5)).length).drop ((1 : Int)).toNat, (xs), (i226), (h227)⟩) ?_ hI hd ?_ ⟨rfl, trivial⟩ rfl rfl <;> clear hI hd <;> (try clear ih0)
     · (try dsimp only) <;> ((refine ⟨⟨?_, ?_, ?_, ?_⟩, by omega⟩ <;> (try dsimp only)) <;> first | decide | exact fun z hz => relS z (List.mem_of_mem_take (List.mem_of_mem_drop hz)) | omega)
     · rfl
    ·
     have h46' := of_decide_eq_false h46
     refine tsr ?_
     refine r_op oB ?_
     refine r_op oA ?_
     refine r_end ?_
     refine t_cond rfl (fun h47 => ?_) (fun h47 => ?_)
     ·
      have h47' := of_decide_eq_true h47
      refine t_draw (fun i => !(Nat.beq i 3 || Nat.beq i 5 || Nat.beq i 7)) (by kernel_rfl) ?_
      refine d_takeP 0 rfl rfl (by kernel_rfl) (by kernel_rfl) (by kernel_rfl) (pw_fieldb (off := 0) (by kernel_rfl) rfl) ?_
      refine dT 2 rfl pM ?_
      refine d_takeP 4 rfl rfl (by kernel_rfl) (by kernel_rfl) (by kernel_rfl) (pw_move rfl) ?_
      refine d_twoX 1 3 rfl rfl (by kernel_rfl) rfl rfl (osX oL) (o_callGM 0 21 22 (pv := some (v0)) (Go.Proofs.enters_of Tryz.func81 (by kernel_rfl) rfl) (c_spec_l1Below (((((code))))) ((i226)) ((h227)) (5) (by omega) (by omega) (by omega) (by omega) (by omega)) rfl rfl (.cur rfl (.cons rfl .nil)) rfl (fun ⟨_, _, _⟩ => rfl) (fun _ => rfl) (fun ⟨_, _, _⟩ => rfl) rfl rfl) ?_ ?_
      ·
       rintro ⟨⟩
       refine dOX 3 rfl (o_callGM 0 21 22 (pv := some (v0)) (Go.Proofs.enters_of Tryz.func81 (by kernel_rfl) rfl) (c_spec_l1Below (((((code))))) ((i226)) ((h227)) (5) (by omega) (by omega) (by omega) (by omega) (by omega)) rfl rfl (.cur rfl (.cons rfl .nil)) rfl (fun ⟨_, _, _⟩ => rfl) (fun _ => rfl) (fun ⟨_, _, _⟩ => rfl) rfl rfl) ?_
       rintro ⟨⟨x54, i255, h256⟩, hq57⟩
       try dsimp only at hq57
       try dsimp only
       obtain ⟨q58, q59⟩ := hq57
       refine dOX 5 rfl (o_callGM 0 22 23 (pv := some (v0)) (Go.Proofs.enters_of Tryz.func162 (by kernel_rfl) rfl) (c_spec_l3One ((((((code)))))) ((i255)) ((h256)) (by omega) (by omega) (by omega)) rfl rfl (.cur rfl .nil) rfl (fun ⟨_, _, _, _, _⟩ => rfl) (fun _ => rfl) (fun ⟨_, _, _, _, _⟩ => rfl) rfl rfl) ?_
       rintro ⟨⟨n60, ar61, b62, i263, h264⟩, hq65⟩
       try dsimp only at hq65
       try dsimp only
       obtain ⟨q66, q67⟩ := hq65
       obtain ⟨z68, hz69, b70⟩ := at_get (xs := (sigs5)) (n := (x54)) (by omega) (by (rw [sigs5_len]; omega))
       refine dT 6 rfl (p_indexo (by kernel_rfl) rfl rfl rfl b70 (at_lt b70 hz69)) ?_
       refine dO 7 rfl (o_storeo (((n60), (ar61), (b62))) (n := 3) (by kernel_rfl) rfl rfl hz69 rfl rfl rfl rfl (.cons .sc (.cons .sc (.cons .sc .nil))) rfl (fun j h1 h2 => by (simp at h1 h2; omega))) ?_
       refine d_end (by kernel_rfl) ?_
       refine t_endblock ?_
       refine tsr ?_
       refine r_op (oC 2) ?_
       refine r_op (oS 2) ?_
       refine r_end ?_
       refine gt_freeze 17 rfl (frz_cur (i := 17) hM rfl rfl rfl) ?_
       refine gt_freeze 19 rfl (frz_cur (i := 19) hM rfl rfl rfl) ?_
       refine t_ret Tryz.func107 (.cells (n := 2) (by kernel_rfl) (by kernel_rfl) rfl rfl rfl .nil) rfl fun E S w u hI hd => ?_
       refine post_mkG (⟨((sigs5)).set ((x54)).toNat (((n60), (ar61), (b62))), (xs), (i263), (h264)⟩) ?_ hI hd ?_ ⟨rfl, trivial⟩ rfl rfl <;> clear hI hd <;> (try clear ih0)
       · (try dsimp only) <;> ((refine ⟨⟨?_, ?_, ?_, ?_⟩, by omega⟩ <;> (try dsimp only)) <;> first | (simp only [List.length_set, List.length_drop, List.length_take, sigs5_len]; omega) | exact mem_set relS (by unfold relL; (try dsimp only); omega) | omega)
       · rfl
      ·
       rintro ⟨⟨x48, i249, h250⟩, hq51⟩
       try dsimp only at hq51
       try dsimp only
       obtain ⟨q52, q53⟩ := hq51
       refine d_twoX 1 5 rfl rfl (by kernel_rfl) rfl rfl (osX oL) (o_callGM 0 22 23 (pv := some (v0)) (Go.Proofs.enters_of Tryz.func162 (by kernel_rfl) rfl) (c_spec_l3One ((((((code)))))) ((i249)) ((h250)) (by omega) (by omega) (by omega)) rfl rfl (.cur rfl .nil) rfl (fun ⟨_, _, _, _, _⟩ => rfl) (fun _ => rfl) (fun ⟨_, _, _, _, _⟩ => rfl) rfl rfl) ?_ ?_
       ·
        rintro ⟨⟩
        refine dOX 5 rfl (o_callGM 0 22 23 (pv := some (v0)) (Go.Proofs.enters_of Tryz.func162 (by kernel_rfl) rfl) (c_spec_l3One ((((((code)))))) ((i249)) ((h250)) (by omega) (by omega) (by omega)) rfl rfl (.cur rfl .nil) rfl (fun ⟨_, _, _, _, _⟩ => rfl) (fun _ => rfl) (fun ⟨_, _, _, _, _⟩ => rfl) rfl rfl) ?_
        rintro ⟨⟨n79, ar80, b81, i282, h283⟩, hq84⟩
        try dsimp only at hq84
        try dsimp only
        obtain ⟨q85, q86⟩ := hq84
        obtain ⟨z87, hz88, b89⟩ := at_get (xs := (sigs5)) (n := (x48)) (by omega) (by (rw [sigs5_len]; omega))
        refine dT 6 rfl (p_indexo (by kernel_rfl) rfl rfl rfl b89 (at_lt b89 hz88)) ?_
        refine dO 7 rfl (o_storeo (((n79), (ar80), (b81))) (n := 3) (by kernel_rfl) rfl rfl hz88 rfl rfl rfl rfl (.cons .sc (.cons .sc (.cons .sc .nil))) rfl (fun j h1 h2 => by (simp at h1 h2; omega))) ?_
        refine d_end (by kernel_rfl) ?_
        refine t_endblock ?_
        refine tsr ?_
        refine r_op (oC 2) ?_
        refine r_op (oS 2) ?_
        refine r_end ?_
        refine gt_freeze 17 rfl (frz_cur (i := 17) hM rfl rfl rfl) ?_
        refine gt_freeze 19 rfl (frz_cur (i := 19) hM rfl rfl rfl) ?_
        refine t_ret Tryz.func107 (.cells (n := 2) (by kernel_rfl) (by kernel_rfl) rfl rfl rfl .nil) rfl fun E S w u hI hd => ?_
        refine post_mkG (⟨((sigs5)).set ((x48)).toNat (((n79), (ar80), (b81))), (xs), (i282), (h283)⟩) ?_ hI hd ?_ ⟨rfl, trivial⟩ rfl rfl <;> clear hI hd <;> (try clear ih0)
        · (try dsimp only) <;> ((refine ⟨⟨?_, ?_, ?_, ?_⟩, by omega⟩ <;> (try dsimp only)) <;> first | (simp only [List.length_set, List.length_drop, List.length_take, sigs5_len]; omega) | exact mem_set relS (by unfold relL; (try dsimp only); omega) | omega)
        · rfl
       ·
        rintro ⟨⟨n71, ar72, b73, i274, h275⟩, hq76⟩
        try dsimp only at hq76
        try dsimp only
        obtain ⟨q77, q78⟩ := hq76
        refine dT 1 rfl pL ?_
        obtain ⟨z90, hz91, b92⟩ := at_get (xs := (sigs5)) (n := (x48)) (by omega) (by (rw [sigs5_len]; omega))
        refine dT 6 rfl (p_indexo (by kernel_rfl) rfl rfl rfl b92 (at_lt b92 hz91)) ?_
        refine dO 7 rfl (o_storeo (((n71), (ar72), (b73))) (n := 3) (by kernel_rfl) rfl rfl hz91 rfl rfl rfl rfl (.cons .sc (.cons .sc (.cons .sc .nil))) rfl (fun j h1 h2 => by (simp at h1 h2; omega))) ?_
        refine d_end (by kernel_rfl) ?_
        refine t_endblock ?_
        refine tsr ?_
        refine r_op (oC 2) ?_
        refine r_op (oS 2) ?_
        refine r_end ?_
        refine gt_freeze 17 rfl (frz_cur (i := 17) hM rfl rfl rfl) ?_
        refine gt_freeze 19 rfl (frz_cur (i := 19) hM rfl rfl rfl) ?_
        refine t_ret Tryz.func107 (.cells (n := 2) (by kernel_rfl) (by kernel_rfl) rfl rfl rfl .nil) rfl fun E S w u hI hd => ?_
        refine post_mkG (⟨((sigs5)).set ((x48)).toNat (((n71), (ar72), (b73))), (xs), (i274), (h275)⟩) ?_ hI hd ?_ ⟨rfl, trivial⟩ rfl rfl <;> clear hI hd <;> (try clear ih0)
        · (try dsimp only) <;> ((refine ⟨⟨?_, ?_, ?_, ?_⟩, by omega⟩ <;> (try dsimp only)) <;> first | (simp only [List.length_set, List.length_drop, List.length_take, sigs5_len]; omega) | exact mem_set relS (by unfold relL; (try dsimp only); omega) | omega)
        · rfl
     ·
      have h47' := of_decide_eq_false h47
      refine t_skip ?_
      refine t_endblock ?_
      refine tsr ?_
      refine r_op (oC 2) ?_
      refine r_op (oS 2) ?_
      refine r_end ?_
      refine gt_freeze 17 rfl (frz_cur (i := 17) hM rfl rfl rfl) ?_
      refine gt_freeze 19 rfl (frz_cur (i := 19) hM rfl rfl rfl) ?_
      refine t_ret Tryz.func107 (.cells (n := 2) (by kernel_rfl) (by kernel_rfl) rfl rfl rfl .nil) rfl fun E S w u hI hd => ?_
      refine post_mkG (⟨(sigs5), (xs), (i226), (h227)⟩) ?_ hI hd ?_ ⟨rfl, trivial⟩ rfl rfl <;> clear hI hd <;> (try clear ih0)
      · (try dsimp only) <;> ((refine ⟨⟨?_, ?_, ?_, ?_⟩, by omega⟩ <;> (try dsimp only)) <;> first | decide | exact relS | omega)
      · rfl
 ·
  have h13' := h13
  refine t_skip ?_
  refine t_seq ?_
  refine tsr ?_
  refine r_op oM ?_
  refine r_opX (o_callGM 0 9 10 (pv := some (v0)) (Go.Proofs.enters_of Tryz.func81 (by kernel_rfl) rfl) (c_spec_l1Below (((code))) ((i29)) ((h210)) (14) (by omega) (by omega) (by omega) (by omega) (by omega)) rfl rfl (.cur rfl (.cons rfl .nil)) rfl (fun ⟨_, _, _⟩ => rfl) (fun _ => rfl) (fun ⟨_, _, _⟩ => rfl) rfl rfl) ?_
  rintro ⟨⟨x93, i294, h295⟩, hq96⟩
  try dsimp only at hq96
  try dsimp only
  obtain ⟨q97, q98⟩ := hq96
  refine r_end ?_
  refine t_block ?_
  refine tsr ?_
  refine r_op oB ?_
  refine r_op oA ?_
  refine r_end ?_
  refine t_cond rfl (fun h99 => ?_) (fun h99 => ?_)
  ·
   have h99' := of_decide_eq_true h99
   refine t_draw (fun i => !(Nat.beq i 3 || Nat.beq i 5 || Nat.beq i 7)) (by kernel_rfl) ?_
   refine d_takeP 0 rfl rfl (by kernel_rfl) (by kernel_rfl) (by kernel_rfl) (pw_fieldb (off := 1) (by kernel_rfl) rfl) ?_
   refine dT 2 rfl pM ?_
   refine d_twoX 1 3 rfl rfl (by kernel_rfl) rfl rfl (osX oL) (o_callGM 0 10 18 (pv := some (v0)) (Go.Proofs.enters_of Tryz.func161 (by kernel_rfl) rfl) (c_spec_l4Any ((((code)))) ((i294)) ((h295)) (by omega) (by omega) (by omega)) rfl rfl (.cur rfl .nil) rfl (fun ⟨_, _, _, _⟩ => rfl) (fun _ => rfl) (fun ⟨_, _, _, _⟩ => rfl) rfl rfl) ?_ ?_
   ·
    rintro ⟨⟩
    refine dOX 3 rfl (o_callGM 0 10 18 (pv := some (v0)) (Go.Proofs.enters_of Tryz.func161 (by kernel_rfl) rfl) (c_spec_l4Any ((((code)))) ((i294)) ((h295)) (by omega) (by omega) (by omega)) rfl rfl (.cur rfl .nil) rfl (fun ⟨_, _, _, _⟩ => rfl) (fun _ => rfl) (fun ⟨_, _, _, _⟩ => rfl) rfl rfl) ?_
    rintro ⟨⟨r107, ts108, i2109, h2110⟩, hq111⟩
    try dsimp only at hq111
    try dsimp only
    obtain ⟨q112, q113⟩ := hq111
    refine dO 4 rfl (o_litS 18 (e := 36) (sz := 2) (zs := [.int .i64 (0), .slice none 0 0]) rfl rfl (by kernel_rfl) rfl rfl rfl rfl rfl) ?_
    refine dO 5 rfl (o_append 6 (e := 36) (sz := 2) (by' := 32) (((r107), (ts108))) rfl (by kernel_rfl) rfl rfl rfl rfl rfl rfl (.cons .sc (.take (.own rfl) rfl .nil)) rfl (by omega) (by omega)) ?_
    refine dT 6 rfl (pF 1) ?_
    refine dO 7 rfl (oS 1) ?_
    refine d_end (by kernel_rfl) ?_
    refine t_endblock ?_
    refine tsr ?_
    refine r_op (oC 2) ?_
    refine r_op (oS 2) ?_
    refine r_end ?_
    refine gt_freeze 5 rfl (frz_cur (i := 5) hM rfl rfl rfl) ?_
    refine gt_freeze 6 rfl (frz_cur (i := 6) hM rfl rfl rfl) ?_
    refine t_ret Tryz.func107 (.cells (n := 2) (by kernel_rfl) (by kernel_rfl) rfl rfl rfl .nil) rfl fun E S w u hI hd => ?_
    refine post_mkG (⟨sigs5, (fs1) ++ [((r107), (ts108))], (i2109), (h2110)⟩) ?_ hI hd ?_ ⟨rfl, trivial⟩ rfl rfl <;> clear hI hd <;> (try clear ih0)
    · (try dsimp only) <;> ((refine ⟨⟨?_, ?_, ?_, ?_⟩, by omega⟩ <;> (try dsimp only)) <;> first | decide | exact relS | (simp only [List.length_append, List.length_singleton]; omega) | exact mem_snoc (by assumption) (by assumption))
    · rfl
   ·
    rintro ⟨⟨r100, ts101, i2102, h2103⟩, hq104⟩
    try dsimp only at hq104
    try dsimp only
    obtain ⟨q105, q106⟩ := hq104
    refine dT 1 rfl pL ?_
    refine dO 4 rfl (o_litS 18 (e := 36) (sz := 2) (zs := [.int .i64 (0), .slice none 0 0]) rfl rfl (by kernel_rfl) rfl rfl rfl rfl rfl) ?_
    refine dO 5 rfl (o_append 6 (e := 36) (sz := 2) (by' := 32) (((r100), (ts101))) rfl (by kernel_rfl) rfl rfl rfl rfl rfl rfl (.cons .sc (.take (.own rfl) rfl .nil)) rfl (by omega) (by omega)) ?_
    refine dT 6 rfl (pF 1) ?_
    refine dO 7 rfl (oS 1) ?_
    refine d_end (by kernel_rfl) ?_
    refine t_endblock ?_
    refine tsr ?_
    refine r_op (oC 2) ?_
    refine r_op (oS 2) ?_
    refine r_end ?_
    refine gt_freeze 5 rfl (frz_cur (i := 5) hM rfl rfl rfl) ?_
    refine gt_freeze 6 rfl (frz_cur (i := 6) hM rfl rfl rfl) ?_
    refine t_ret Tryz.func107 (.cells (n := 2) (by kernel_rfl) (by kernel_rfl) rfl rfl rfl .nil) rfl fun E S w u hI hd => ?_
    refine post_mkG (⟨sigs5, (fs1) ++ [((r100), (ts101))], (i2102), (h2103)⟩) ?_ hI hd ?_ ⟨rfl, trivial⟩ rfl rfl <;> clear hI hd <;> (try clear ih0)
    · (try dsimp only) <;> ((refine ⟨⟨?_, ?_, ?_, ?_⟩, by omega⟩ <;> (try dsimp only)) <;> first | decide | exact relS | (simp only [List.length_append, List.length_singleton]; omega) | exact mem_snoc (by assumption) (by assumption))
    · rfl
  ·
   have h99' := of_decide_eq_false h99
   refine tsr ?_
   refine r_op oB ?_
   refine r_op oA ?_
   refine r_end ?_
   refine t_cond rfl (fun h114 => ?_) (fun h114 => ?_)
   ·
    have h114' := of_decide_eq_true h114
    refine t_region ?_
    refine r_op (oF 0) ?_
    refine r_op oL ?_
    refine r_op (o_subo rfl (by kernel_rfl) rfl rfl (.l rfl (by omega) (by (rw [sigs5_len]; omega)))) ?_
    refine r_op (oF 0) ?_
    refine r_op (oS 1) ?_
    refine r_end ?_
    refine t_endblock ?_
    refine tsr ?_
    refine r_op (oC 2) ?_
    refine r_op (oS 2) ?_
    refine r_end ?_
    refine gt_freeze 5 rfl (frz_cur (i := 5) hM rfl rfl rfl) ?_
    refine gt_freeze 6 rfl (frz_cur (i := 6) hM rfl rfl rfl) ?_
    refine t_ret Tryz.func107 (.cells (n := 2) (by kernel_rfl) (by kernel_rfl) rfl rfl rfl .nil) rfl fun E S w u hI hd => ?_
    refine post_mkG (⟨((sigs5).take (sigs5).length).drop ((1 : Int)).toNat, (fs1), (i294), (h295)⟩) ?_ hI hd ?_ ⟨rfl, trivial⟩ rfl rfl <;> clear hI hd <;> (try clear ih0)
    · (try dsimp only) <;> ((refine ⟨⟨?_, ?_, ?_, ?_⟩, by omega⟩ <;> (try dsimp only)) <;> first | decide | exact fun z hz => relS z (List.mem_of_mem_take (List.mem_of_mem_drop hz)) | omega)
    · rfl
   ·
    have h114' := of_decide_eq_false h114
    refine tsr ?_
    refine r_op oB ?_
    refine r_op oA ?_
    refine r_end ?_
    refine t_cond rfl (fun h115 => ?_) (fun h115 => ?_)
    ·
     have h115' := of_decide_eq_true h115
     refine t_draw (fun i => !(Nat.beq i 3 || Nat.beq i 5 || Nat.beq i 7)) (by kernel_rfl) ?_
     refine d_takeP 0 rfl rfl (by kernel_rfl) (by kernel_rfl) (by kernel_rfl) (pw_fieldb (off := 0) (by kernel_rfl) rfl) ?_
     refine dT 2 rfl pM ?_
     refine d_takeP 4 rfl rfl (by kernel_rfl) (by kernel_rfl) (by kernel_rfl) (pw_move rfl) ?_
     refine d_twoX 1 3 rfl rfl (by kernel_rfl) rfl rfl (osX oL) (o_callGM 0 10 11 (pv := some (v0)) (Go.Proofs.enters_of Tryz.func81 (by kernel_rfl) rfl) (c_spec_l1Below ((((code)))) ((i294)) ((h295)) (5) (by omega) (by omega) (by omega) (by omega) (by omega)) rfl rfl (.cur rfl (.cons rfl .nil)) rfl (fun ⟨_, _, _⟩ => rfl) (fun _ => rfl) (fun ⟨_, _, _⟩ => rfl) rfl rfl) ?_ ?_
     ·
      rintro ⟨⟩
      refine dOX 3 rfl (o_callGM 0 10 11 (pv := some (v0)) (Go.Proofs.enters_of Tryz.func81 (by kernel_rfl) rfl) (c_spec_l1Below ((((code)))) ((i294)) ((h295)) (5) (by omega) (by omega) (by omega) (by omega) (by omega)) rfl rfl (.cur rfl (.cons rfl .nil)) rfl (fun ⟨_, _, _⟩ => rfl) (fun _ => rfl) (fun ⟨_, _, _⟩ => rfl) rfl rfl) ?_
      rintro ⟨⟨x122, i2123, h2124⟩, hq125⟩
      try dsimp only at hq125
      try dsimp only
      obtain ⟨q126, q127⟩ := hq125
      refine dOX 5 rfl (o_callGM 0 11 12 (pv := some (v0)) (Go.Proofs.enters_of Tryz.func162 (by kernel_rfl) rfl) (c_spec_l3One (((((code))))) ((i2123)) ((h2124)) (by omega) (by omega) (by omega)) rfl rfl (.cur rfl .nil) rfl (fun ⟨_, _, _, _, _⟩ => rfl) (fun _ => rfl) (fun ⟨_, _, _, _, _⟩ => rfl) rfl rfl) ?_
      rintro ⟨⟨n128, ar129, b130, i2131, h2132⟩, hq133⟩
      try dsimp only at hq133
      try dsimp only
      obtain ⟨q134, q135⟩ := hq133
      obtain ⟨z136, hz137, b138⟩ := at_get (xs := sigs5) (n := (x122)) (by omega) (by (rw [sigs5_len]; omega))
      refine dT 6 rfl (p_indexo (by kernel_rfl) rfl rfl rfl b138 (at_lt b138 hz137)) ?_
      refine dO 7 rfl (o_storeo (((n128), (ar129), (b130))) (n := 3) (by kernel_rfl) rfl rfl hz137 rfl rfl rfl rfl (.cons .sc (.cons .sc (.cons .sc .nil))) rfl (fun j h1 h2 => by (simp at h1 h2; omega))) ?_
      refine d_end (by kernel_rfl) ?_
      refine t_endblock ?_
      refine tsr ?_
      refine r_op (oC 2) ?_
      refine r_op (oS 2) ?_
      refine r_end ?_
      refine gt_freeze 5 rfl (frz_cur (i := 5) hM rfl rfl rfl) ?_
      refine gt_freeze 6 rfl (frz_cur (i := 6) hM rfl rfl rfl) ?_
      refine t_ret Tryz.func107 (.cells (n := 2) (by kernel_rfl) (by kernel_rfl) rfl rfl rfl .nil) rfl fun E S w u hI hd => ?_
      refine post_mkG (⟨(sigs5).set ((x122)).toNat (((n128), (ar129), (b130))), (fs1), (i2131), (h2132)⟩) ?_ hI hd ?_ ⟨rfl, trivial⟩ rfl rfl <;> clear hI hd <;> (try clear ih0)
      · (try dsimp only) <;> ((refine ⟨⟨?_, ?_, ?_, ?_⟩, by omega⟩ <;> (try dsimp only)) <;> first | (simp only [List.length_set, List.length_drop, List.length_take, sigs5_len]; omega) | exact mem_set relS (by unfold relL; (try dsimp only); omega) | omega)
      · rfl
     ·
      rintro ⟨⟨x116, i2117, h2118⟩, hq119⟩
      try dsimp only at hq119
      try dsimp only
      obtain ⟨q120, q121⟩ := hq119
      refine d_twoX 1 5 rfl rfl (by kernel_rfl) rfl rfl (osX oL) (o_callGM 0 11 12 (pv := some (v0)) (Go.Proofs.enters_of Tryz.func162 (by kernel_rfl) rfl) (c_spec_l3One (((((code))))) ((i2117)) ((h2118)) (by omega) (by omega) (by omega)) rfl rfl (.cur rfl .nil) rfl (fun ⟨_, _, _, _, _⟩ => rfl) (fun _ => rfl) (fun ⟨_, _, _, _, _⟩ => rfl) rfl rfl) ?_ ?_
      ·
       rintro ⟨⟩
       refine dOX 5 rfl (o_callGM 0 11 12 (pv := some (v0)) (Go.Proofs.enters_of Tryz.func162 (by kernel_rfl) rfl) (c_spec_l3One (((((code))))) ((i2117)) ((h2118)) (by omega) (by omega) (by omega)) rfl rfl (.cur rfl .nil) rfl (fun ⟨_, _, _, _, _⟩ => rfl) (fun _ => rfl) (fun ⟨_, _, _, _, _⟩ => rfl) rfl rfl) ?_
       rintro ⟨⟨n147, ar148, b149, i2150, h2151⟩, hq152⟩
       try dsimp only at hq152
       try dsimp only
       obtain ⟨q153, q154⟩ := hq152
       obtain ⟨z155, hz156, b157⟩ := at_get (xs := sigs5) (n := (x116)) (by omega) (by (rw [sigs5_len]; omega))
       refine dT 6 rfl (p_indexo (by kernel_rfl) rfl rfl rfl b157 (at_lt b157 hz156)) ?_
       refine dO 7 rfl (o_storeo (((n147), (ar148), (b149))) (n := 3) (by kernel_rfl) rfl rfl hz156 rfl rfl rfl rfl (.cons .sc (.cons .sc (.cons .sc .nil))) rfl (fun j h1 h2 => by (simp at h1 h2; omega))) ?_
       refine d_end (by kernel_rfl) ?_
       refine t_endblock ?_
       refine tsr ?_
       refine r_op (oC 2) ?_
       refine r_op (oS 2) ?_
       refine r_end ?_
       refine gt_freeze 5 rfl (frz_cur (i := 5) hM rfl rfl rfl) ?_
       refine gt_freeze 6 rfl (frz_cur (i := 6) hM rfl rfl rfl) ?_
       refine t_ret Tryz.func107 (.cells (n := 2) (by kernel_rfl) (by kernel_rfl) rfl rfl rfl .nil) rfl fun E S w u hI hd => ?_
       refine post_mkG (⟨(sigs5).set ((x116)).toNat (((n147), (ar148), (b149))), (fs1), (i2150), (h2151)⟩) ?_ hI hd ?_ ⟨rfl, trivial⟩ rfl rfl <;> clear hI hd <;> (try clear ih0)
       · (try dsimp only) <;> ((refine ⟨⟨?_, ?_, ?_, ?_⟩, by omega⟩ <;> (try dsimp only)) <;> first | (simp only [List.length_set, List.length_drop, List.length_take, sigs5_len]; omega) | exact mem_set relS (by unfold relL; (try dsimp only); omega) | omega)
       · rfl
      ·
       rintro ⟨⟨n139, ar140, b141, i2142, h2143⟩, hq144⟩
       try dsimp only at hq144
       try dsimp only
       obtain ⟨q145, q146⟩ := hq144
       refine dT 1 rfl pL ?_
       obtain ⟨z158, hz159, b160⟩ := at_get (xs := sigs5) (n := (x116)) (by omega) (by (rw [sigs5_len]; omega))
       refine dT 6 rfl (p_indexo (by kernel_rfl) rfl rfl rfl b160 (at_lt b160 hz159)) ?_
       refine dO 7 rfl (o_storeo (((n139), (ar140), (b141))) (n := 3) (by kernel_rfl) rfl rfl hz159 rfl rfl rfl rfl (.cons .sc (.cons .sc (.cons .sc .nil))) rfl (fun j h1 h2 => by (simp at h1 h2; omega))) ?_
       refine d_end (by kernel_rfl) ?_
       refine t_endblock ?_
       refine tsr ?_
       refine r_op (oC 2) ?_
       refine r_op (oS 2) ?_
       refine r_end ?_
       refine gt_freeze 5 rfl (frz_cur (i := 5) hM rfl rfl rfl) ?_
       refine gt_freeze 6 rfl (frz_cur (i := 6) hM rfl rfl rfl) ?_
       refine t_ret Tryz.func107 (.cells (n := 2) (by kernel_rfl) (by kernel_rfl) rfl rfl rfl .nil) rfl fun E S w u hI hd => ?_
       refine post_mkG (⟨(sigs5).set ((x116)).toNat (((n139), (ar140), (b141))), (fs1), (i2142), (h2143)⟩) ?_ hI hd ?_ ⟨rfl, trivial⟩ rfl rfl <;> clear hI hd <;> (try clear ih0)
       · (try dsimp only) <;> ((refine ⟨⟨?_, ?_, ?_, ?_⟩, by omega⟩ <;> (try dsimp only)) <;> first | (simp only [List.length_set, List.length_drop, List.length_take, sigs5_len]; omega) | exact mem_set relS (by unfold relL; (try dsimp only); omega) | omega)
       · rfl
    ·
     have h115' := of_decide_eq_false h115
     refine t_skip ?_
     refine t_endblock ?_
     refine tsr ?_
     refine r_op (oC 2) ?_
     refine r_op (oS 2) ?_
     refine r_end ?_
     refine gt_freeze 5 rfl (frz_cur (i := 5) hM rfl rfl rfl) ?_
     refine gt_freeze 6 rfl (frz_cur (i := 6) hM rfl rfl rfl) ?_
     refine t_ret Tryz.func107 (.cells (n := 2) (by kernel_rfl) (by kernel_rfl) rfl rfl rfl .nil) rfl fun E S w u hI hd => ?_
     refine post_mkG (⟨sigs5, (fs1), (i294), (h295)⟩) ?_ hI hd ?_ ⟨rfl, trivial⟩ rfl rfl <;> clear hI hd <;> (try clear ih0)
     · (try dsimp only) <;> ((refine ⟨⟨?_, ?_, ?_, ?_⟩, by omega⟩ <;> (try dsimp only)) <;> first | decide | exact relS | omega)
     · rfl
set_option maxHeartbeats 1000000 in
set_option maxRecDepth 10000 in
theorem c_spec_l9Any (code : List Int) (i h : Int) (hc : code.length ≤ 1048576) (hi0 : 0 ≤ i) (hi1 : i ≤ code.length) : MuG Tryz.prog 108 [.c (.ptr 0 0)] [.t none (.sl 1 encU (code)), .t none (.v (.int .i64 (i))), .t none (.v (.int .i64 (h)))] (fun (⟨b, hs, e, lv, rv, i2, h2⟩ : Atoms × Atoms × Bool × Int × Int × Int × Int) => depL (b, hs, e, lv, rv) ∧ 0 ≤ i2 ∧ i2 ≤ code.length) (fun (⟨b, hs, e, lv, rv, i2, h2⟩ : Atoms × Atoms × Bool × Int × Int × Int × Int) => [.t none (.sl 1 encU (code)), .t none (.v (.int .i64 (i2))), .t none (.v (.int .i64 (h2)))]) (fun (⟨b, hs, e, lv, rv, i2, h2⟩ : Atoms × Atoms × Bool × Int × Int × Int × Int) => [(7, some (.row none 40 true 2 (enS2 encI (enSl 1 encI)) (b))), (8, some (.row none 40 true 2 (enS2 encI (enSl 1 encI)) (hs)))]) 9 (fun (⟨b, hs, e, lv, rv, i2, h2⟩ : Atoms × Atoms × Bool × Int × Int × Int × Int) => .agg [.own 7, .own 8, .t none (.v (.bool (e))), .t none (.v (.int .i64 (lv))), .t none (.v (.int .i64 (rv)))]) := by
 refine mu_enterG Tryz.func108 rfl (Nat.le_of_ble_eq_true rfl) fun v0 w S M hM => ?_
 refine tsr ?_
 refine r_op (o_alloc 1 (zs := [.slice none 0 0, .slice none 0 0, .bool (false), .int .i64 (0), .int .i64 (0)]) rfl rfl (by kernel_rfl) rfl) ?_
 refine etr ?_
 refine r_op oM ?_
 refine r_opX (o_callGM 0 2 9 (pv := some (v0)) (Go.Proofs.enters_of Tryz.func106 (by kernel_rfl) rfl) (c_spec_l9Rule (code) (i) (h) (by omega) (by omega) (by omega)) rfl rfl (.cur rfl .nil) rfl (fun ⟨_, _, _, _, _, _, _⟩ => rfl) (fun _ => rfl) (fun ⟨_, _, _, _, _, _, _⟩ => rfl) rfl rfl) ?_
 rintro ⟨⟨b1, hs2, e3, lv4, rv5, i26, h27⟩, hq8⟩
 try dsimp only at hq8
 try dsimp only
 obtain ⟨q9, q10, q11⟩ := hq8
 have kd : depL (b1, hs2, e3, lv4, rv5) := (by assumption); obtain ⟨k1, k2, k3, k4, k5, k6⟩ := kd; (try dsimp only at k1 k2 k3 k4 k5 k6); have sa := szA_L k3; have sb := szA_L k4; have k7 : ∀ z, b1[(0 : Int).toNat]? = some z → 1 ≤ z.2.length := fun z hz => (k3 z (List.mem_of_getElem? hz)).2.1.1; have k8 : hs2.length ≤ 2 := (by assumption)
 refine r_op (o_alloc 9 (zs := [.slice none 0 0, .slice none 0 0, .bool (false), .int .i64 (0), .int .i64 (0)]) rfl rfl (by kernel_rfl) rfl) ?_
 refine r_op (oS 5) ?_
 refine r_end ?_
 refine t_seq ?_
 refine tsr ?_
 refine r_op oM ?_
 refine r_opX (o_callGM 0 10 11 (pv := some (v0)) (Go.Proofs.enters_of Tryz.func81 (by kernel_rfl) rfl) (c_spec_l1Below ((code)) ((i26)) ((h27)) (12) (by omega) (by omega) (by omega) (by omega) (by omega)) rfl rfl (.cur rfl (.cons rfl .nil)) rfl (fun ⟨_, _, _⟩ => rfl) (fun _ => rfl) (fun ⟨_, _, _⟩ => rfl) rfl rfl) ?_
 rintro ⟨⟨x12, i213, h214⟩, hq15⟩
 try dsimp only at hq15
 try dsimp only
 obtain ⟨q16, q17⟩ := hq15
 refine r_end ?_
 refine t_block ?_
 refine tsr ?_
 refine r_op oB ?_
 refine r_op oA ?_
 refine r_end ?_
 refine t_cond rfl (fun h18 => ?_) (fun h18 => ?_)
 ·
  have h18' := of_decide_eq_true h18
  refine t_draw (fun i => !(Nat.beq i 3 || Nat.beq i 7)) (by kernel_rfl) ?_
  refine d_takeP 0 rfl rfl (by kernel_rfl) (by kernel_rfl) (by kernel_rfl) (pw_fieldb (off := 0) (by kernel_rfl) rfl) ?_
  refine dT 2 rfl pM ?_
  refine d_twoX 1 3 rfl rfl (by kernel_rfl) rfl rfl (osX oL) (o_callGM 0 11 12 (pv := some (v0)) (Go.Proofs.enters_of Tryz.func81 (by kernel_rfl) rfl) (c_spec_l1Below (((code))) ((i213)) ((h214)) (7) (by omega) (by omega) (by omega) (by omega) (by omega)) rfl rfl (.cur rfl (.cons rfl .nil)) rfl (fun ⟨_, _, _⟩ => rfl) (fun _ => rfl) (fun ⟨_, _, _⟩ => rfl) rfl rfl) ?_ ?_
  ·
   rintro ⟨⟩
   refine dOX 3 rfl (o_callGM 0 11 12 (pv := some (v0)) (Go.Proofs.enters_of Tryz.func81 (by kernel_rfl) rfl) (c_spec_l1Below (((code))) ((i213)) ((h214)) (7) (by omega) (by omega) (by omega) (by omega) (by omega)) rfl rfl (.cur rfl (.cons rfl .nil)) rfl (fun ⟨_, _, _⟩ => rfl) (fun _ => rfl) (fun ⟨_, _, _⟩ => rfl) rfl rfl) ?_
   rintro ⟨⟨x25, i226, h227⟩, hq28⟩
   try dsimp only at hq28
   try dsimp only
   obtain ⟨q29, q30⟩ := hq28
   refine dT 4 rfl pB ?_
   obtain ⟨z31, hz32, b33⟩ := at_get (xs := (b1)) (n := 0) (by omega) (by omega)
   refine dT 5 rfl (p_indexo (by kernel_rfl) rfl rfl rfl b33 (at_lt b33 hz32)) ?_
   refine dT 6 rfl (p_fieldo (off := 0) (by kernel_rfl) rfl) ?_
   refine dO 7 rfl (o_storeo ((IntKind.i64.wrap ((x25) - 1), z31.2)) (n := 1) (by kernel_rfl) rfl rfl hz32 rfl rfl rfl rfl (.cons .sc .nil) rfl (fun j h1 h2 => by (have : j = 0 ∨ j = 1 ∨ j = 2 ∨ j = 3 ∨ j = 4 := by omega); rcases this with rfl | rfl | rfl | rfl | rfl <;> first | rfl | (simp at h2; done))) ?_
   refine d_end (by kernel_rfl) ?_
   refine t_endblock ?_
   refine tsr ?_
   refine r_op (oC 5) ?_
   refine r_op (oS 5) ?_
   refine r_end ?_
   refine t_ret Tryz.func108 (.cells (n := 5) (by kernel_rfl) (by kernel_rfl) rfl rfl rfl .nil) rfl fun E S w u hI hd => ?_
   refine post_mkG (⟨((b1)).set ((0 : Int)).toNat ((IntKind.i64.wrap ((x25) - 1), z31.2)), (hs2), (e3), (lv4), (rv5), (i226), (h227)⟩) ?_ hI hd ?_ ⟨rfl, ⟨rfl, ⟨rfl, trivial⟩⟩⟩ rfl rfl <;> clear hI hd
   · (try dsimp only) <;> ((refine ⟨⟨by (simp only [List.length_set]; omega), k2, mem_set k3 (by have e8 := k3 _ (List.mem_of_getElem? hz32); exact ⟨by (try dsimp only); (try simp only [IntKind.wrap_i64] at *); omega, e8.2.1, e8.2.2⟩), k4, k5, k6⟩, by omega⟩; done))
   · rfl
  ·
   rintro ⟨⟨x19, i220, h221⟩, hq22⟩
   try dsimp only at hq22
   try dsimp only
   obtain ⟨q23, q24⟩ := hq22
   refine dT 1 rfl pL ?_
   refine dT 4 rfl pB ?_
   obtain ⟨z34, hz35, b36⟩ := at_get (xs := (b1)) (n := 0) (by omega) (by omega)
   refine dT 5 rfl (p_indexo (by kernel_rfl) rfl rfl rfl b36 (at_lt b36 hz35)) ?_
   refine dT 6 rfl (p_fieldo (off := 0) (by kernel_rfl) rfl) ?_
   refine dO 7 rfl (o_storeo ((IntKind.i64.wrap ((x19) - 1), z34.2)) (n := 1) (by kernel_rfl) rfl rfl hz35 rfl rfl rfl rfl (.cons .sc .nil) rfl (fun j h1 h2 => by (have : j = 0 ∨ j = 1 ∨ j = 2 ∨ j = 3 ∨ j = 4 := by omega); rcases this with rfl | rfl | rfl | rfl | rfl <;> first | rfl | (simp at h2; done))) ?_
   refine d_end (by kernel_rfl) ?_
   refine t_endblock ?_
   refine tsr ?_
   refine r_op (oC 5) ?_
   refine r_op (oS 5) ?_
   refine r_end ?_
   refine t_ret Tryz.func108 (.cells (n := 5) (by kernel_rfl) (by kernel_rfl) rfl rfl rfl .nil) rfl fun E S w u hI hd => ?_
   refine post_mkG (⟨((b1)).set ((0 : Int)).toNat ((IntKind.i64.wrap ((x19) - 1), z34.2)), (hs2), (e3), (lv4), (rv5), (i220), (h221)⟩) ?_ hI hd ?_ ⟨rfl, ⟨rfl, ⟨rfl, trivial⟩⟩⟩ rfl rfl <;> clear hI hd
   · (try dsimp only) <;> ((refine ⟨⟨by (simp only [List.length_set]; omega), k2, mem_set k3 (by have e8 := k3 _ (List.mem_of_getElem? hz35); exact ⟨by (try dsimp only); (try simp only [IntKind.wrap_i64] at *); omega, e8.2.1, e8.2.2⟩), k4, k5, k6⟩, by omega⟩; done))
   · rfl
 ·
  have h18' := of_decide_eq_false h18
  refine tsr ?_
  refine r_op oB ?_
  refine r_op oA ?_
  refine r_end ?_
  refine t_cond rfl (fun h37 => ?_) (fun h37 => ?_)
  ·
   have h37' := of_decide_eq_true h37
   obtain ⟨z38, hz39, b40⟩ := at_get (xs := (b1)) (n := (0 : Int)) (by omega) (by omega)
   refine gt_takeH 11 7 ((0 : Int)).toNat 1 rfl rfl hz39 rfl rfl fun e41 v42 => ?_
   refine t_draw (fun i => !(Nat.beq i 7 || Nat.beq i 9)) (by kernel_rfl) ?_
   refine d_takeP 0 rfl rfl (by kernel_rfl) (by kernel_rfl) (by kernel_rfl) (pw_fieldb (off := 0) (by kernel_rfl) rfl) ?_
   refine dT 5 rfl pM ?_
   refine d_two 1 6 rfl rfl (by kernel_rfl) rfl rfl oL (o_litN 12 (e := 3) (sz := 1) (zs := [.int .i64 (0)]) (enc := encI) [5, -11, 4] rfl rfl (by kernel_rfl) rfl rfl rfl rfl rfl rfl rfl rfl (.cons .sc (.cons .sc (.cons .sc .nil))) rfl) ?_ ?_
   ·
    obtain ⟨z43, hz44, b45⟩ := at_get (xs := holeL ((b1)) (((0 : Int)).toNat) z38 1 v42) (n := 0) (by omega) (by (rw [holeL_len]; omega))
    refine d_two 2 6 rfl rfl (by kernel_rfl) rfl rfl (o_indexo rfl (by kernel_rfl) rfl rfl rfl b45 (at_lt b45 hz44)) (o_litN 12 (e := 3) (sz := 1) (zs := [.int .i64 (0)]) (enc := encI) [5, -11, 4] rfl rfl (by kernel_rfl) rfl rfl rfl rfl rfl rfl rfl rfl (.cons .sc (.cons .sc (.cons .sc .nil))) rfl) ?_ ?_
    ·
     refine d_two 3 6 rfl rfl (by kernel_rfl) rfl rfl (o_fieldo rfl (off := 1) (by kernel_rfl) rfl) (o_litN 12 (e := 3) (sz := 1) (zs := [.int .i64 (0)]) (enc := encI) [5, -11, 4] rfl rfl (by kernel_rfl) rfl rfl rfl rfl rfl rfl rfl rfl (.cons .sc (.cons .sc (.cons .sc .nil))) rfl) ?_ ?_
     ·
      refine d_two 4 6 rfl rfl (by kernel_rfl) rfl rfl (o_loadH rfl (k := 11) (by kernel_rfl) rfl rfl rfl (by omega) rfl) (o_litN 12 (e := 3) (sz := 1) (zs := [.int .i64 (0)]) (enc := encI) [5, -11, 4] rfl rfl (by kernel_rfl) rfl rfl rfl rfl rfl rfl rfl rfl (.cons .sc (.cons .sc (.cons .sc .nil))) rfl) ?_ ?_
      ·
       refine dO 6 rfl (o_litN 12 (e := 3) (sz := 1) (zs := [.int .i64 (0)]) (enc := encI) [5, -11, 4] rfl rfl (by kernel_rfl) rfl rfl rfl rfl rfl rfl rfl rfl (.cons .sc (.cons .sc (.cons .sc .nil))) rfl) ?_
       refine d_freeze 12 rfl (frz_cur (i := 12) hM rfl rfl rfl) ?_
       refine dOX 7 rfl (o_callGM 0 13 14 (pv := some (v0)) (Go.Proofs.enters_of Tryz.func120 (by kernel_rfl) rfl) (c_spec_l1PickInt (((code))) ((i213)) ((h214)) ([5, -11, 4]) (by omega) (by omega) (by omega) (by (simp only [List.length_cons, List.length_nil]; omega)) (by (simp only [List.length_cons, List.length_nil]; omega))) rfl rfl (.cur rfl (.cons rfl .nil)) rfl (fun ⟨_, _, _⟩ => rfl) (fun _ => rfl) (fun ⟨_, _, _⟩ => rfl) rfl rfl) ?_
       rintro ⟨⟨x46, i247, h248⟩, hq49⟩
       try dsimp only at hq49
       try dsimp only
       obtain ⟨q50, q51⟩ := hq49
       obtain ⟨z52, hz53, b54⟩ := at_get (xs := z38.2) (n := 0) (by omega) (by (have e7 := k7 _ (by assumption); omega))
       refine dT 8 rfl (p_indexo (by kernel_rfl) rfl rfl rfl b54 (at_lt b54 hz53)) ?_
       refine dO 9 rfl (o_storeo ((x46)) (n := 1) (by kernel_rfl) rfl rfl hz53 rfl rfl rfl rfl (.cons .sc .nil) rfl (fun j h1 h2 => by (simp at h1 h2; omega))) ?_
       refine d_end (by kernel_rfl) ?_
       refine t_endblock ?_
       refine t_seq ?_
       refine gt_putH 11 7 (((0 : Int)).toNat) 1 ((z38.1, (z38.2).set ((0 : Int)).toNat ((x46)))) rfl rfl rfl (List.getElem?_eq_some_iff.1 hz39).1 rfl (fun j hj => by (have : j = 0 ∨ j = 1 := by omega); rcases this with rfl | rfl <;> rfl) ?_
       refine t_region ?_
       refine r_op (oC 5) ?_
       refine r_op (oS 5) ?_
       refine r_end ?_
       refine t_ret Tryz.func108 (.cells (n := 5) (by kernel_rfl) (by kernel_rfl) rfl rfl rfl .nil) rfl fun E S w u hI hd => ?_
       refine post_mkG (⟨((b1)).set (((0 : Int)).toNat) ((z38.1, (z38.2).set ((0 : Int)).toNat ((x46)))), (hs2), (e3), (lv4), (rv5), (i247), (h248)⟩) ?_ hI hd ?_ ⟨rfl, ⟨rfl, ⟨rfl, trivial⟩⟩⟩ rfl rfl <;> clear hI hd
       · (try dsimp only) <;> ((refine ⟨⟨by (simp only [List.length_set]; omega), k2, mem_set k3 (by have e8 := k3 _ (List.mem_of_getElem? hz39); exact ⟨e8.1, by (simp only [List.length_set]; exact e8.2.1), mem_set e8.2.2 (by have e9 := pick3 (by assumption); omega)⟩), k4, k5, k6⟩, by omega⟩; done))
       · rfl
      ·
       refine d_freeze 12 rfl (frz_cur (i := 12) hM rfl rfl rfl) ?_
       refine d_twoX 4 7 rfl rfl (by kernel_rfl) rfl rfl (osX (o_loadH rfl (k := 11) (by kernel_rfl) rfl rfl rfl (by omega) rfl)) (o_callGM 0 13 14 (pv := some (v0)) (Go.Proofs.enters_of Tryz.func120 (by kernel_rfl) rfl) (c_spec_l1PickInt (((code))) ((i213)) ((h214)) ([5, -11, 4]) (by omega) (by omega) (by omega) (by (simp only [List.length_cons, List.length_nil]; omega)) (by (simp only [List.length_cons, List.length_nil]; omega))) rfl rfl (.cur rfl (.cons rfl .nil)) rfl (fun ⟨_, _, _⟩ => rfl) (fun _ => rfl) (fun ⟨_, _, _⟩ => rfl) rfl rfl) ?_ ?_
       ·
        rintro ⟨⟩
        refine dOX 7 rfl (o_callGM 0 13 14 (pv := some (v0)) (Go.Proofs.enters_of Tryz.func120 (by kernel_rfl) rfl) (c_spec_l1PickInt (((code))) ((i213)) ((h214)) ([5, -11, 4]) (by omega) (by omega) (by omega) (by (simp only [List.length_cons, List.length_nil]; omega)) (by (simp only [List.length_cons, List.length_nil]; omega))) rfl rfl (.cur rfl (.cons rfl .nil)) rfl (fun ⟨_, _, _⟩ => rfl) (fun _ => rfl) (fun ⟨_, _, _⟩ => rfl) rfl rfl) ?_
        rintro ⟨⟨x61, i262, h263⟩, hq64⟩
        try dsimp only at hq64
        try dsimp only
        obtain ⟨q65, q66⟩ := hq64
        obtain ⟨z67, hz68, b69⟩ := at_get (xs := z38.2) (n := 0) (by omega) (by (have e7 := k7 _ (by assumption); omega))
        refine dT 8 rfl (p_indexo (by kernel_rfl) rfl rfl rfl b69 (at_lt b69 hz68)) ?_
        refine dO 9 rfl (o_storeo ((x61)) (n := 1) (by kernel_rfl) rfl rfl hz68 rfl rfl rfl rfl (.cons .sc .nil) rfl (fun j h1 h2 => by (simp at h1 h2; omega))) ?_
        refine d_end (by kernel_rfl) ?_
        refine t_endblock ?_
        refine t_seq ?_
        refine gt_putH 11 7 (((0 : Int)).toNat) 1 ((z38.1, (z38.2).set ((0 : Int)).toNat ((x61)))) rfl rfl rfl (List.getElem?_eq_some_iff.1 hz39).1 rfl (fun j hj => by (have : j = 0 ∨ j = 1 := by omega); rcases this with rfl | rfl <;> rfl) ?_
        refine t_region ?_
        refine r_op (oC 5) ?_
        refine r_op (oS 5) ?_
        refine r_end ?_
        refine t_ret Tryz.func108 (.cells (n := 5) (by kernel_rfl) (by kernel_rfl) rfl rfl rfl .nil) rfl fun E S w u hI hd => ?_
        refine post_mkG (⟨((b1)).set (((0 : Int)).toNat) ((z38.1, (z38.2).set ((0 : Int)).toNat ((x61)))), (hs2), (e3), (lv4), (rv5), (i262), (h263)⟩) ?_ hI hd ?_ ⟨rfl, ⟨rfl, ⟨rfl, trivial⟩⟩⟩ rfl rfl <;> clear hI hd
        · (try dsimp only) <;> ((refine ⟨⟨by (simp only [List.length_set]; omega), k2, mem_set k3 (by have e8 := k3 _ (List.mem_of_getElem? hz39); exact ⟨e8.1, by (simp only [List.length_set]; exact e8.2.1), mem_set e8.2.2 (by have e9 := pick3 (by assumption); omega)⟩), k4, k5, k6⟩, by omega⟩; done))
        · rfl
       ·
        rintro ⟨⟨x55, i256, h257⟩, hq58⟩
        try dsimp only at hq58
        try dsimp only
        obtain ⟨q59, q60⟩ := hq58
        refine dT 4 rfl (p_loadH (k := 11) (by kernel_rfl) rfl rfl rfl (by omega) rfl) ?_
        obtain ⟨z70, hz71, b72⟩ := at_get (xs := z38.2) (n := 0) (by omega) (by (have e7 := k7 _ (by assumption); omega))
        refine dT 8 rfl (p_indexo (by kernel_rfl) rfl rfl rfl b72 (at_lt b72 hz71)) ?_
        refine dO 9 rfl (o_storeo ((x55)) (n := 1) (by kernel_rfl) rfl rfl hz71 rfl rfl rfl rfl (.cons .sc .nil) rfl (fun j h1 h2 => by (simp at h1 h2; omega))) ?_
        refine d_end (by kernel_rfl) ?_
        refine t_endblock ?_
        refine t_seq ?_
        refine gt_putH 11 7 (((0 : Int)).toNat) 1 ((z38.1, (z38.2).set ((0 : Int)).toNat ((x55)))) rfl rfl rfl (List.getElem?_eq_some_iff.1 hz39).1 rfl (fun j hj => by (have : j = 0 ∨ j = 1 := by omega); rcases this with rfl | rfl <;> rfl) ?_
        refine t_region ?_
        refine r_op (oC 5) ?_
        refine r_op (oS 5) ?_
        refine r_end ?_
        refine t_ret Tryz.func108 (.cells (n := 5) (by kernel_rfl) (by kernel_rfl) rfl rfl rfl .nil) rfl fun E S w u hI hd => ?_
        refine post_mkG (⟨((b1)).set (((0 : Int)).toNat) ((z38.1, (z38.2).set ((0 : Int)).toNat ((x55)))), (hs2), (e3), (lv4), (rv5), (i256), (h257)⟩) ?_ hI hd ?_ ⟨rfl, ⟨rfl, ⟨rfl, trivial⟩⟩⟩ rfl rfl <;> clear hI hd
        · (try dsimp only) <;> ((refine ⟨⟨by (simp only [List.length_set]; omega), k2, mem_set k3 (by have e8 := k3 _ (List.mem_of_getElem? hz39); exact ⟨e8.1, by (simp only [List.length_set]; exact e8.2.1), mem_set e8.2.2 (by have e9 := pick3 (by assumption); omega)⟩), k4, k5, k6⟩, by omega⟩; done))
        · rfl
     ·
      refine d_freeze 12 rfl (frz_cur (i := 12) hM rfl rfl rfl) ?_
      refine d_twoX 3 7 rfl rfl (by kernel_rfl) rfl rfl (osX (o_fieldo rfl (off := 1) (by kernel_rfl) rfl)) (o_callGM 0 13 14 (pv := some (v0)) (Go.Proofs.enters_of Tryz.func120 (by kernel_rfl) rfl) (c_spec_l1PickInt (((code))) ((i213)) ((h214)) ([5, -11, 4]) (by omega) (by omega) (by omega) (by (simp only [List.length_cons, List.length_nil]; omega)) (by (simp only [List.length_cons, List.length_nil]; omega))) rfl rfl (.cur rfl (.cons rfl .nil)) rfl (fun ⟨_, _, _⟩ => rfl) (fun _ => rfl) (fun ⟨_, _, _⟩ => rfl) rfl rfl) ?_ ?_
      ·
       rintro ⟨⟩
       refine d_twoX 4 7 rfl rfl (by kernel_rfl) rfl rfl (osX (o_loadH rfl (k := 11) (by kernel_rfl) rfl rfl rfl (by omega) rfl)) (o_callGM 0 13 14 (pv := some (v0)) (Go.Proofs.enters_of Tryz.func120 (by kernel_rfl) rfl) (c_spec_l1PickInt (((code))) ((i213)) ((h214)) ([5, -11, 4]) (by omega) (by omega) (by omega) (by (simp only [List.length_cons, List.length_nil]; omega)) (by (simp only [List.length_cons, List.length_nil]; omega))) rfl rfl (.cur rfl (.cons rfl .nil)) rfl (fun ⟨_, _, _⟩ => rfl) (fun _ => rfl) (fun ⟨_, _, _⟩ => rfl) rfl rfl) ?_ ?_
       ·
        rintro ⟨⟩
        refine dOX 7 rfl (o_callGM 0 13 14 (pv := some (v0)) (Go.Proofs.enters_of Tryz.func120 (by kernel_rfl) rfl) (c_spec_l1PickInt (((code))) ((i213)) ((h214)) ([5, -11, 4]) (by omega) (by omega) (by omega) (by (simp only [List.length_cons, List.length_nil]; omega)) (by (simp only [List.length_cons, List.length_nil]; omega))) rfl rfl (.cur rfl (.cons rfl .nil)) rfl (fun ⟨_, _, _⟩ => rfl) (fun _ => rfl) (fun ⟨_, _, _⟩ => rfl) rfl rfl) ?_
        rintro ⟨⟨x85, i286, h287⟩, hq88⟩
        try dsimp only at hq88
        try dsimp only
        obtain ⟨q89, q90⟩ := hq88
        obtain ⟨z91, hz92, b93⟩ := at_get (xs := z38.2) (n := 0) (by omega) (by (have e7 := k7 _ (by assumption); omega))
        refine dT 8 rfl (p_indexo (by kernel_rfl) rfl rfl rfl b93 (at_lt b93 hz92)) ?_
        refine dO 9 rfl (o_storeo ((x85)) (n := 1) (by kernel_rfl) rfl rfl hz92 rfl rfl rfl rfl (.cons .sc .nil) rfl (fun j h1 h2 => by (simp at h1 h2; omega))) ?_
        refine d_end (by kernel_rfl) ?_
        refine t_endblock ?_
        refine t_seq ?_
        refine gt_putH 11 7 (((0 : Int)).toNat) 1 ((z38.1, (z38.2).set ((0 : Int)).toNat ((x85)))) rfl rfl rfl (List.getElem?_eq_some_iff.1 hz39).1 rfl (fun j hj => by (have : j = 0 ∨ j = 1 := by omega); rcases this with rfl | rfl <;> rfl) ?_
        refine t_region ?_
        refine r_op (oC 5) ?_
        refine r_op (oS 5) ?_
        refine r_end ?_
        refine t_ret Tryz.func108 (.cells (n := 5) (by kernel_rfl) (by kernel_rfl) rfl rfl rfl .nil) rfl fun E S w u hI hd => ?_
        refine post_mkG (⟨((b1)).set (((0 : Int)).toNat) ((z38.1, (z38.2).set ((0 : Int)).toNat ((x85)))), (hs2), (e3), (lv4), (rv5), (i286), (h287)⟩) ?_ hI hd ?_ ⟨rfl, ⟨rfl, ⟨rfl, trivial⟩⟩⟩ rfl rfl <;> clear hI hd
        · (try dsimp only) <;> ((refine ⟨⟨by (simp only [List.length_set]; omega), k2, mem_set k3 (by have e8 := k3 _ (List.mem_of_getElem? hz39); exact ⟨e8.1, by (simp only [List.length_set]; exact e8.2.1), mem_set e8.2.2 (by have e9 := pick3 (by assumption); omega)⟩), k4, k5, k6⟩, by omega⟩; done))
        · rfl
       ·
        rintro ⟨⟨x79, i280, h281⟩, hq82⟩
        try dsimp only at hq82
        try dsimp only
        obtain ⟨q83, q84⟩ := hq82
        refine dT 4 rfl (p_loadH (k := 11) (by kernel_rfl) rfl rfl rfl (by omega) rfl) ?_
        obtain ⟨z94, hz95, b96⟩ := at_get (xs := z38.2) (n := 0) (by omega) (by (have e7 := k7 _ (by assumption); omega))
        refine dT 8 rfl (p_indexo (by kernel_rfl) rfl rfl rfl b96 (at_lt b96 hz95)) ?_
        refine dO 9 rfl (o_storeo ((x79)) (n := 1) (by kernel_rfl) rfl rfl hz95 rfl rfl rfl rfl (.cons .sc .nil) rfl (fun j h1 h2 => by (simp at h1 h2; omega))) ?_
        refine d_end (by kernel_rfl) ?_
        refine t_endblock ?_
        refine t_seq ?_
        refine gt_putH 11 7 (((0 : Int)).toNat) 1 ((z38.1, (z38.2).set ((0 : Int)).toNat ((x79)))) rfl rfl rfl (List.getElem?_eq_some_iff.1 hz39).1 rfl (fun j hj => by (have : j = 0 ∨ j = 1 := by omega); rcases this with rfl | rfl <;> rfl) ?_
        refine t_region ?_
        refine r_op (oC 5) ?_
        refine r_op (oS 5) ?_
        refine r_end ?_
        refine t_ret Tryz.func108 (.cells (n := 5) (by kernel_rfl) (by kernel_rfl) rfl rfl rfl .nil) rfl fun E S w u hI hd => ?_
        refine post_mkG (⟨((b1)).set (((0 : Int)).toNat) ((z38.1, (z38.2).set ((0 : Int)).toNat ((x79)))), (hs2), (e3), (lv4), (rv5), (i280), (h281)⟩) ?_ hI hd ?_ ⟨rfl, ⟨rfl, ⟨rfl, trivial⟩⟩⟩ rfl rfl <;> clear hI hd
        · (try dsimp only) <;> ((refine ⟨⟨by (simp only [List.length_set]; omega), k2, mem_set k3 (by have e8 := k3 _ (List.mem_of_getElem? hz39); exact ⟨e8.1, by (simp only [List.length_set]; exact e8.2.1), mem_set e8.2.2 (by have e9 := pick3 (by assumption); omega)⟩), k4, k5, k6⟩, by omega⟩; done))
        · rfl
      ·
       rintro ⟨⟨x73, i274, h275⟩, hq76⟩
       try dsimp only at hq76
       try dsimp only
       obtain ⟨q77, q78⟩ := hq76
       refine dT 3 rfl (p_fieldo (off := 1) (by kernel_rfl) rfl) ?_
       refine dT 4 rfl (p_loadH (k := 11) (by kernel_rfl) rfl rfl rfl (by omega) rfl) ?_
       obtain ⟨z97, hz98, b99⟩ := at_get (xs := z38.2) (n := 0) (by omega) (by (have e7 := k7 _ (by assumption); omega))
       refine dT 8 rfl (p_indexo (by kernel_rfl) rfl rfl rfl b99 (at_lt b99 hz98)) ?_
       refine dO 9 rfl (o_storeo ((x73)) (n := 1) (by kernel_rfl) rfl rfl hz98 rfl rfl rfl rfl (.cons .sc .nil) rfl (fun j h1 h2 => by (simp at h1 h2; omega))) ?_
       refine d_end (by kernel_rfl) ?_
       refine t_endblock ?_
       refine t_seq ?_
       refine gt_putH 11 7 (((0 : Int)).toNat) 1 ((z38.1, (z38.2).set ((0 : Int)).toNat ((x73)))) rfl rfl rfl (List.getElem?_eq_some_iff.1 hz39).1 rfl (fun j hj => by (have : j = 0 ∨ j = 1 := by omega); rcases this with rfl | rfl <;> rfl) ?_
       refine t_region ?_
       refine r_op (oC 5) ?_
       refine r_op (oS 5) ?_
       refine r_end ?_
       refine t_ret Tryz.func108 (.cells (n := 5) (by kernel_rfl) (by kernel_rfl) rfl rfl rfl .nil) rfl fun E S w u hI hd => ?_
       refine post_mkG (⟨((b1)).set (((0 : Int)).toNat) ((z38.1, (z38.2).set ((0 : Int)).toNat ((x73)))), (hs2), (e3), (lv4), (rv5), (i274), (h275)⟩) ?_ hI hd ?_ ⟨rfl, ⟨rfl, ⟨rfl, trivial⟩⟩⟩ rfl rfl <;> clear hI hd
       · (try dsimp only) <;> ((refine ⟨⟨by (simp only [List.length_set]; omega), k2, mem_set k3 (by have e8 := k3 _ (List.mem_of_getElem? hz39); exact ⟨e8.1, by (simp only [List.length_set]; exact e8.2.1), mem_set e8.2.2 (by have e9 := pick3 (by assumption); omega)⟩), k4, k5, k6⟩, by omega⟩; done))
       · rfl
    ·
     refine d_freeze 12 rfl (frz_cur (i := 12) hM rfl rfl rfl) ?_
     obtain ⟨z100, hz101, b102⟩ := at_get (xs := holeL ((b1)) (((0 : Int)).toNat) z38 1 v42) (n := 0) (by omega) (by (rw [holeL_len]; omega))
     refine d_twoX 2 7 rfl rfl (by kernel_rfl) rfl rfl (osX (o_indexo rfl (by kernel_rfl) rfl rfl rfl b102 (at_lt b102 hz101))) (o_callGM 0 13 14 (pv := some (v0)) (Go.Proofs.enters_of Tryz.func120 (by kernel_rfl) rfl) (c_spec_l1PickInt (((code))) ((i213)) ((h214)) ([5, -11, 4]) (by omega) (by omega) (by omega) (by (simp only [List.length_cons, List.length_nil]; omega)) (by (simp only [List.length_cons, List.length_nil]; omega))) rfl rfl (.cur rfl (.cons rfl .nil)) rfl (fun ⟨_, _, _⟩ => rfl) (fun _ => rfl) (fun ⟨_, _, _⟩ => rfl) rfl rfl) ?_ ?_
     ·
      rintro ⟨⟩
      refine d_twoX 3 7 rfl rfl (by kernel_rfl) rfl rfl (osX (o_fieldo rfl (off := 1) (by kernel_rfl) rfl)) (o_callGM 0 13 14 (pv := some (v0)) (Go.Proofs.enters_of Tryz.func120 (by kernel_rfl) rfl) (c_spec_l1PickInt (((code))) ((i213)) ((h214)) ([5, -11, 4]) (by omega) (by omega) (by omega) (by (simp only [List.length_cons, List.length_nil]; omega)) (by (simp only [List.length_cons, List.length_nil]; omega))) rfl rfl (.cur rfl (.cons rfl .nil)) rfl (fun ⟨_, _, _⟩ => rfl) (fun _ => rfl) (fun ⟨_, _, _⟩ => rfl) rfl rfl) ?_ ?_
      ·
       rintro ⟨⟩
       refine d_twoX 4 7 rfl rfl (by kernel_rfl) rfl rfl (osX (o_loadH rfl (k := 11) (by kernel_rfl) rfl rfl rfl (by omega) rfl)) (o_callGM 0 13 14 (pv := some (v0)) (Go.Proofs.enters_of Tryz.func120 (by kernel_rfl) rfl) (c_spec_l1PickInt (((code))) ((i213)) ((h214)) ([5, -11, 4]) (by omega) (by omega) (by omega) (by (simp only [List.length_cons, List.length_nil]; omega)) (by (simp only [List.length_cons, List.length_nil]; omega))) rfl rfl (.cur rfl (.cons rfl .nil)) rfl (fun ⟨_, _, _⟩ => rfl) (fun _ => rfl) (fun ⟨_, _, _⟩ => rfl) rfl rfl) ?_ ?_
       ·
        rintro ⟨⟩
        refine dOX 7 rfl (o_callGM 0 13 14 (pv := some (v0)) (Go.Proofs.enters_of Tryz.func120 (by kernel_rfl) rfl) (c_spec_l1PickInt (((code))) ((i213)) ((h214)) ([5, -11, 4]) (by omega) (by omega) (by omega) (by (simp only [List.length_cons, List.length_nil]; omega)) (by (simp only [List.length_cons, List.length_nil]; omega))) rfl rfl (.cur rfl (.cons rfl .nil)) rfl (fun ⟨_, _, _⟩ => rfl) (fun _ => rfl) (fun ⟨_, _, _⟩ => rfl) rfl rfl) ?_
        rintro ⟨⟨x121, i2122, h2123⟩, hq124⟩
        try dsimp only at hq124
        try dsimp only
        obtain ⟨q125, q126⟩ := hq124
        obtain ⟨z127, hz128, b129⟩ := at_get (xs := z38.2) (n := 0) (by omega) (by (have e7 := k7 _ (by assumption); omega))
        refine dT 8 rfl (p_indexo (by kernel_rfl) rfl rfl rfl b129 (at_lt b129 hz128)) ?_
        refine dO 9 rfl (o_storeo ((x121)) (n := 1) (by kernel_rfl) rfl rfl hz128 rfl rfl rfl rfl (.cons .sc .nil) rfl (fun j h1 h2 => by (simp at h1 h2; omega))) ?_
        refine d_end (by kernel_rfl) ?_
        refine t_endblock ?_
        refine t_seq ?_
        refine gt_putH 11 7 (((0 : Int)).toNat) 1 ((z38.1, (z38.2).set ((0 : Int)).toNat ((x121)))) rfl rfl rfl (List.getElem?_eq_some_iff.1 hz39).1 rfl (fun j hj => by (have : j = 0 ∨ j = 1 := by omega); rcases this with rfl | rfl <;> rfl) ?_
        refine t_region ?_
        refine r_op (oC 5) ?_
        refine r_op (oS 5) ?_
        refine r_end ?_
        refine t_ret Tryz.func108 (.cells (n := 5) (by kernel_rfl) (by kernel_rfl) rfl rfl rfl .nil) rfl fun E S w u hI hd => ?_
        refine post_mkG (⟨((b1)).set (((0 : Int)).toNat) ((z38.1, (z38.2).set ((0 : Int)).toNat ((x121)))), (hs2), (e3), (lv4), (rv5), (i2122), (h2123)⟩) ?_ hI hd ?_ ⟨rfl, ⟨rfl, ⟨rfl, trivial⟩⟩⟩ rfl rfl <;> clear hI hd
        · (try dsimp only) <;> ((refine ⟨⟨by (simp only [List.length_set]; omega), k2, mem_set k3 (by have e8 := k3 _ (List.mem_of_getElem? hz39); exact ⟨e8.1, by (simp only [List.length_set]; exact e8.2.1), mem_set e8.2.2 (by have e9 := pick3 (by assumption); omega)⟩), k4, k5, k6⟩, by omega⟩; done))
        · rfl
       ·
        rintro ⟨⟨x115, i2116, h2117⟩, hq118⟩
        try dsimp only at hq118
        try dsimp only
        obtain ⟨q119, q120⟩ := hq118
        refine dT 4 rfl (p_loadH (k := 11) (by kernel_rfl) rfl rfl rfl (by omega) rfl) ?_
        obtain ⟨z130, hz131, b132⟩ := at_get (xs := z38.2) (n := 0) (by omega) (by (have e7 := k7 _ (by assumption); omega))
        refine dT 8 rfl (p_indexo (by kernel_rfl) rfl rfl rfl b132 (at_lt b132 hz131)) ?_
        refine dO 9 rfl (o_storeo ((x115)) (n := 1) (by kernel_rfl) rfl rfl hz131 rfl rfl rfl rfl (.cons .sc .nil) rfl (fun j h1 h2 => by (simp at h1 h2; omega))) ?_
        refine d_end (by kernel_rfl) ?_
        refine t_endblock ?_
        refine t_seq ?_
        refine gt_putH 11 7 (((0 : Int)).toNat) 1 ((z38.1, (z38.2).set ((0 : Int)).toNat ((x115)))) rfl rfl rfl (List.getElem?_eq_some_iff.1 hz39).1 rfl (fun j hj => by (have : j = 0 ∨ j = 1 := by omega); rcases this with rfl | rfl <;> rfl) ?_
        refine t_region ?_
        refine r_op (oC 5) ?_
        refine r_op (oS 5) ?_
        refine r_end ?_
        refine t_ret Tryz.func108 (.cells (n := 5) (by kernel_rfl) (by kernel_rfl) rfl rfl rfl .nil) rfl fun E S w u hI hd => ?_
        refine post_mkG (⟨((b1)).set (((0 : Int)).toNat) ((z38.1, (z38.2).set ((0 : Int)).toNat ((x115)))), (hs2), (e3), (lv4), (rv5), (i2116), (h2117)⟩) ?_ hI hd ?_ ⟨rfl, ⟨rfl, ⟨rfl, trivial⟩⟩⟩ rfl rfl <;> clear hI hd
        · (try dsimp only) <;> ((refine ⟨⟨by (simp only [List.length_set]; omega), k2, mem_set k3 (by have e8 := k3 _ (List.mem_of_getElem? hz39); exact ⟨e8.1, by (simp only [List.length_set]; exact e8.2.1), mem_set e8.2.2 (by have e9 := pick3 (by assumption); omega)⟩), k4, k5, k6⟩, by omega⟩; done))
        · rfl
      ·
       rintro ⟨⟨x109, i2110, h2111⟩, hq112⟩
       try dsimp only at hq112
       try dsimp only
       obtain ⟨q113, q114⟩ := hq112
       refine dT 3 rfl (p_fieldo (off := 1) (by kernel_rfl) rfl) ?_
       refine dT 4 rfl (p_loadH (k := 11) (by kernel_rfl) rfl rfl rfl (by omega) rfl) ?_
       obtain ⟨z133, hz134, b135⟩ := at_get (xs := z38.2) (n := 0) (by omega) (by (have e7 := k7 _ (by assumption); omega))
       refine dT 8 rfl (p_indexo (by kernel_rfl) rfl rfl rfl b135 (at_lt b135 hz134)) ?_
       refine dO 9 rfl (o_storeo ((x109)) (n := 1) (by kernel_rfl) rfl rfl hz134 rfl rfl rfl rfl (.cons .sc .nil) rfl (fun j h1 h2 => by (simp at h1 h2; omega))) ?_
       refine d_end (by kernel_rfl) ?_
       refine t_endblock ?_
       refine t_seq ?_
       refine gt_putH 11 7 (((0 : Int)).toNat) 1 ((z38.1, (z38.2).set ((0 : Int)).toNat ((x109)))) rfl rfl rfl (List.getElem?_eq_some_iff.1 hz39).1 rfl (fun j hj => by (have : j = 0 ∨ j = 1 := by omega); rcases this with rfl | rfl <;> rfl) ?_
       refine t_region ?_
       refine r_op (oC 5) ?_
       refine r_op (oS 5) ?_
       refine r_end ?_
       refine t_ret Tryz.func108 (.cells (n := 5) (by kernel_rfl) (by kernel_rfl) rfl rfl rfl .nil) rfl fun E S w u hI hd => ?_
       refine post_mkG (⟨((b1)).set (((0 : Int)).toNat) ((z38.1, (z38.2).set ((0 : Int)).toNat ((x109)))), (hs2), (e3), (lv4), (rv5), (i2110), (h2111)⟩) ?_ hI hd ?_ ⟨rfl, ⟨rfl, ⟨rfl, trivial⟩⟩⟩ rfl rfl <;> clear hI hd
       · (try dsimp only) <;> ((refine ⟨⟨by (simp only [List.length_set]; omega), k2, mem_set k3 (by have e8 := k3 _ (List.mem_of_getElem? hz39); exact ⟨e8.1, by (simp only [List.length_set]; exact e8.2.1), mem_set e8.2.2 (by have e9 := pick3 (by assumption); omega)⟩), k4, k5, k6⟩, by omega⟩; done))
       · rfl
     ·
      rintro ⟨⟨x103, i2104, h2105⟩, hq106⟩
      try dsimp only at hq106
      try dsimp only
      obtain ⟨q107, q108⟩ := hq106
      obtain ⟨z136, hz137, b138⟩ := at_get (xs := holeL ((b1)) (((0 : Int)).toNat) z38 1 v42) (n := 0) (by omega) (by (rw [holeL_len]; omega))
      refine dT 2 rfl (p_indexo (by kernel_rfl) rfl rfl rfl b138 (at_lt b138 hz137)) ?_
      refine dT 3 rfl (p_fieldo (off := 1) (by kernel_rfl) rfl) ?_
      refine dT 4 rfl (p_loadH (k := 11) (by kernel_rfl) rfl rfl rfl (by omega) rfl) ?_
      obtain ⟨z139, hz140, b141⟩ := at_get (xs := z38.2) (n := 0) (by omega) (by (have e7 := k7 _ (by assumption); omega))
      refine dT 8 rfl (p_indexo (by kernel_rfl) rfl rfl rfl b141 (at_lt b141 hz140)) ?_
      refine dO 9 rfl (o_storeo ((x103)) (n := 1) (by kernel_rfl) rfl rfl hz140 rfl rfl rfl rfl (.cons .sc .nil) rfl (fun j h1 h2 => by (simp at h1 h2; omega))) ?_
      refine d_end (by kernel_rfl) ?_
      refine t_endblock ?_
      refine t_seq ?_
      refine gt_putH 11 7 (((0 : Int)).toNat) 1 ((z38.1, (z38.2).set ((0 : Int)).toNat ((x103)))) rfl rfl rfl (List.getElem?_eq_some_iff.1 hz39).1 rfl (fun j hj => by (have : j = 0 ∨ j = 1 := by omega); rcases this with rfl | rfl <;> rfl) ?_
      refine t_region ?_
      refine r_op (oC 5) ?_
      refine r_op (oS 5) ?_
      refine r_end ?_
      refine t_ret Tryz.func108 (.cells (n := 5) (by kernel_rfl) (by kernel_rfl) rfl rfl rfl .nil) rfl fun E S w u hI hd => ?_
      refine post_mkG (⟨((b1)).set (((0 : Int)).toNat) ((z38.1, (z38.2).set ((0 : Int)).toNat ((x103)))), (hs2), (e3), (lv4), (rv5), (i2104), (h2105)⟩) ?_ hI hd ?_ ⟨rfl, ⟨rfl, ⟨rfl, trivial⟩⟩⟩ rfl rfl <;> clear hI hd
      · (try dsimp only) <;> ((refine ⟨⟨by (simp only [List.length_set]; omega), k2, mem_set k3 (by have e8 := k3 _ (List.mem_of_getElem? hz39); exact ⟨e8.1, by (simp only [List.length_set]; exact e8.2.1), mem_set e8.2.2 (by have e9 := pick3 (by assumption); omega)⟩), k4, k5, k6⟩, by omega⟩; done))
      · rfl
   ·
    refine d_freeze 12 rfl (frz_cur (i := 12) hM rfl rfl rfl) ?_
    refine d_twoX 1 7 rfl rfl (by kernel_rfl) rfl rfl (osX oL) (o_callGM 0 13 14 (pv := some (v0)) (Go.Proofs.enters_of Tryz.func120 (by kernel_rfl) rfl) (c_spec_l1PickInt (((code))) ((i213)) ((h214)) ([5, -11, 4]) (by omega) (by omega) (by omega) (by (simp only [List.length_cons, List.length_nil]; omega)) (by (simp only [List.length_cons, List.length_nil]; omega))) rfl rfl (.cur rfl (.cons rfl .nil)) rfl (fun ⟨_, _, _⟩ => rfl) (fun _ => rfl) (fun ⟨_, _, _⟩ => rfl) rfl rfl) ?_ ?_
    ·
     rintro ⟨⟩
     obtain ⟨z148, hz149, b150⟩ := at_get (xs := holeL ((b1)) (((0 : Int)).toNat) z38 1 v42) (n := 0) (by omega) (by (rw [holeL_len]; omega))
     refine d_twoX 2 7 rfl rfl (by kernel_rfl) rfl rfl (osX (o_indexo rfl (by kernel_rfl) rfl rfl rfl b150 (at_lt b150 hz149))) (o_callGM 0 13 14 (pv := some (v0)) (Go.Proofs.enters_of Tryz.func120 (by kernel_rfl) rfl) (c_spec_l1PickInt (((code))) ((i213)) ((h214)) ([5, -11, 4]) (by omega) (by omega) (by omega) (by (simp only [List.length_cons, List.length_nil]; omega)) (by (simp only [List.length_cons, List.length_nil]; omega))) rfl rfl (.cur rfl (.cons rfl .nil)) rfl (fun ⟨_, _, _⟩ => rfl) (fun _ => rfl) (fun ⟨_, _, _⟩ => rfl) rfl rfl) ?_ ?_
     ·
      rintro ⟨⟩
      refine d_twoX 3 7 rfl rfl (by kernel_rfl) rfl rfl (osX (o_fieldo rfl (off := 1) (by kernel_rfl) rfl)) (o_callGM 0 13 14 (pv := some (v0)) (Go.Proofs.enters_of Tryz.func120 (by kernel_rfl) rfl) (c_spec_l1PickInt (((code))) ((i213)) ((h214)) ([5, -11, 4]) (by omega) (by omega) (by omega) (by (simp only [List.length_cons, List.length_nil]; omega)) (by (simp only [List.length_cons, List.length_nil]; omega))) rfl rfl (.cur rfl (.cons rfl .nil)) rfl (fun ⟨_, _, _⟩ => rfl) (fun _ => rfl) (fun ⟨_, _, _⟩ => rfl) rfl rfl) ?_ ?_
      ·
       rintro ⟨⟩
       refine d_twoX 4 7 rfl rfl (by kernel_rfl) rfl rfl (osX (o_loadH rfl (k := 11) (by kernel_rfl) rfl rfl rfl (by omega) rfl)) (o_callGM 0 13 14 (pv := some (v0)) (Go.Proofs.enters_of Tryz.func120 (by kernel_rfl) rfl) (c_spec_l1PickInt (((code))) ((i213)) ((h214)) ([5, -11, 4]) (by omega) (by omega) (by omega) (by (simp only [List.length_cons, List.length_nil]; omega)) (by (simp only [List.length_cons, List.length_nil]; omega))) rfl rfl (.cur rfl (.cons rfl .nil)) rfl (fun ⟨_, _, _⟩ => rfl) (fun _ => rfl) (fun ⟨_, _, _⟩ => rfl) rfl rfl) ?_ ?_
       ·
        rintro ⟨⟩
        refine dOX 7 rfl (o_callGM 0 13 14 (pv := some (v0)) (Go.Proofs.enters_of Tryz.func120 (by kernel_rfl) rfl) (c_spec_l1PickInt (((code))) ((i213)) ((h214)) ([5, -11, 4]) (by omega) (by omega) (by omega) (by (simp only [List.length_cons, List.length_nil]; omega)) (by (simp only [List.length_cons, List.length_nil]; omega))) rfl rfl (.cur rfl (.cons rfl .nil)) rfl (fun ⟨_, _, _⟩ => rfl) (fun _ => rfl) (fun ⟨_, _, _⟩ => rfl) rfl rfl) ?_
        rintro ⟨⟨x169, i2170, h2171⟩, hq172⟩
        try dsimp only at hq172
        try dsimp only
        obtain ⟨q173, q174⟩ := hq172
        obtain ⟨z175, hz176, b177⟩ := at_get (xs := z38.2) (n := 0) (by omega) (by (have e7 := k7 _ (by assumption); omega))
        refine dT 8 rfl (p_indexo (by kernel_rfl) rfl rfl rfl b177 (at_lt b177 hz176)) ?_
        refine dO 9 rfl (o_storeo ((x169)) (n := 1) (by kernel_rfl) rfl rfl hz176 rfl rfl rfl rfl (.cons .sc .nil) rfl (fun j h1 h2 => by (simp at h1 h2; omega))) ?_
        refine d_end (by kernel_rfl) ?_
        refine t_endblock ?_
        refine t_seq ?_
        refine gt_putH 11 7 (((0 : Int)).toNat) 1 ((z38.1, (z38.2).set ((0 : Int)).toNat ((x169)))) rfl rfl rfl (List.getElem?_eq_some_iff.1 hz39).1 rfl (fun j hj => by (have : j = 0 ∨ j = 1 := by omega); rcases this with rfl | rfl <;> rfl) ?_
        refine t_region ?_
        refine r_op (oC 5) ?_
        refine r_op (oS 5) ?_
        refine r_end ?_
        refine t_ret Tryz.func108 (.cells (n := 5) (by kernel_rfl) (by kernel_rfl) rfl rfl rfl .nil) rfl fun E S w u hI hd => ?_
        refine post_mkG (⟨((b1)).set (((0 : Int)).toNat) ((z38.1, (z38.2).set ((0 : Int)).toNat ((x169)))), (hs2), (e3), (lv4), (rv5), (i2170), (h2171)⟩) ?_ hI hd ?_ ⟨rfl, ⟨rfl, ⟨rfl, trivial⟩⟩⟩ rfl rfl <;> clear hI hd
        · (try dsimp only) <;> ((refine ⟨⟨by (simp only [List.length_set]; omega), k2, mem_set k3 (by have e8 := k3 _ (List.mem_of_getElem? hz39); exact ⟨e8.1, by (simp only [List.length_set]; exact e8.2.1), mem_set e8.2.2 (by have e9 := pick3 (by assumption); omega)⟩), k4, k5, k6⟩, by omega⟩; done))
        · rfl
       ·
        rintro ⟨⟨x163, i2164, h2165⟩, hq166⟩
        try dsimp only at hq166
        try dsimp only
        obtain ⟨q167, q168⟩ := hq166
        refine dT 4 rfl (p_loadH (k := 11) (by kernel_rfl) rfl rfl rfl (by omega) rfl) ?_
        obtain ⟨z178, hz179, b180⟩ := at_get (xs := z38.2) (n := 0) (by omega) (by (have e7 := k7 _ (by assumption); omega))
        refine dT 8 rfl (p_indexo (by kernel_rfl) rfl rfl rfl b180 (at_lt b180 hz179)) ?_
        refine dO 9 rfl (o_storeo ((x163)) (n := 1) (by kernel_rfl) rfl rfl hz179 rfl rfl rfl rfl (.cons .sc .nil) rfl (fun j h1 h2 => by (simp at h1 h2; omega))) ?_
        refine d_end (by kernel_rfl) ?_
        refine t_endblock ?_
        refine t_seq ?_
        refine gt_putH 11 7 (((0 : Int)).toNat) 1 ((z38.1, (z38.2).set ((0 : Int)).toNat ((x163)))) rfl rfl rfl (List.getElem?_eq_some_iff.1 hz39).1 rfl (fun j hj => by (have : j = 0 ∨ j = 1 := by omega); rcases this with rfl | rfl <;> rfl) ?_
        refine t_region ?_
        refine r_op (oC 5) ?_
        refine r_op (oS 5) ?_
        refine r_end ?_
        refine t_ret Tryz.func108 (.cells (n := 5) (by kernel_rfl) (by kernel_rfl) rfl rfl rfl .nil) rfl fun E S w u hI hd => ?_
        refine post_mkG (⟨((b1)).set (((0 : Int)).toNat) ((z38.1, (z38.2).set ((0 : Int)).toNat ((x163)))), (hs2), (e3), (lv4), (rv5), (i2164), (h2165)⟩) ?_ hI hd ?_ ⟨rfl, ⟨rfl, ⟨rfl, trivial⟩⟩⟩ rfl rfl <;> clear hI hd
        · (try dsimp only) <;> ((refine ⟨⟨by (simp only [List.length_set]; omega), k2, mem_set k3 (by have e8 := k3 _ (List.mem_of_getElem? hz39); exact ⟨e8.1, by (simp only [List.length_set]; exact e8.2.1), mem_set e8.2.2 (by have e9 := pick3 (by assumption); omega)⟩), k4, k5, k6⟩, by omega⟩; done))
        · rfl
      ·
       rintro ⟨⟨x157, i2158, h2159⟩, hq160⟩
       try dsimp only at hq160
       try dsimp only
       obtain ⟨q161, q162⟩ := hq160
       refine dT 3 rfl (p_fieldo (off := 1) (by kernel_rfl) rfl) ?_
       refine dT 4 rfl (p_loadH (k := 11) (by kernel_rfl) rfl rfl rfl (by omega) rfl) ?_
       obtain ⟨z181, hz182, b183⟩ := at_get (xs := z38.2) (n := 0) (by omega) (by (have e7 := k7 _ (by assumption); omega))
       refine dT 8 rfl (p_indexo (by kernel_rfl) rfl rfl rfl b183 (at_lt b183 hz182)) ?_
       refine dO 9 rfl (o_storeo ((x157)) (n := 1) (by kernel_rfl) rfl rfl hz182 rfl rfl rfl rfl (.cons .sc .nil) rfl (fun j h1 h2 => by (simp at h1 h2; omega))) ?_
       refine d_end (by kernel_rfl) ?_
       refine t_endblock ?_
       refine t_seq ?_
       refine gt_putH 11 7 (((0 : Int)).toNat) 1 ((z38.1, (z38.2).set ((0 : Int)).toNat ((x157)))) rfl rfl rfl (List.getElem?_eq_some_iff.1 hz39).1 rfl (fun j hj => by (have : j = 0 ∨ j = 1 := by omega); rcases this with rfl | rfl <;> rfl) ?_
       refine t_region ?_
       refine r_op (oC 5) ?_
       refine r_op (oS 5) ?_
       refine r_end ?_
       refine t_ret Tryz.func108 (.cells (n := 5) (by kernel_rfl) (by kernel_rfl) rfl rfl rfl .nil) rfl fun E S w u hI hd => ?_
       refine post_mkG (⟨((b1)).set (((0 : Int)).toNat) ((z38.1, (z38.2).set ((0 : Int)).toNat ((x157)))), (hs2), (e3), (lv4), (rv5), (i2158), (h2159)⟩) ?_ hI hd ?_ ⟨rfl, ⟨rfl, ⟨rfl, trivial⟩⟩⟩ rfl rfl <;> clear hI hd
       · (try dsimp only) <;> ((refine ⟨⟨by (simp only [List.length_set]; omega), k2, mem_set k3 (by have e8 := k3 _ (List.mem_of_getElem? hz39); exact ⟨e8.1, by (simp only [List.length_set]; exact e8.2.1), mem_set e8.2.2 (by have e9 := pick3 (by assumption); omega)⟩), k4, k5, k6⟩, by omega⟩; done))
       · rfl
     ·
      rintro ⟨⟨x151, i2152, h2153⟩, hq154⟩
      try dsimp only at hq154
      try dsimp only
      obtain ⟨q155, q156⟩ := hq154
      obtain ⟨z184, hz185, b186⟩ := at_get (xs := holeL ((b1)) (((0 : Int)).toNat) z38 1 v42) (n := 0) (by omega) (by (rw [holeL_len]; omega))
      refine dT 2 rfl (p_indexo (by kernel_rfl) rfl rfl rfl b186 (at_lt b186 hz185)) ?_
      refine dT 3 rfl (p_fieldo (off := 1) (by kernel_rfl) rfl) ?_
      refine dT 4 rfl (p_loadH (k := 11) (by kernel_rfl) rfl rfl rfl (by omega) rfl) ?_
      obtain ⟨z187, hz188, b189⟩ := at_get (xs := z38.2) (n := 0) (by omega) (by (have e7 := k7 _ (by assumption); omega))
      refine dT 8 rfl (p_indexo (by kernel_rfl) rfl rfl rfl b189 (at_lt b189 hz188)) ?_
      refine dO 9 rfl (o_storeo ((x151)) (n := 1) (by kernel_rfl) rfl rfl hz188 rfl rfl rfl rfl (.cons .sc .nil) rfl (fun j h1 h2 => by (simp at h1 h2; omega))) ?_
      refine d_end (by kernel_rfl) ?_
      refine t_endblock ?_
      refine t_seq ?_
      refine gt_putH 11 7 (((0 : Int)).toNat) 1 ((z38.1, (z38.2).set ((0 : Int)).toNat ((x151)))) rfl rfl rfl (List.getElem?_eq_some_iff.1 hz39).1 rfl (fun j hj => by (have : j = 0 ∨ j = 1 := by omega); rcases this with rfl | rfl <;> rfl) ?_
      refine t_region ?_
      refine r_op (oC 5) ?_
      refine r_op (oS 5) ?_
      refine r_end ?_
      refine t_ret Tryz.func108 (.cells (n := 5) (by kernel_rfl) (by kernel_rfl) rfl rfl rfl .nil) rfl fun E S w u hI hd => ?_
      refine post_mkG (⟨((b1)).set (((0 : Int)).toNat) ((z38.1, (z38.2).set ((0 : Int)).toNat ((x151)))), (hs2), (e3), (lv4), (rv5), (i2152), (h2153)⟩) ?_ hI hd ?_ ⟨rfl, ⟨rfl, ⟨rfl, trivial⟩⟩⟩ rfl rfl <;> clear hI hd
      · (try dsimp only) <;> ((refine ⟨⟨by (simp only [List.length_set]; omega), k2, mem_set k3 (by have e8 := k3 _ (List.mem_of_getElem? hz39); exact ⟨e8.1, by (simp only [List.length_set]; exact e8.2.1), mem_set e8.2.2 (by have e9 := pick3 (by assumption); omega)⟩), k4, k5, k6⟩, by omega⟩; done))
      · rfl
    ·
     rintro ⟨⟨x142, i2143, h2144⟩, hq145⟩
     try dsimp only at hq145
     try dsimp only
     obtain ⟨q146, q147⟩ := hq145
     refine dT 1 rfl pL ?_
     obtain ⟨z190, hz191, b192⟩ := at_get (xs := holeL ((b1)) (((0 : Int)).toNat) z38 1 v42) (n := 0) (by omega) (by (rw [holeL_len]; omega))
     refine dT 2 rfl (p_indexo (by kernel_rfl) rfl rfl rfl b192 (at_lt b192 hz191)) ?_
     refine dT 3 rfl (p_fieldo (off := 1) (by kernel_rfl) rfl) ?_
     refine dT 4 rfl (p_loadH (k := 11) (by kernel_rfl) rfl rfl rfl (by omega) rfl) ?_
     obtain ⟨z193, hz194, b195⟩ := at_get (xs := z38.2) (n := 0) (by omega) (by (have e7 := k7 _ (by assumption); omega))
     refine dT 8 rfl (p_indexo (by kernel_rfl) rfl rfl rfl b195 (at_lt b195 hz194)) ?_
     refine dO 9 rfl (o_storeo ((x142)) (n := 1) (by kernel_rfl) rfl rfl hz194 rfl rfl rfl rfl (.cons .sc .nil) rfl (fun j h1 h2 => by (simp at h1 h2; omega))) ?_
     refine d_end (by kernel_rfl) ?_
     refine t_endblock ?_
     refine t_seq ?_
     refine gt_putH 11 7 (((0 : Int)).toNat) 1 ((z38.1, (z38.2).set ((0 : Int)).toNat ((x142)))) rfl rfl rfl (List.getElem?_eq_some_iff.1 hz39).1 rfl (fun j hj => by (have : j = 0 ∨ j = 1 := by omega); rcases this with rfl | rfl <;> rfl) ?_
     refine t_region ?_
     refine r_op (oC 5) ?_
     refine r_op (oS 5) ?_
     refine r_end ?_
     refine t_ret Tryz.func108 (.cells (n := 5) (by kernel_rfl) (by kernel_rfl) rfl rfl rfl .nil) rfl fun E S w u hI hd => ?_
     refine post_mkG (⟨((b1)).set (((0 : Int)).toNat) ((z38.1, (z38.2).set ((0 : Int)).toNat ((x142)))), (hs2), (e3), (lv4), (rv5), (i2143), (h2144)⟩) ?_ hI hd ?_ ⟨rfl, ⟨rfl, ⟨rfl, trivial⟩⟩⟩ rfl rfl <;> clear hI hd
     · (try dsimp only) <;> ((refine ⟨⟨by (simp only [List.length_set]; omega), k2, mem_set k3 (by have e8 := k3 _ (List.mem_of_getElem? hz39); exact ⟨e8.1, by (simp only [List.length_set]; exact e8.2.1), mem_set e8.2.2 (by have e9 := pick3 (by assumption); omega)⟩), k4, k5, k6⟩, by omega⟩; done))
     · rfl
  ·
   have h37' := of_decide_eq_false h37
   refine tsr ?_
   refine r_op oB ?_
   refine r_op oA ?_
   refine r_end ?_
   refine t_cond rfl (fun h196 => ?_) (fun h196 => ?_)
   ·
    have h196' := of_decide_eq_true h196
    refine t_region ?_
    refine r_op oM ?_
    refine r_opX (o_callGM 0 11 12 (pv := some (v0)) (Go.Proofs.enters_of Tryz.func81 (by kernel_rfl) rfl) (c_spec_l1Below (((code))) ((i213)) ((h214)) (4) (by omega) (by omega) (by omega) (by omega) (by omega)) rfl rfl (.cur rfl (.cons rfl .nil)) rfl (fun ⟨_, _, _⟩ => rfl) (fun _ => rfl) (fun ⟨_, _, _⟩ => rfl) rfl rfl) ?_
    rintro ⟨⟨x197, i2198, h2199⟩, hq200⟩
    try dsimp only at hq200
    try dsimp only
    obtain ⟨q201, q202⟩ := hq200
    refine r_op (oF 3) ?_
    refine r_op (oS 1) ?_
    refine r_end ?_
    refine t_endblock ?_
    refine tsr ?_
    refine r_op (oC 5) ?_
    refine r_op (oS 5) ?_
    refine r_end ?_
    refine t_ret Tryz.func108 (.cells (n := 5) (by kernel_rfl) (by kernel_rfl) rfl rfl rfl .nil) rfl fun E S w u hI hd => ?_
    refine post_mkG (⟨(b1), (hs2), (e3), (x197), (rv5), (i2198), (h2199)⟩) ?_ hI hd ?_ ⟨rfl, ⟨rfl, ⟨rfl, trivial⟩⟩⟩ rfl rfl <;> clear hI hd
    · (try dsimp only) <;> ((exact ⟨⟨k1, k2, k3, k4, by (try dsimp only); omega, k6⟩, by omega⟩))
    · rfl
   ·
    have h196' := of_decide_eq_false h196
    refine tsr ?_
    refine r_op oB ?_
    refine r_op oA ?_
    refine r_end ?_
    refine t_cond rfl (fun h203 => ?_) (fun h203 => ?_)
    ·
     have h203' := of_decide_eq_true h203
     refine t_region ?_
     refine r_op (oF 2) ?_
     refine r_op oL ?_
     refine r_op (o_not rfl rfl) ?_
     refine r_op (oF 2) ?_
     refine r_op (oS 1) ?_
     refine r_end ?_
     refine t_endblock ?_
     refine tsr ?_
     refine r_op (oC 5) ?_
     refine r_op (oS 5) ?_
     refine r_end ?_
     refine t_ret Tryz.func108 (.cells (n := 5) (by kernel_rfl) (by kernel_rfl) rfl rfl rfl .nil) rfl fun E S w u hI hd => ?_
     refine post_mkG (⟨(b1), (hs2), !((e3)), (lv4), (rv5), (i213), (h214)⟩) ?_ hI hd ?_ ⟨rfl, ⟨rfl, ⟨rfl, trivial⟩⟩⟩ rfl rfl <;> clear hI hd
     · (try dsimp only) <;> ((exact ⟨by assumption, by omega⟩))
     · rfl
    ·
     have h203' := of_decide_eq_false h203
     refine tsr ?_
     refine r_op oB ?_
     refine r_op oA ?_
     refine r_end ?_
     refine t_cond rfl (fun h204 => ?_) (fun h204 => ?_)
     ·
      have h204' := of_decide_eq_true h204
      refine t_draw (fun i => !(Nat.beq i 4 || Nat.beq i 5 || Nat.beq i 7 || Nat.beq i 9)) (by kernel_rfl) ?_
      refine d_takeP 0 rfl rfl (by kernel_rfl) (by kernel_rfl) (by kernel_rfl) (pw_fieldb (off := 1) (by kernel_rfl) rfl) ?_
      refine d_takeP 2 rfl rfl (by kernel_rfl) (by kernel_rfl) (by kernel_rfl) (pw_move rfl) ?_
      refine dT 3 rfl pM ?_
      refine d_twoX 1 4 rfl rfl (by kernel_rfl) rfl rfl (osX oL) (o_callGM 0 11 12 (pv := some (v0)) (Go.Proofs.enters_of Tryz.func81 (by kernel_rfl) rfl) (c_spec_l1Below (((code))) ((i213)) ((h214)) (5) (by omega) (by omega) (by omega) (by omega) (by omega)) rfl rfl (.cur rfl (.cons rfl .nil)) rfl (fun ⟨_, _, _⟩ => rfl) (fun _ => rfl) (fun ⟨_, _, _⟩ => rfl) rfl rfl) ?_ ?_
      ·
       rintro ⟨⟩
       refine dOX 4 rfl (o_callGM 0 11 12 (pv := some (v0)) (Go.Proofs.enters_of Tryz.func81 (by kernel_rfl) rfl) (c_spec_l1Below (((code))) ((i213)) ((h214)) (5) (by omega) (by omega) (by omega) (by omega) (by omega)) rfl rfl (.cur rfl (.cons rfl .nil)) rfl (fun ⟨_, _, _⟩ => rfl) (fun _ => rfl) (fun ⟨_, _, _⟩ => rfl) rfl rfl) ?_
       rintro ⟨⟨x211, i2212, h2213⟩, hq214⟩
       try dsimp only at hq214
       try dsimp only
       obtain ⟨q215, q216⟩ := hq214
       refine dOX 5 rfl (o_callGM 0 12 17 (pv := some (v0)) (Go.Proofs.enters_of Tryz.func160 (by kernel_rfl) rfl) (c_spec_l9Atom ((((code)))) ((i2212)) ((h2213)) ((x211)) (3) (by omega) (by omega) (by omega) (by omega) (by omega)) rfl rfl (.cur rfl (.cons rfl (.cons rfl .nil))) rfl (fun ⟨_, _, _⟩ => rfl) (fun _ => rfl) (fun ⟨_, _, _⟩ => rfl) rfl rfl) ?_
       rintro ⟨⟨ts217, i2218, h2219⟩, hq220⟩
       try dsimp only at hq220
       try dsimp only
       obtain ⟨q221, q222, q223⟩ := hq220
       have hy9 : ∀ x ∈ ts217, -3 ≤ x ∧ x ≤ 4 := (by assumption)
       refine dO 6 rfl (o_litS 17 (e := 40) (sz := 2) (zs := [.int .i64 (0), .slice none 0 0]) rfl rfl (by kernel_rfl) rfl rfl rfl rfl rfl) ?_
       refine dO 7 rfl (o_append 8 (e := 40) (sz := 2) (by' := 32) ((((x211)), (ts217))) rfl (by kernel_rfl) rfl rfl rfl rfl rfl rfl (.cons .sc (.take (.own rfl) rfl .nil)) rfl (by omega) (by omega)) ?_
       refine dT 8 rfl (pF 1) ?_
       refine dO 9 rfl (oS 1) ?_
       refine d_end (by kernel_rfl) ?_
       refine t_endblock ?_
       refine tsr ?_
       refine r_op (oC 5) ?_
       refine r_op (oS 5) ?_
       refine r_end ?_
       refine t_ret Tryz.func108 (.cells (n := 5) (by kernel_rfl) (by kernel_rfl) rfl rfl rfl .nil) rfl fun E S w u hI hd => ?_
       refine post_mkG (⟨(b1), (hs2) ++ [(((x211)), (ts217))], (e3), (lv4), (rv5), (i2218), (h2219)⟩) ?_ hI hd ?_ ⟨rfl, ⟨rfl, ⟨rfl, trivial⟩⟩⟩ rfl rfl <;> clear hI hd
       · (try dsimp only) <;> ((exact ⟨⟨k1, by (simp only [List.length_append, List.length_singleton]; omega), k3, mem_snoc k4 ⟨by (try dsimp only); omega, by (try dsimp only); omega, fun x hx => by have e9 := hy9 x hx; omega⟩, k5, k6⟩, by omega⟩))
       · rfl
      ·
       rintro ⟨⟨x205, i2206, h2207⟩, hq208⟩
       try dsimp only at hq208
       try dsimp only
       obtain ⟨q209, q210⟩ := hq208
       refine d_twoX 1 5 rfl rfl (by kernel_rfl) rfl rfl (osX oL) (o_callGM 0 12 17 (pv := some (v0)) (Go.Proofs.enters_of Tryz.func160 (by kernel_rfl) rfl) (c_spec_l9Atom ((((code)))) ((i2206)) ((h2207)) ((x205)) (3) (by omega) (by omega) (by omega) (by omega) (by omega)) rfl rfl (.cur rfl (.cons rfl (.cons rfl .nil))) rfl (fun ⟨_, _, _⟩ => rfl) (fun _ => rfl) (fun ⟨_, _, _⟩ => rfl) rfl rfl) ?_ ?_
       ·
        rintro ⟨⟩
        refine dOX 5 rfl (o_callGM 0 12 17 (pv := some (v0)) (Go.Proofs.enters_of Tryz.func160 (by kernel_rfl) rfl) (c_spec_l9Atom ((((code)))) ((i2206)) ((h2207)) ((x205)) (3) (by omega) (by omega) (by omega) (by omega) (by omega)) rfl rfl (.cur rfl (.cons rfl (.cons rfl .nil))) rfl (fun ⟨_, _, _⟩ => rfl) (fun _ => rfl) (fun ⟨_, _, _⟩ => rfl) rfl rfl) ?_
        rintro ⟨⟨ts231, i2232, h2233⟩, hq234⟩
        try dsimp only at hq234
        try dsimp only
        obtain ⟨q235, q236, q237⟩ := hq234
        have hy9 : ∀ x ∈ ts231, -3 ≤ x ∧ x ≤ 4 := (by assumption)
        refine dO 6 rfl (o_litS 17 (e := 40) (sz := 2) (zs := [.int .i64 (0), .slice none 0 0]) rfl rfl (by kernel_rfl) rfl rfl rfl rfl rfl) ?_
        refine dO 7 rfl (o_append 8 (e := 40) (sz := 2) (by' := 32) ((((x205)), (ts231))) rfl (by kernel_rfl) rfl rfl rfl rfl rfl rfl (.cons .sc (.take (.own rfl) rfl .nil)) rfl (by omega) (by omega)) ?_
        refine dT 8 rfl (pF 1) ?_
        refine dO 9 rfl (oS 1) ?_
        refine d_end (by kernel_rfl) ?_
        refine t_endblock ?_
        refine tsr ?_
        refine r_op (oC 5) ?_
        refine r_op (oS 5) ?_
        refine r_end ?_
        refine t_ret Tryz.func108 (.cells (n := 5) (by kernel_rfl) (by kernel_rfl) rfl rfl rfl .nil) rfl fun E S w u hI hd => ?_
        refine post_mkG (⟨(b1), (hs2) ++ [(((x205)), (ts231))], (e3), (lv4), (rv5), (i2232), (h2233)⟩) ?_ hI hd ?_ ⟨rfl, ⟨rfl, ⟨rfl, trivial⟩⟩⟩ rfl rfl <;> clear hI hd
        · (try dsimp only) <;> ((exact ⟨⟨k1, by (simp only [List.length_append, List.length_singleton]; omega), k3, mem_snoc k4 ⟨by (try dsimp only); omega, by (try dsimp only); omega, fun x hx => by have e9 := hy9 x hx; omega⟩, k5, k6⟩, by omega⟩))
        · rfl
       ·
        rintro ⟨⟨ts224, i2225, h2226⟩, hq227⟩
        try dsimp only at hq227
        try dsimp only
        obtain ⟨q228, q229, q230⟩ := hq227
        have hy9 : ∀ x ∈ ts224, -3 ≤ x ∧ x ≤ 4 := (by assumption)
        refine dT 1 rfl pL ?_
        refine dO 6 rfl (o_litS 17 (e := 40) (sz := 2) (zs := [.int .i64 (0), .slice none 0 0]) rfl rfl (by kernel_rfl) rfl rfl rfl rfl rfl) ?_
        refine dO 7 rfl (o_append 8 (e := 40) (sz := 2) (by' := 32) ((((x205)), (ts224))) rfl (by kernel_rfl) rfl rfl rfl rfl rfl rfl (.cons .sc (.take (.own rfl) rfl .nil)) rfl (by omega) (by omega)) ?_
        refine dT 8 rfl (pF 1) ?_
        refine dO 9 rfl (oS 1) ?_
        refine d_end (by kernel_rfl) ?_
        refine t_endblock ?_
        refine tsr ?_
        refine r_op (oC 5) ?_
        refine r_op (oS 5) ?_
        refine r_end ?_
        refine t_ret Tryz.func108 (.cells (n := 5) (by kernel_rfl) (by kernel_rfl) rfl rfl rfl .nil) rfl fun E S w u hI hd => ?_
        refine post_mkG (⟨(b1), (hs2) ++ [(((x205)), (ts224))], (e3), (lv4), (rv5), (i2225), (h2226)⟩) ?_ hI hd ?_ ⟨rfl, ⟨rfl, ⟨rfl, trivial⟩⟩⟩ rfl rfl <;> clear hI hd
        · (try dsimp only) <;> ((exact ⟨⟨k1, by (simp only [List.length_append, List.length_singleton]; omega), k3, mem_snoc k4 ⟨by (try dsimp only); omega, by (try dsimp only); omega, fun x hx => by have e9 := hy9 x hx; omega⟩, k5, k6⟩, by omega⟩))
        · rfl
     ·
      have h204' := of_decide_eq_false h204
      refine t_skip ?_
      refine t_endblock ?_
      refine tsr ?_
      refine r_op (oC 5) ?_
      refine r_op (oS 5) ?_
      refine r_end ?_
      refine t_ret Tryz.func108 (.cells (n := 5) (by kernel_rfl) (by kernel_rfl) rfl rfl rfl .nil) rfl fun E S w u hI hd => ?_
      refine post_mkG (⟨(b1), (hs2), (e3), (lv4), (rv5), (i213), (h214)⟩) ?_ hI hd ?_ ⟨rfl, ⟨rfl, ⟨rfl, trivial⟩⟩⟩ rfl rfl <;> clear hI hd
      · (try dsimp only) <;> ((exact ⟨by assumption, by omega⟩))
      · rfl
set_option maxHeartbeats 1000000 in
set_option maxRecDepth 10000 in
theorem c_spec_l12Draw (code : List Int) (hc : code.length ≤ 1048576) : PuG Tryz.prog 72 [.c (.t none (.sl 1 encU (code)))] (fun (⟨rs, fs, ds, i2, h2⟩ : Rels × Atoms × (List Dep) × Int × Int) => instL rs fs ∧ ds.length ≤ 6 ∧ (∀ d ∈ ds, depL d) ∧ 0 ≤ i2 ∧ i2 ≤ code.length) (fun (⟨rs, fs, ds, i2, h2⟩ : Rels × Atoms × (List Dep) × Int × Int) => [(1, some (.box [.t none (.sl 1 encU (code)), .t none (.v (.int .i64 (i2))), .t none (.v (.int .i64 (h2)))]))]) 2 (fun (⟨rs, fs, ds, i2, h2⟩ : Rels × Atoms × (List Dep) × Int × Int) => .tup [(false, [.ptr 1 0]), (true, [.t none (.sl 3 (enS3 encS encI encB) (rs)), .t none (.sl 2 (enS2 encI (enSl 1 encI)) (fs))]), (false, [.t none (.sl 5 (enS5 (enSl 2 (enS2 encI (enSl 1 encI))) (enSl 2 (enS2 encI (enSl 1 encI))) encB encI encI) (ds))])]) := by
 refine pu_enterG Tryz.func72 rfl (Nat.le_of_ble_eq_true rfl) fun w S => ?_
 refine tsr ?_
 refine r_op oA ?_
 refine r_op (o_alloc 0 (zs := [.slice none 0 0, .slice none 0 0]) rfl rfl (by kernel_rfl) rfl) ?_
 refine r_op oA ?_
 refine etr ?_
 refine r_op oM ?_
 refine r_opX (o_callG 1 2 (Go.Proofs.enters_of Tryz.func104 (by kernel_rfl) rfl) (c_spec_l1New (code) (by omega)) rfl (.cons rfl (.c .t0) .nil) rfl rfl) ?_
 rintro ⟨h1, hq2⟩
 try dsimp only at hq2
 try dsimp only
 refine r_op oA ?_
 refine etr ?_
 refine r_op oM ?_
 refine r_opX (o_callGM 1 2 3 (pv := none) (Go.Proofs.enters_of Tryz.func105 (by kernel_rfl) rfl) (c_spec_l11Inst ((code)) (0) ((h1)) (by omega) (by omega) (by omega)) rfl rfl (.cur rfl .nil) rfl (fun ⟨_, _, _, _⟩ => rfl) (fun _ => rfl) (fun ⟨_, _, _, _⟩ => rfl) rfl rfl) ?_
 rintro ⟨⟨rs4, fs5, i26, h27⟩, hq8⟩
 try dsimp only at hq8
 try dsimp only
 obtain ⟨q9, q10⟩ := hq8
 refine r_op (o_alloc 3 (zs := [.slice none 0 0, .slice none 0 0]) rfl rfl (by kernel_rfl) rfl) ?_
 refine r_op (oS 2) ?_
 refine etr ?_
 refine r_op oM ?_
 refine r_opX (o_callGM 1 4 6 (pv := none) (Go.Proofs.enters_of Tryz.func128 (by kernel_rfl) rfl) (c_spec_l9Rules (((code))) ((i26)) ((h27)) (by omega) (by omega) (by omega)) rfl rfl (.cur rfl .nil) rfl (fun ⟨_, _, _⟩ => rfl) (fun _ => rfl) (fun ⟨_, _, _⟩ => rfl) rfl rfl) ?_
 rintro ⟨⟨ds11, i212, h213⟩, hq14⟩
 try dsimp only at hq14
 try dsimp only
 obtain ⟨q15, q16, q17⟩ := hq14
 refine r_op oA ?_
 refine r_end ?_
 refine t_seq ?_
 refine tsr ?_
 refine r_op oM ?_
 refine r_opX (o_callGM 1 6 7 (pv := none) (Go.Proofs.enters_of Tryz.func81 (by kernel_rfl) rfl) (c_spec_l1Below ((((code)))) ((i212)) ((h213)) (20) (by omega) (by omega) (by omega) (by omega) (by omega)) rfl rfl (.cur rfl (.cons rfl .nil)) rfl (fun ⟨_, _, _⟩ => rfl) (fun _ => rfl) (fun ⟨_, _, _⟩ => rfl) rfl rfl) ?_
 rintro ⟨⟨x18, i219, h220⟩, hq21⟩
 try dsimp only at hq21
 try dsimp only
 obtain ⟨q22, q23⟩ := hq21
 refine r_end ?_
 refine t_block ?_
 refine tsr ?_
 refine r_op oB ?_
 refine r_op oA ?_
 refine r_end ?_
 refine t_cond rfl (fun h24 => ?_) (fun h24 => ?_)
 ·
  have h24' := of_decide_eq_true h24
  refine t_region ?_
  refine r_op oM ?_
  refine r_opX (o_callGM 1 7 8 (pv := none) (Go.Proofs.enters_of Tryz.func107 (by kernel_rfl) rfl) (c_spec_l5Any (((((code))))) ((i219)) ((h220)) (by omega) (by omega) (by omega)) rfl rfl (.cur rfl .nil) rfl (fun ⟨_, _, _, _⟩ => rfl) (fun _ => rfl) (fun ⟨_, _, _, _⟩ => rfl) rfl rfl) ?_
  rintro ⟨⟨rs25, fs26, i227, h228⟩, hq29⟩
  try dsimp only at hq29
  try dsimp only
  obtain ⟨q30, q31⟩ := hq29
  refine r_op (oS 2) ?_
  refine r_end ?_
  refine t_endblock ?_
  refine t_seq ?_
  refine t_draw (fun i => !(Nat.beq i 4)) (by kernel_rfl) ?_
  refine dT 0 rfl pM ?_
  refine dT 1 rfl (pC 2) ?_
  refine d_takeP 2 rfl rfl (by kernel_rfl) (by kernel_rfl) (by kernel_rfl) (pw_move rfl) ?_
  refine dT 3 rfl pA ?_
  refine dO 4 rfl (oS 2) ?_
  refine dT 5 rfl pA ?_
  refine d_end (by kernel_rfl) ?_
  refine gt_freeze 5 rfl (frz_pu rfl) ?_
  refine t_ret Tryz.func72 (.tmp rfl (.cells (n := 2) (by kernel_rfl) (by kernel_rfl) rfl rfl rfl (.tmp rfl .nil))) rfl fun E S w u hI hd => ?_
  refine post_mkG (⟨(rs25), (fs26), (ds11), (i227), (h228)⟩) ?_ hI hd ?_ ⟨rfl, trivial⟩ rfl rfl <;> clear hI hd
  · (try dsimp only) <;> (refine ⟨by assumption, ?_, ?_, by omega⟩ <;> (omega))
  · rfl
 ·
  have h24' := of_decide_eq_false h24
  refine tsr ?_
  refine r_op oB ?_
  refine r_op oA ?_
  refine r_end ?_
  refine t_cond rfl (fun h32 => ?_) (fun h32 => ?_)
  ·
   have h32' := of_decide_eq_true h32
   refine t_region ?_
   refine r_op oM ?_
   refine r_op oM ?_
   refine r_opX (o_callGM 1 7 16 (pv := none) (Go.Proofs.enters_of Tryz.func108 (by kernel_rfl) rfl) (c_spec_l9Any (((((code))))) ((i219)) ((h220)) (by omega) (by omega) (by omega)) rfl rfl (.cur rfl .nil) rfl (fun ⟨_, _, _, _, _, _, _⟩ => rfl) (fun _ => rfl) (fun ⟨_, _, _, _, _, _, _⟩ => rfl) rfl rfl) ?_
   rintro ⟨⟨b33, hs34, e35, lv36, rv37, i238, h239⟩, hq40⟩
   try dsimp only at hq40
   try dsimp only
   obtain ⟨q41, q42⟩ := hq40
   refine r_op (o_litS 16 (e := 50) (sz := 5) (zs := [.slice none 0 0, .slice none 0 0, .bool (false), .int .i64 (0), .int .i64 (0)]) rfl rfl (by kernel_rfl) rfl rfl rfl rfl rfl) ?_
   refine r_op (o_append 5 (e := 50) (sz := 5) (by' := 72) (((b33), (hs34), (e35), (lv36), (rv37))) rfl (by kernel_rfl) rfl rfl rfl rfl rfl rfl (.take (.own rfl) rfl (.take (.own rfl) rfl (.cons .sc (.cons .sc (.cons .sc .nil))))) rfl (by omega) (by omega)) ?_
   refine r_op oA ?_
   refine r_end ?_
   refine t_endblock ?_
   refine t_seq ?_
   refine t_draw (fun i => !(Nat.beq i 4)) (by kernel_rfl) ?_
   refine dT 0 rfl pM ?_
   refine dT 1 rfl (pC 2) ?_
   refine d_takeP 2 rfl rfl (by kernel_rfl) (by kernel_rfl) (by kernel_rfl) (pw_move rfl) ?_
   refine dT 3 rfl pA ?_
   refine dO 4 rfl (oS 2) ?_
   refine dT 5 rfl pA ?_
   refine d_end (by kernel_rfl) ?_
   refine gt_freeze 5 rfl (frz_pu rfl) ?_
   refine t_ret Tryz.func72 (.tmp rfl (.cells (n := 2) (by kernel_rfl) (by kernel_rfl) rfl rfl rfl (.tmp rfl .nil))) rfl fun E S w u hI hd => ?_
   refine post_mkG (⟨(rs4), (fs5), (ds11) ++ [((b33), (hs34), (e35), (lv36), (rv37))], (i238), (h239)⟩) ?_ hI hd ?_ ⟨rfl, trivial⟩ rfl rfl <;> clear hI hd
   · (try dsimp only) <;> (refine ⟨by assumption, ?_, ?_, by omega⟩ <;> first | (simp only [List.length_append, List.length_cons, List.length_nil]; omega) | exact mem_snoc (by assumption) (by assumption))
   · rfl
  ·
   have h32' := of_decide_eq_false h32
   refine t_skip ?_
   refine t_endblock ?_
   refine t_seq ?_
   refine t_draw (fun i => !(Nat.beq i 4)) (by kernel_rfl) ?_
   refine dT 0 rfl pM ?_
   refine dT 1 rfl (pC 2) ?_
   refine d_takeP 2 rfl rfl (by kernel_rfl) (by kernel_rfl) (by kernel_rfl) (pw_move rfl) ?_
   refine dT 3 rfl pA ?_
   refine dO 4 rfl (oS 2) ?_
   refine dT 5 rfl pA ?_
   refine d_end (by kernel_rfl) ?_
   refine gt_freeze 5 rfl (frz_pu rfl) ?_
   refine t_ret Tryz.func72 (.tmp rfl (.cells (n := 2) (by kernel_rfl) (by kernel_rfl) rfl rfl rfl (.tmp rfl .nil))) rfl fun E S w u hI hd => ?_
   refine post_mkG (⟨(rs4), (fs5), (ds11), (i219), (h220)⟩) ?_ hI hd ?_ ⟨rfl, trivial⟩ rfl rfl <;> clear hI hd
   · (try dsimp only) <;> (refine ⟨by assumption, ?_, ?_, by omega⟩ <;> (omega))
   · rfl
set_option maxHeartbeats 1000000 in
set_option maxRecDepth 10000 in
theorem c_spec_DrawFirstViolation (code : List Int) (hc : code.length ≤ 1048576) : PuG Tryz.prog 28 [.c (.t none (.sl 1 encU (code)))] (fun (⟨rs, fs, ds⟩ : Rels × Atoms × (List Dep)) => instL rs fs ∧ ds.length ≤ 6 ∧ (∀ d ∈ ds, depL d)) (fun (⟨rs, fs, ds⟩ : Rels × Atoms × (List Dep)) => []) 0 (fun (⟨rs, fs, ds⟩ : Rels × Atoms × (List Dep)) => .tup [(true, [.t none (.sl 3 (enS3 encS encI encB) (rs)), .t none (.sl 2 (enS2 encI (enSl 1 encI)) (fs))]), (false, [.t none (.sl 5 (enS5 (enSl 2 (enS2 encI (enSl 1 encI))) (enSl 2 (enS2 encI (enSl 1 encI))) encB encI encI) (ds))])]) := by
 refine pu_enterG Tryz.func28 rfl (Nat.le_of_ble_eq_true rfl) fun w S => ?_
 refine tsr ?_
 refine r_op (o_alloc 0 (zs := [.slice none 0 0, .slice none 0 0]) rfl rfl (by kernel_rfl) rfl) ?_
 refine r_op oA ?_
 refine etr ?_
 refine r_op oM ?_
 refine r_opX (o_callG 1 3 (Go.Proofs.enters_of Tryz.func72 (by kernel_rfl) rfl) (c_spec_l12Draw (code) (by omega)) rfl (.cons rfl (.c .t0) .nil) rfl rfl) ?_
 rintro ⟨⟨rs1, fs2, ds3, i24, h25⟩, hq6⟩
 try dsimp only at hq6
 try dsimp only
 obtain ⟨q7, q8, q9, q10⟩ := hq6
 refine r_op oM ?_
 refine r_op (o_extract rfl rfl rfl rfl) ?_
 refine r_op (o_extract rfl rfl rfl rfl) ?_
 refine r_op (o_extract rfl rfl rfl rfl) ?_
 refine r_op (o_alloc 3 (zs := [.slice none 0 0, .slice none 0 0]) rfl rfl (by kernel_rfl) rfl) ?_
 refine r_op oA ?_
 refine r_op (oS 2) ?_
 refine r_op oA ?_
 refine etr ?_
 refine r_op (oC 2) ?_
 refine r_op oM ?_
 refine r_op (oS 2) ?_
 refine r_op oA ?_
 refine r_end ?_
 refine t_ret Tryz.func28 (.cells (n := 2) (by kernel_rfl) (by kernel_rfl) rfl rfl rfl (.tmp rfl .nil)) rfl fun E S w u hI hd => ?_
 refine post_mkG (⟨(rs1), (fs2), (ds3)⟩) ?_ hI hd ?_ trivial rfl rfl <;> clear hI hd
 · (try dsimp only) <;> (exact ⟨by assumption, by assumption, by assumption⟩)
 · rfl
set_option maxHeartbeats 1000000 in
set_option maxRecDepth 10000 in
theorem c_impl_within (a0 a1 a2 : Int) : Pu Tryz.prog 117 [.c (.t none (.v (.int .i64 (a0)))), .c (.t none (.v (.int .i64 (a1)))), .c (.t none (.v (.int .i64 (a2))))] [] 0 (.c (.t none (.v (.bool (decide (a1 ≤ a0 ∧ a0 ≤ a2)))))) := by
 refine pu_enter Tryz.func117 rfl (Nat.le_of_ble_eq_true rfl) fun w S => ?_
 refine tsr ?_
 refine r_op oA ?_
 refine etr ?_
 refine r_op oM ?_
 refine r_op oM ?_
 refine r_op oB ?_
 refine r_op oM ?_
 refine r_guard rfl rfl rfl (fun g1 => ?_) (fun g1 => ?_)
 ·
  have g1' := of_decide_eq_true g1
  refine r_op oM ?_
  refine r_guard rfl rfl rfl (fun _ => ?_) (nc g1)
  refine r_op oM ?_
  refine r_guard rfl rfl rfl (fun _ => ?_) (nc g1)
  refine r_op oB ?_
  refine r_op (o_pickT rfl rfl g1 rfl) ?_
  refine r_op oA ?_
  refine r_end ?_
  refine t_ret Tryz.func117 (.tmp rfl .nil) rfl fun E S w u hI hd => ?_
  refine post_mk hI hd ?_ trivial rfl rfl rfl <;> clear hI hd
  all_goals (simp_all <;> omega)
 ·
  have g1' := of_decide_eq_false g1
  refine r_guard rfl rfl rfl (ncf g1) (fun _ => ?_)
  refine r_guard rfl rfl rfl (ncf g1) (fun _ => ?_)
  refine r_op (o_pickF rfl rfl g1 rfl) ?_
  refine r_op oA ?_
  refine r_end ?_
  refine t_ret Tryz.func117 (.tmp rfl .nil) rfl fun E S w u hI hd => ?_
  refine post_mk hI hd ?_ trivial rfl rfl rfl <;> clear hI hd
  all_goals (simp_all <;> omega)
set_option maxHeartbeats 1000000 in
set_option maxRecDepth 10000 in
theorem c_impl_IsValidRelation (n : List UInt8) (a : Int) (s : Bool) : Pu Tryz.prog 151 [.agg [.t none (.v (.string (mkS (n)))), .t none (.v (.int .i64 (a))), .t none (.v (.bool (s)))]] [] 0 (.c (.t none (.v (.bool (relOk (n, a, s)))))) := by
 refine pu_enter Tryz.func151 rfl (Nat.le_of_ble_eq_true rfl) fun w S => ?_
 refine tsr ?_
 refine r_op (o_box 0 rfl rfl rfl rfl) ?_
 refine r_op oA ?_
 refine etr ?_
 refine r_op (oF 0) ?_
 refine r_op oL ?_
 refine r_op (o_lenS rfl Tryz.underlying9 rfl) ?_
 refine r_op oB ?_
 refine r_op oM ?_
 refine r_guard rfl rfl rfl (fun g1 => ?_) (fun g1 => ?_)
 ·
  have g1' := of_decide_eq_true g1
  refine r_op (oF 0) ?_
  refine r_guard rfl rfl rfl (fun _ => ?_) (nc g1)
  refine r_op oL ?_
  refine r_guard rfl rfl rfl (fun _ => ?_) (nc g1)
  refine r_op (o_str rfl rfl rfl rfl) ?_
  refine r_op (o_pickT rfl rfl g1 rfl) ?_
  refine r_op oM ?_
  refine r_guard rfl rfl rfl (fun g2 => ?_) (fun g2 => ?_)
  ·
   have g2' := (bnt g2)
   refine r_op (oF 0) ?_
   refine r_guard rfl rfl rfl (fun _ => ?_) (nc g2)
   refine r_op oL ?_
   refine r_guard rfl rfl rfl (fun _ => ?_) (nc g2)
   refine r_op (o_str rfl rfl rfl rfl) ?_
   refine r_op (o_pickT rfl rfl g2 rfl) ?_
   refine r_op oM ?_
   refine r_guard rfl rfl rfl (fun g3 => ?_) (fun g3 => ?_)
   ·
    have g3' := (bnt g3)
    refine r_op (oF 1) ?_
    refine r_guard rfl rfl rfl (fun _ => ?_) (nc g3)
    refine r_op oL ?_
    refine r_guard rfl rfl rfl (fun _ => ?_) (nc g3)
    refine r_op (o_call 1 1 false (Go.Proofs.enters_of Tryz.func117 (by kernel_rfl) rfl) (c_impl_within (a) (1) (3)) rfl (.cons rfl (.c .t0) (.cons rfl (.c .t0) (.cons rfl (.c .t0) .nil))) rfl rfl rfl) ?_
    refine r_op (o_pickT rfl rfl g3 rfl) ?_
    refine r_op oA ?_
    refine r_end ?_
    refine t_ret Tryz.func151 (.tmp rfl .nil) rfl fun E S w u hI hd => ?_
    refine post_mk hI hd ?_ trivial rfl rfl rfl <;> clear hI hd
    all_goals (refine scB ?_; (obtain ⟨c, rfl⟩ := one_of (by assumption); simp only [less_lo, less_hi, Bool.not_eq_true', Bool.not_eq_false', decide_eq_true_eq, decide_eq_false_iff_not] at *; simp [relOk, nameOk]; omega))
   ·
    have g3' := (bnf g3)
    refine r_guard rfl rfl rfl (ncf g3) (fun _ => ?_)
    refine r_guard rfl rfl rfl (ncf g3) (fun _ => ?_)
    refine r_op (o_pickF rfl rfl g3 rfl) ?_
    refine r_op oA ?_
    refine r_end ?_
    refine t_ret Tryz.func151 (.tmp rfl .nil) rfl fun E S w u hI hd => ?_
    refine post_mk hI hd ?_ trivial rfl rfl rfl <;> clear hI hd
    all_goals (refine scB ?_; (obtain ⟨c, rfl⟩ := one_of (by assumption); simp only [less_lo, less_hi, Bool.not_eq_true', Bool.not_eq_false', decide_eq_true_eq, decide_eq_false_iff_not] at *; simp [relOk, nameOk]; omega))
  ·
   have g2' := (bnf g2)
   refine r_guard rfl rfl rfl (ncf g2) (fun _ => ?_)
   refine r_guard rfl rfl rfl (ncf g2) (fun _ => ?_)
   refine r_op (o_pickF rfl rfl g2 rfl) ?_
   refine r_op oM ?_
   refine r_guard rfl rfl rfl (ncf rfl) (fun _ => ?_)
   refine r_guard rfl rfl rfl (ncf rfl) (fun _ => ?_)
   refine r_guard rfl rfl rfl (ncf rfl) (fun _ => ?_)
   refine r_op (o_pickF rfl rfl rfl rfl) ?_
   refine r_op oA ?_
   refine r_end ?_
   refine t_ret Tryz.func151 (.tmp rfl .nil) rfl fun E S w u hI hd => ?_
   refine post_mk hI hd ?_ trivial rfl rfl rfl <;> clear hI hd
   all_goals (refine scB ?_; (obtain ⟨c, rfl⟩ := one_of (by assumption); simp only [less_lo, less_hi, Bool.not_eq_true', Bool.not_eq_false', decide_eq_true_eq, decide_eq_false_iff_not] at *; simp [relOk, nameOk]; omega))
 ·
  have g1' := of_decide_eq_false g1
  refine r_guard rfl rfl rfl (ncf g1) (fun _ => ?_)
  refine r_guard rfl rfl rfl (ncf g1) (fun _ => ?_)
  refine r_op (o_pickF rfl rfl g1 rfl) ?_
  refine r_op oM ?_
  refine r_guard rfl rfl rfl (ncf rfl) (fun _ => ?_)
  refine r_guard rfl rfl rfl (ncf rfl) (fun _ => ?_)
  refine r_guard rfl rfl rfl (ncf rfl) (fun _ => ?_)
  refine r_op (o_pickF rfl rfl rfl rfl) ?_
  refine r_op oM ?_
  refine r_guard rfl rfl rfl (ncf rfl) (fun _ => ?_)
  refine r_guard rfl rfl rfl (ncf rfl) (fun _ => ?_)
  refine r_guard rfl rfl rfl (ncf rfl) (fun _ => ?_)
  refine r_op (o_pickF rfl rfl rfl rfl) ?_
  refine r_op oA ?_
  refine r_end ?_
  refine t_ret Tryz.func151 (.tmp rfl .nil) rfl fun E S w u hI hd => ?_
  refine post_mk hI hd ?_ trivial rfl rfl rfl <;> clear hI hd
  all_goals (refine scB ?_; (have e := nameOk_not (by assumption); simp [relOk, e]; done))
set_option maxHeartbeats 1000000 in
set_option maxRecDepth 10000 in
theorem c_impl_AreValidRelations (l : List (List UInt8 × Int × Bool)) (hl : l.length ≤ 4611686018427387904) : Pu Tryz.prog 97 [.c (.t none (.sl 3 (enS3 encS encI encB) (l)))] [] 0 (.c (.t none (.v (.bool (relsOk l))))) := by
 refine pu_enter Tryz.func97 rfl (Nat.le_of_ble_eq_true rfl) fun w S => ?_
 refine tsr ?_
 refine r_op oA ?_
 refine r_end ?_
 refine t_seq ?_
 refine tsr ?_
 refine r_op oM ?_
 refine r_op (o_len rfl rfl rfl) ?_
 refine r_op oM ?_
 refine r_end ?_
 refine t_block ?_
 refine t_loopL (fun m => ⟨[(0, some (.c (.t none (.sl 3 (enS3 encS encI encB) (l))))), (5, some (.c (.t none (.sl 3 (enS3 encS encI encB) (l))))), (6, some (.c (.t none (.v (.int .i64 (((l).length : Int))))))), (7, some (.c (.t none (.v (.int .i64 ((m : Int)))))))], [], 0⟩ : Nat → St) (fun m => m ≤ l.length ∧ ∀ j, j < m → relStep l j = true) (fun m => l.length - m) 0 ⟨⟨rfl, ⟨rfl, ⟨rfl, ⟨rfl, trivial⟩⟩⟩⟩, trivial, rfl⟩ (by exact ⟨Nat.zero_le _, fun j h => by omega⟩) ?_
 rintro m hI ih0
 try dsimp only at hI ih0
 obtain ⟨i1, i2⟩ := hI
 refine tsr ?_
 refine r_op oB ?_
 refine r_end ?_
 refine t_seq ?_
 refine t_cond rfl (fun h1 => ?_) (fun h1 => ?_)
 ·
  have h1' := of_decide_eq_true h1
  refine t_skip ?_
  refine t_seq ?_
  refine t_block ?_
  refine tsr ?_
  refine r_op oM ?_
  obtain ⟨z2, hz3, b4⟩ := at_get (xs := l) (n := (m : Int)) (by omega) (by omega)
  refine r_op (o_index rfl (by kernel_rfl) rfl rfl b4 hz3) ?_
  refine r_op (o_loadA rfl (n := 3) (by kernel_rfl) (by kernel_rfl) rfl rfl) ?_
  refine r_op (o_alloc 0 (zs := [.string (mkS ([])), .int .i64 (0), .bool (false)]) rfl rfl (by kernel_rfl) rfl) ?_
  refine r_op oA ?_
  refine r_op (oS 3) ?_
  refine r_end ?_
  refine t_seq ?_
  refine t_draw (fun _ => true) (by kernel_rfl) ?_
  refine dT 0 rfl (pC 3) ?_
  refine dO 1 rfl (o_call 1 1 false (Go.Proofs.enters_of Tryz.func151 (by kernel_rfl) rfl) (c_impl_IsValidRelation (z2.1) (z2.2.1) (z2.2.2)) rfl (.cons rfl (.agg (.cons .t0 (.cons .t0 (.cons .t0 .nil)))) .nil) rfl rfl rfl) ?_
  refine dT 2 rfl (p_not rfl) ?_
  refine dT 3 rfl pM ?_
  refine dH 4 rfl (fun _ => pM) (fun g5 => ?_) (fun g5 => ?_)
  ·
   have g5' := (bnf g5)
   refine dH 5 rfl (fun _ => pB) (fun _ => ?_) (ncf g5)
   refine dH 6 rfl (fun _ => pM) (fun _ => ?_) (ncf g5)
   refine dH 7 rfl (fun _ => pF 0) (fun g6 => ?_) (fun g6 => ?_)
   ·
    have g6' := of_decide_eq_true g6
    refine dH 8 rfl (fun _ => pL) (fun _ => ?_) (nc g6)
    refine dH 9 rfl (fun _ => pM) (fun _ => ?_) (nc g6)
    refine dH 10 rfl (fun _ => pM) (fun _ => ?_) (nc g6)
    refine dH 11 rfl (fun _ => pB) (fun _ => ?_) (nc g6)
    obtain ⟨z7, hz8, b9⟩ := at_get (xs := l) (n := IntKind.i64.wrap ((m : Int) - 1)) (by (simp only [IntKind.wrap_i64]; omega)) (by (simp only [IntKind.wrap_i64]; omega))
    refine dH 12 rfl (fun _ => p_index (by kernel_rfl) rfl rfl b9 hz8) (fun _ => ?_) (nc g6)
    refine dH 13 rfl (fun _ => p_field (off := 0) (by kernel_rfl) rfl) (fun _ => ?_) (nc g6)
    refine dH 14 rfl (fun _ => p_load1 (by kernel_rfl) rfl rfl) (fun _ => ?_) (nc g6)
    refine dH 15 rfl (fun _ => p_str rfl rfl rfl) (fun _ => ?_) (nc g6)
    refine dH 16 rfl (fun _ => p_pickT rfl g6 rfl) (fun _ => ?_) (ncf g5)
    refine dT 17 rfl (p_pickF rfl g5 rfl) ?_
    refine d_end (by kernel_rfl) ?_
    refine t_cond rfl (fun h10 => ?_) (fun h10 => ?_)
    ·
     have h10' := (bnt h10)
     refine tsr ?_
     refine r_op oA ?_
     refine r_end ?_
     refine t_ret Tryz.func97 (.tmp rfl .nil) rfl fun E S w u hI hd => ?_
     refine post_mk hI hd ?_ trivial rfl rfl rfl <;> clear hI hd <;> (try clear ih0)
     all_goals (rw [relsOk_not (m := m) (by omega) (relStep_pos (n := (IntKind.i64.wrap ((m : Int) - 1)).toNat) (by assumption) (by assumption) (by omega) (by simp only [IntKind.wrap_i64]; omega) (by assumption) (by assumption))])
    ·
     have h10' := (bnf h10)
     refine t_skip ?_
     refine t_endblock ?_
     refine t_region ?_
     refine r_op oB ?_
     refine r_op oM ?_
     refine r_end ?_
     refine t_le ?_ (ih0 (m + 1) (by (try dsimp only); omega) (by (try dsimp only); exact ⟨by omega, step_all i2 (relStep_pos (n := (IntKind.i64.wrap ((m : Int) - 1)).toNat) (by assumption) (by assumption) (by omega) (by simp only [IntKind.wrap_i64]; omega) (by assumption) (by assumption))⟩))
     exact ⟨⟨rfl, ⟨rfl, ⟨rfl, ⟨(eqI (wr64 (by omega) (by omega))), trivial⟩⟩⟩⟩, trivial, rfl⟩
   ·
    have g6' := of_decide_eq_false g6
    refine dG 8 (ncf g6) (fun _ => ?_)
    refine dG 9 (ncf g6) (fun _ => ?_)
    refine dG 10 (ncf g6) (fun _ => ?_)
    refine dG 11 (ncf g6) (fun _ => ?_)
    refine dG 12 (ncf g6) (fun _ => ?_)
    refine dG 13 (ncf g6) (fun _ => ?_)
    refine dG 14 (ncf g6) (fun _ => ?_)
    refine dG 15 (ncf g6) (fun _ => ?_)
    refine dH 16 rfl (fun _ => p_pickF rfl g6 rfl) (fun _ => ?_) (ncf g5)
    refine dT 17 rfl (p_pickF rfl g5 rfl) ?_
    refine d_end (by kernel_rfl) ?_
    refine t_cond rfl (ncf rfl) (fun _ => ?_)
    refine t_skip ?_
    refine t_endblock ?_
    refine t_region ?_
    refine r_op oB ?_
    refine r_op oM ?_
    refine r_end ?_
    refine t_le ?_ (ih0 (m + 1) (by (try dsimp only); omega) (by (try dsimp only); exact ⟨by omega, step_all i2 (relStep_zero (by assumption) (by assumption) (by omega))⟩))
    exact ⟨⟨rfl, ⟨rfl, ⟨rfl, ⟨(eqI (wr64 (by omega) (by omega))), trivial⟩⟩⟩⟩, trivial, rfl⟩
  ·
   have g5' := (bnt g5)
   refine dG 5 (nc g5) (fun _ => ?_)
   refine dG 6 (nc g5) (fun _ => ?_)
   refine dK 7 ?_
   refine dK 8 ?_
   refine dK 9 ?_
   refine dK 10 ?_
   refine dK 11 ?_
   refine dK 12 ?_
   refine dK 13 ?_
   refine dK 14 ?_
   refine dK 15 ?_
   refine dG 16 (nc g5) (fun _ => ?_)
   refine dT 17 rfl (p_pickT rfl g5 rfl) ?_
   refine d_end (by kernel_rfl) ?_
   refine t_cond rfl (fun _ => ?_) (nc rfl)
   refine tsr ?_
   refine r_op oA ?_
   refine r_end ?_
   refine t_ret Tryz.func97 (.tmp rfl .nil) rfl fun E S w u hI hd => ?_
   refine post_mk hI hd ?_ trivial rfl rfl rfl <;> clear hI hd <;> (try clear ih0)
   all_goals (rw [relsOk_not (m := m) (by omega) (relStep_bad (by assumption) (by assumption))])
 ·
  have h1' := of_decide_eq_false h1
  refine t_exit rfl ?_
  refine tsr ?_
  refine r_op oM ?_
  refine r_op (o_len rfl rfl rfl) ?_
  refine r_op oB ?_
  refine r_op oA ?_
  refine r_end ?_
  refine t_ret Tryz.func97 (.tmp rfl .nil) rfl fun E S w u hI hd => ?_
  refine post_mk hI hd ?_ trivial rfl rfl rfl <;> clear hI hd <;> (try clear ih0)
  all_goals (rw [relsOk_end (m := m) i2 (by omega)]; exact scD (by omega))
set_option maxHeartbeats 1000000 in
set_option maxRecDepth 10000 in
theorem c_slices_IndexFunc___int_int_ (l : List (Int)) (f : Nat) (cs : List ((Nat → T) × Nat)) (p : Int → Bool) (hl : l.length ≤ 9223372036854775807) (hf : ∀ x ∈ l, Fu Tryz.prog f ([.c (.t none (.v (.int .i64 (x))))] ++ pels cs) (.c (.t none (.v (.bool (p x)))))) : Pu Tryz.prog 180 [.c (.t none (.sl 1 encI (l))), .c (.fv f cs)] [] 0 (.c (.t none (.v (.int .i64 (idxI p l))))) := by
 refine pu_enter Tryz.func180 rfl (Nat.le_of_ble_eq_true rfl) fun w S => ?_
 refine tsr ?_
 refine r_op oA ?_
 refine r_end ?_
 refine t_seq ?_
 refine tsr ?_
 refine r_op oM ?_
 refine r_op (o_len rfl rfl rfl) ?_
 refine r_op oM ?_
 refine r_end ?_
 refine t_block ?_
 refine t_loopL (fun m => ⟨[(0, some (.c (.t none (.sl 1 encI (l))))), (1, some (.c (.fv f cs))), (7, some (.c (.t none (.v (.int .i64 (((l).length : Int))))))), (8, some (.c (.t none (.v (.int .i64 ((m : Int)))))))], [], 0⟩ : Nat → St) (fun m => m ≤ l.length ∧ ∀ j z, j < m → l[j]? = some z → p z = false) (fun m => l.length - m) 0 ⟨⟨rfl, ⟨rfl, ⟨rfl, ⟨rfl, trivial⟩⟩⟩⟩, trivial, rfl⟩ (by exact ⟨Nat.zero_le _, fun j z h => by omega⟩) ?_
 rintro m hI ih0
 try dsimp only at hI ih0
 obtain ⟨i1, i2⟩ := hI
 refine tsr ?_
 refine r_op oB ?_
 refine r_end ?_
 refine t_seq ?_
 refine t_cond rfl (fun h1 => ?_) (fun h1 => ?_)
 ·
  have h1' := of_decide_eq_true h1
  refine t_skip ?_
  refine t_seq ?_
  refine t_block ?_
  refine tsr ?_
  refine r_op oM ?_
  refine r_op oA ?_
  refine etr ?_
  refine r_op oM ?_
  refine r_op oM ?_
  refine r_op oM ?_
  obtain ⟨z2, hz3, b4⟩ := at_get (xs := l) (n := (m : Int)) (by omega) (by omega)
  refine r_op (o_index rfl (by kernel_rfl) rfl rfl b4 hz3) ?_
  refine r_op (o_load1 rfl (by kernel_rfl) rfl rfl) ?_
  refine r_op (o_callv 0 0 false (hf z2 (List.mem_of_getElem? (by assumption))).1 (hf z2 (List.mem_of_getElem? (by assumption))).2 rfl rfl (.c .fv) (.cons rfl (.c .t0) .nil) rfl rfl rfl) ?_
  refine r_end ?_
  refine t_cond rfl (fun h5 => ?_) (fun h5 => ?_)
  ·
   have h5' := h5
   refine tsr ?_
   refine r_op oM ?_
   refine r_op oA ?_
   refine r_end ?_
   refine t_ret Tryz.func180 (.tmp rfl .nil) rfl fun E S w u hI hd => ?_
   refine post_mk hI hd ?_ trivial rfl rfl rfl <;> clear hI hd <;> (try clear ih0)
   all_goals (rw [idx_hit i2 (by assumption) (by assumption)])
  ·
   have h5' := h5
   refine t_skip ?_
   refine t_endblock ?_
   refine t_region ?_
   refine r_op oB ?_
   refine r_op oM ?_
   refine r_end ?_
   refine t_le ?_ (ih0 (m + 1) (by (try dsimp only); omega) (by (try dsimp only); exact ⟨by omega, no_step i2 (by assumption) rfl (by assumption)⟩))
   exact ⟨⟨rfl, ⟨rfl, ⟨rfl, ⟨(eqI (wr64 (by omega) (by omega))), trivial⟩⟩⟩⟩, trivial, rfl⟩
 ·
  have h1' := of_decide_eq_false h1
  refine t_exit rfl ?_
  refine tsr ?_
  refine r_op oA ?_
  refine r_end ?_
  refine t_ret Tryz.func180 (.tmp rfl .nil) rfl fun E S w u hI hd => ?_
  refine post_mk hI hd ?_ trivial rfl rfl rfl <;> clear hI hd <;> (try clear ih0)
  all_goals (rw [idx_none i2 (by omega)])
set_option maxHeartbeats 1000000 in
set_option maxRecDepth 10000 in
theorem c_slices_ContainsFunc___int_int_ (l : List (Int)) (f : Nat) (cs : List ((Nat → T) × Nat)) (p : Int → Bool) (hl : l.length ≤ 9223372036854775807) (hf : ∀ x ∈ l, Fu Tryz.prog f ([.c (.t none (.v (.int .i64 (x))))] ++ pels cs) (.c (.t none (.v (.bool (p x)))))) : Pu Tryz.prog 152 [.c (.t none (.sl 1 encI (l))), .c (.fv f cs)] [] 0 (.c (.t none (.v (.bool (l.any p))))) := by
 refine pu_enter Tryz.func152 rfl (Nat.le_of_ble_eq_true rfl) fun w S => ?_
 refine tsr ?_
 refine r_op oA ?_
 refine etr ?_
 refine r_op oM ?_
 refine r_op oM ?_
 refine r_op (o_call 0 0 false (Go.Proofs.enters_of Tryz.func180 (by kernel_rfl) rfl) (c_slices_IndexFunc___int_int_ (l) (f) (cs) (p) (by omega) (hf)) rfl (.cons rfl (.c .t0) (.cons rfl (.c .fv) .nil)) rfl rfl rfl) ?_
 refine r_op oB ?_
 refine r_op oA ?_
 refine r_end ?_
 refine t_ret Tryz.func152 (.tmp rfl .nil) rfl fun E S w u hI hd => ?_
 refine post_mk hI hd ?_ trivial rfl rfl rfl <;> clear hI hd
 all_goals (exact scB idx_any)
set_option maxHeartbeats 1000000 in
set_option maxRecDepth 10000 in
theorem c_impl_IsValidValue (v : Int) : Pu Tryz.prog 57 [.c (.t none (.v (.int .i64 (v))))] [] 0 (.c (.t none (.v (.bool (decide (-40 ≤ v ∧ v ≤ 9)))))) := by
 refine pu_enter Tryz.func57 rfl (Nat.le_of_ble_eq_true rfl) fun w S => ?_
 refine tsr ?_
 refine r_op oA ?_
 refine etr ?_
 refine r_op oM ?_
 refine r_op (o_call 0 0 false (Go.Proofs.enters_of Tryz.func117 (by kernel_rfl) rfl) (c_impl_within (v) (-40) (9)) rfl (.cons rfl (.c .t0) (.cons rfl (.c .t0) (.cons rfl (.c .t0) .nil))) rfl rfl rfl) ?_
 refine r_op oA ?_
 refine r_end ?_
 refine t_ret Tryz.func57 (.tmp rfl .nil) rfl fun E S w u hI hd => ?_
 refine post_mk hI hd ?_ trivial rfl rfl rfl <;> clear hI hd
 all_goals (rfl)
set_option maxHeartbeats 1000000 in
set_option maxRecDepth 10000 in
theorem c_impl_IsValidFact_1 (t : Int) : Pu Tryz.prog 153 [.c (.t none (.v (.int .i64 (t))))] [] 0 (.c (.t none (.v (.bool (!(valOk t)))))) := by
 refine pu_enter Tryz.func153 rfl (Nat.le_of_ble_eq_true rfl) fun w S => ?_
 refine tsr ?_
 refine r_op oA ?_
 refine etr ?_
 refine r_op oM ?_
 refine r_op (o_call 0 0 false (Go.Proofs.enters_of Tryz.func57 (by kernel_rfl) rfl) (c_impl_IsValidValue (t)) rfl (.cons rfl (.c .t0) .nil) rfl rfl rfl) ?_
 refine r_op (o_not rfl rfl) ?_
 refine r_op oA ?_
 refine r_end ?_
 refine t_ret Tryz.func153 (.tmp rfl .nil) rfl fun E S w u hI hd => ?_
 refine post_mk hI hd ?_ trivial rfl rfl rfl <;> clear hI hd
 all_goals (rfl)
set_option maxHeartbeats 1000000 in
set_option maxRecDepth 10000 in
theorem c_impl_IsValidFact (rs : List (List UInt8 × Int × Bool)) (r : Int) (ts : List Int) (hrs : rs.length ≤ 4611686018427387904) (hts : ts.length ≤ 4611686018427387904) (ho : ∀ x ∈ ts, okI x) : Pu Tryz.prog 98 [.c (.t none (.sl 3 (enS3 encS encI encB) (rs))), .agg [.t none (.v (.int .i64 (r))), .t none (.sl 1 encI (ts))]] [] 0 (.c (.t none (.v (.bool (factOk rs r ts))))) := by
 refine pu_enter Tryz.func98 rfl (Nat.le_of_ble_eq_true rfl) fun w S => ?_
 refine tsr ?_
 refine r_op (o_box 0 rfl rfl rfl rfl) ?_
 refine r_op oA ?_
 refine r_end ?_
 refine t_seq ?_
 refine t_seq ?_
 refine t_draw (fun _ => true) (by kernel_rfl) ?_
 refine dT 0 rfl pM ?_
 refine dO 1 rfl (o_call 1 1 false (Go.Proofs.enters_of Tryz.func97 (by kernel_rfl) rfl) (c_impl_AreValidRelations (rs) (by omega)) rfl (.cons rfl (.c .t0) .nil) rfl rfl rfl) ?_
 refine dT 2 rfl (p_not rfl) ?_
 refine dT 3 rfl pM ?_
 refine dH 4 rfl (fun _ => pF 0) (fun g1 => ?_) (fun g1 => ?_)
 ·
  have g1' := (bnf g1)
  refine dH 5 rfl (fun _ => pL) (fun _ => ?_) (ncf g1)
  refine dH 6 rfl (fun _ => pM) (fun _ => ?_) (ncf g1)
  refine dH 7 rfl (fun _ => p_len rfl rfl) (fun _ => ?_) (ncf g1)
  refine dH 8 rfl (fun _ => pB) (fun _ => ?_) (ncf g1)
  refine d_onlyG 9 rfl rfl (by kernel_rfl) rfl rfl rfl (fun _ => (o_call 1 1 false (Go.Proofs.enters_of Tryz.func117 (by kernel_rfl) rfl) (c_impl_within (r) (0) (IntKind.i64.wrap (((rs).length : Int) - 1))) rfl (.cons rfl (.c .t0) (.cons rfl (.c .t0) (.cons rfl (.c .t0) .nil))) rfl rfl rfl)) (fun _ => ?_) (ncf g1)
  refine dH 10 rfl (fun _ => p_not rfl) (fun _ => ?_) (ncf g1)
  refine dT 11 rfl (p_pickF rfl g1 rfl) ?_
  refine dT 12 rfl pM ?_
  refine dH 13 rfl (fun _ => pF 1) (fun g2 => ?_) (fun g2 => ?_)
  ·
   have g2' := of_decide_eq_true (bnf g2)
   refine dH 14 rfl (fun _ => pL) (fun _ => ?_) (ncf g2)
   refine dH 15 rfl (fun _ => p_len rfl rfl) (fun _ => ?_) (ncf g2)
   refine dH 16 rfl (fun _ => pM) (fun _ => ?_) (ncf g2)
   refine dH 17 rfl (fun _ => pF 0) (fun _ => ?_) (ncf g2)
   refine dH 18 rfl (fun _ => pL) (fun _ => ?_) (ncf g2)
   obtain ⟨z3, hz4, b5⟩ := at_get (xs := rs) (n := r) (by omega) (by (simp only [IntKind.wrap_i64] at *; omega))
   refine dH 19 rfl (fun _ => p_index (by kernel_rfl) rfl rfl b5 hz4) (fun _ => ?_) (ncf g2)
   refine dH 20 rfl (fun _ => p_field (off := 1) (by kernel_rfl) rfl) (fun _ => ?_) (ncf g2)
   refine dH 21 rfl (fun _ => p_load1 (by kernel_rfl) rfl rfl) (fun _ => ?_) (ncf g2)
   refine dH 22 rfl (fun _ => pB) (fun _ => ?_) (ncf g2)
   refine dT 23 rfl (p_pickF rfl g2 rfl) ?_
   refine d_end (by kernel_rfl) ?_
   refine t_cond rfl (fun h6 => ?_) (fun h6 => ?_)
   ·
    have h6' := of_decide_eq_true h6
    refine tsr ?_
    refine r_op oA ?_
    refine r_end ?_
    refine t_ret Tryz.func98 (.tmp rfl .nil) rfl fun E S w u hI hd => ?_
    refine post_mk hI hd ?_ trivial rfl rfl rfl <;> clear hI hd
    all_goals (refine scB ?_; (rw [fact_no3 (by assumption) (by assumption)]; done))
   ·
    have h6' := of_decide_eq_false h6
    refine t_skip ?_
    refine tsr ?_
    refine r_op (oF 1) ?_
    refine r_op oL ?_
    refine r_op (o_call 1 1 false (Go.Proofs.enters_of Tryz.func152 (by kernel_rfl) rfl) (c_slices_ContainsFunc___int_int_ (ts) (153) ([]) (fun (x0 : Int) => !(valOk (x0))) (by omega) (fun x0 mx0 => ⟨Go.Proofs.enters_of Tryz.func153 (by kernel_rfl) rfl, c_impl_IsValidFact_1 (x0)⟩)) rfl (.cons rfl (.c .t0) (.cons rfl (.c (.clo .nil)) .nil)) rfl rfl rfl) ?_
    refine r_op (o_not rfl rfl) ?_
    refine r_op oA ?_
    refine r_end ?_
    refine t_ret Tryz.func98 (.tmp rfl .nil) rfl fun E S w u hI hd => ?_
    refine post_mk hI hd ?_ trivial rfl rfl rfl <;> clear hI hd
    all_goals (refine scB ?_; (rw [fact_yes (by assumption) (by simp only [IntKind.wrap_i64] at *; omega) (by assumption) (by omega)]; done))
  ·
   have g2' := of_decide_eq_false (bnt g2)
   refine dG 14 (nc g2) (fun _ => ?_)
   refine dG 15 (nc g2) (fun _ => ?_)
   refine dG 16 (nc g2) (fun _ => ?_)
   refine dG 17 (nc g2) (fun _ => ?_)
   refine dG 18 (nc g2) (fun _ => ?_)
   refine dG 19 (nc g2) (fun _ => ?_)
   refine dG 20 (nc g2) (fun _ => ?_)
   refine dG 21 (nc g2) (fun _ => ?_)
   refine dG 22 (nc g2) (fun _ => ?_)
   refine dT 23 rfl (p_pickT rfl g2 rfl) ?_
   refine d_end (by kernel_rfl) ?_
   refine t_cond rfl (fun _ => ?_) (nc rfl)
   refine tsr ?_
   refine r_op oA ?_
   refine r_end ?_
   refine t_ret Tryz.func98 (.tmp rfl .nil) rfl fun E S w u hI hd => ?_
   refine post_mk hI hd ?_ trivial rfl rfl rfl <;> clear hI hd
   all_goals (refine scB ?_; (rw [fact_no2 (by simp only [IntKind.wrap_i64] at *; omega)]; done))
 ·
  have g1' := (bnt g1)
  refine dG 5 (nc g1) (fun _ => ?_)
  refine dG 6 (nc g1) (fun _ => ?_)
  refine dG 7 (nc g1) (fun _ => ?_)
  refine dG 8 (nc g1) (fun _ => ?_)
  refine dG 9 (nc g1) (fun _ => ?_)
  refine dG 10 (nc g1) (fun _ => ?_)
  refine dT 11 rfl (p_pickT rfl g1 rfl) ?_
  refine dT 12 rfl pM ?_
  refine dG 13 (nc rfl) (fun _ => ?_)
  refine dG 14 (nc rfl) (fun _ => ?_)
  refine dG 15 (nc rfl) (fun _ => ?_)
  refine dG 16 (nc rfl) (fun _ => ?_)
  refine dG 17 (nc rfl) (fun _ => ?_)
  refine dG 18 (nc rfl) (fun _ => ?_)
  refine dG 19 (nc rfl) (fun _ => ?_)
  refine dG 20 (nc rfl) (fun _ => ?_)
  refine dG 21 (nc rfl) (fun _ => ?_)
  refine dG 22 (nc rfl) (fun _ => ?_)
  refine dT 23 rfl (p_pickT rfl rfl rfl) ?_
  refine d_end (by kernel_rfl) ?_
  refine t_cond rfl (fun _ => ?_) (nc rfl)
  refine tsr ?_
  refine r_op oA ?_
  refine r_end ?_
  refine t_ret Tryz.func98 (.tmp rfl .nil) rfl fun E S w u hI hd => ?_
  refine post_mk hI hd ?_ trivial rfl rfl rfl <;> clear hI hd
  all_goals (refine scB ?_; (rw [fact_no1 (by assumption)]; done))
set_option maxHeartbeats 1000000 in
set_option maxRecDepth 10000 in
theorem c_cmp_isNaN_int_ (x : Int) : Pu Tryz.prog 181 [.c (.t none (.v (.int .i64 (x))))] [] 0 (.c (.t none (.v (.bool (false))))) := by
 refine pu_enter Tryz.func181 rfl (Nat.le_of_ble_eq_true rfl) fun w S => ?_
 refine tsr ?_
 refine r_op oA ?_
 refine etr ?_
 refine r_op oM ?_
 refine r_op oM ?_
 refine r_op oB ?_
 refine r_op oA ?_
 refine r_end ?_
 refine t_ret Tryz.func181 (.tmp rfl .nil) rfl fun E S w u hI hd => ?_
 refine post_mk hI hd ?_ trivial rfl rfl rfl <;> clear hI hd
 all_goals (simp)
set_option maxHeartbeats 1000000 in
set_option maxRecDepth 10000 in
theorem c_cmp_Compare_int_ (x y : Int) : Pu Tryz.prog 155 [.c (.t none (.v (.int .i64 (x)))), .c (.t none (.v (.int .i64 (y))))] [] 0 (.c (.t none (.v (.int .i64 (cmpI x y))))) := by
 refine pu_enter Tryz.func155 rfl (Nat.le_of_ble_eq_true rfl) fun w S => ?_
 refine tsr ?_
 refine r_op oA ?_
 refine etr ?_
 refine r_op oM ?_
 refine r_op (o_call 0 0 false (Go.Proofs.enters_of Tryz.func181 (by kernel_rfl) rfl) (c_cmp_isNaN_int_ (x)) rfl (.cons rfl (.c .t0) .nil) rfl rfl rfl) ?_
 refine r_op oA ?_
 refine etr ?_
 refine r_op oM ?_
 refine r_op (o_call 0 0 false (Go.Proofs.enters_of Tryz.func181 (by kernel_rfl) rfl) (c_cmp_isNaN_int_ (y)) rfl (.cons rfl (.c .t0) .nil) rfl rfl rfl) ?_
 refine r_op oA ?_
 refine r_end ?_
 refine t_seq ?_
 refine tsr ?_
 refine r_op oM ?_
 refine r_end ?_
 refine t_cond rfl (ncf rfl) (fun _ => ?_)
 refine t_skip ?_
 refine t_seq ?_
 refine tsr ?_
 refine r_op oM ?_
 refine r_end ?_
 refine t_cond rfl (ncf rfl) (fun _ => ?_)
 refine t_skip ?_
 refine t_seq ?_
 refine tsr ?_
 refine r_op oM ?_
 refine r_op oM ?_
 refine r_op oB ?_
 refine r_end ?_
 refine t_cond rfl (fun h1 => ?_) (fun h1 => ?_)
 ·
  have h1' := of_decide_eq_true h1
  refine tsr ?_
  refine r_op oA ?_
  refine r_end ?_
  refine t_ret Tryz.func155 (.tmp rfl .nil) rfl fun E S w u hI hd => ?_
  refine post_mk hI hd ?_ trivial rfl rfl rfl <;> clear hI hd
  all_goals (refine scI ?_; unfold cmpI; (rw [if_pos (by assumption)]; done))
 ·
  have h1' := of_decide_eq_false h1
  refine t_skip ?_
  refine t_seq ?_
  refine tsr ?_
  refine r_op oM ?_
  refine r_op oM ?_
  refine r_op oB ?_
  refine r_end ?_
  refine t_cond rfl (fun h2 => ?_) (fun h2 => ?_)
  ·
   have h2' := of_decide_eq_true h2
   refine tsr ?_
   refine r_op oA ?_
   refine r_end ?_
   refine t_ret Tryz.func155 (.tmp rfl .nil) rfl fun E S w u hI hd => ?_
   refine post_mk hI hd ?_ trivial rfl rfl rfl <;> clear hI hd
   all_goals (refine scI ?_; unfold cmpI; (rw [if_neg (by assumption), if_pos (by omega)]; done))
  ·
   have h2' := of_decide_eq_false h2
   refine t_skip ?_
   refine tsr ?_
   refine r_op oA ?_
   refine r_end ?_
   refine t_ret Tryz.func155 (.tmp rfl .nil) rfl fun E S w u hI hd => ?_
   refine post_mk hI hd ?_ trivial rfl rfl rfl <;> clear hI hd
   all_goals (refine scI ?_; unfold cmpI; (rw [if_neg (by assumption), if_neg (by omega)]; done))
set_option maxHeartbeats 1000000 in
set_option maxRecDepth 10000 in
theorem c_slices_Compare___int_int_ (a b : List Int) (ha : a.length ≤ 4611686018427387904) (hb : b.length ≤ 4611686018427387904) : Pu Tryz.prog 156 [.c (.t none (.sl 1 encI (a))), .c (.t none (.sl 1 encI (b)))] [] 0 (.c (.t none (.v (.int .i64 (cmpL a b))))) := by
 refine pu_enter Tryz.func156 rfl (Nat.le_of_ble_eq_true rfl) fun w S => ?_
 refine tsr ?_
 refine r_op oA ?_
 refine r_end ?_
 refine t_seq ?_
 refine tsr ?_
 refine r_op oM ?_
 refine r_op (o_len rfl rfl rfl) ?_
 refine r_op oM ?_
 refine r_end ?_
 refine t_block ?_
 refine t_loopL (fun m => ⟨[(0, some (.c (.t none (.sl 1 encI (a))))), (1, some (.c (.t none (.sl 1 encI (b))))), (9, some (.c (.t none (.sl 1 encI (a))))), (10, some (.c (.t none (.v (.int .i64 (((a).length : Int))))))), (11, some (.c (.t none (.v (.int .i64 ((m : Int)))))))], [], 0⟩ : Nat → St) (fun m => m ≤ a.length ∧ m ≤ b.length ∧ a.take m = b.take m) (fun m => a.length - m) 0 ⟨⟨rfl, ⟨rfl, ⟨rfl, ⟨rfl, ⟨rfl, trivial⟩⟩⟩⟩⟩, trivial, rfl⟩ (by exact ⟨Nat.zero_le _, Nat.zero_le _, rfl⟩) ?_
 rintro m hI ih0
 try dsimp only at hI ih0
 obtain ⟨i1, i2, i3⟩ := hI
 refine tsr ?_
 refine r_op oB ?_
 refine r_end ?_
 refine t_seq ?_
 refine t_cond rfl (fun h1 => ?_) (fun h1 => ?_)
 ·
  have h1' := of_decide_eq_true h1
  refine t_skip ?_
  refine t_seq ?_
  refine t_block ?_
  refine tsr ?_
  refine r_op oM ?_
  obtain ⟨z2, hz3, b4⟩ := at_get (xs := a) (n := (m : Int)) (by omega) (by omega)
  refine r_op (o_index rfl (by kernel_rfl) rfl rfl b4 hz3) ?_
  refine r_op (o_load1 rfl (by kernel_rfl) rfl rfl) ?_
  refine r_op oA ?_
  refine r_op oA ?_
  refine r_end ?_
  refine t_seq ?_
  refine tsr ?_
  refine r_op oM ?_
  refine r_op oM ?_
  refine r_op (o_len rfl rfl rfl) ?_
  refine r_op oB ?_
  refine r_end ?_
  refine t_cond rfl (fun h5 => ?_) (fun h5 => ?_)
  ·
   have h5' := of_decide_eq_true h5
   refine tsr ?_
   refine r_op oA ?_
   refine r_end ?_
   refine t_ret Tryz.func156 (.tmp rfl .nil) rfl fun E S w u hI hd => ?_
   refine post_mk hI hd ?_ trivial rfl rfl rfl <;> clear hI hd <;> (try clear ih0)
   all_goals (refine scI ?_; (rw [(cmpL_end i3 i1 i2).2.1 (by omega) (by omega)]; done))
  ·
   have h5' := of_decide_eq_false h5
   refine t_skip ?_
   refine tsr ?_
   refine r_op oM ?_
   refine r_op oM ?_
   obtain ⟨z6, hz7, b8⟩ := at_get (xs := b) (n := (m : Int)) (by omega) (by omega)
   refine r_op (o_index rfl (by kernel_rfl) rfl rfl b8 hz7) ?_
   refine r_op (o_load1 rfl (by kernel_rfl) rfl rfl) ?_
   refine r_op oA ?_
   refine etr ?_
   refine r_op oM ?_
   refine r_op oM ?_
   refine r_op (o_call 0 0 false (Go.Proofs.enters_of Tryz.func155 (by kernel_rfl) rfl) (c_cmp_Compare_int_ (z2) (z6)) rfl (.cons rfl (.c .t0) (.cons rfl (.c .t0) .nil)) rfl rfl rfl) ?_
   refine r_op oA ?_
   refine etr ?_
   refine r_op oM ?_
   refine r_op oB ?_
   refine r_end ?_
   refine t_cond rfl (fun h9 => ?_) (fun h9 => ?_)
   ·
    have h9' := of_decide_eq_true h9
    refine tsr ?_
    refine r_op oM ?_
    refine r_op oA ?_
    refine r_end ?_
    refine t_ret Tryz.func156 (.tmp rfl .nil) rfl fun E S w u hI hd => ?_
    refine post_mk hI hd ?_ trivial rfl rfl rfl <;> clear hI hd <;> (try clear ih0)
    all_goals (refine scI ?_; (exact cmpL_cmpI i3 (by assumption) (by assumption) (by omega)))
   ·
    have h9' := of_decide_eq_false h9
    refine t_skip ?_
    refine t_endblock ?_
    refine t_region ?_
    refine r_op oB ?_
    refine r_op oM ?_
    refine r_end ?_
    refine t_le ?_ (ih0 (m + 1) (by (try dsimp only); omega) (by (try dsimp only); exact ⟨by omega, by omega, take_same i3 (same_at (by assumption) (by assumption) (cmpI_eq (by omega)))⟩))
    exact ⟨⟨rfl, ⟨rfl, ⟨rfl, ⟨rfl, ⟨(eqI (wr64 (by omega) (by omega))), trivial⟩⟩⟩⟩⟩, trivial, rfl⟩
 ·
  have h1' := of_decide_eq_false h1
  refine t_exit rfl ?_
  refine t_seq ?_
  refine tsr ?_
  refine r_op oM ?_
  refine r_op (o_len rfl rfl rfl) ?_
  refine r_op oM ?_
  refine r_op (o_len rfl rfl rfl) ?_
  refine r_op oB ?_
  refine r_end ?_
  refine t_cond rfl (fun h10 => ?_) (fun h10 => ?_)
  ·
   have h10' := of_decide_eq_true h10
   refine tsr ?_
   refine r_op oA ?_
   refine r_end ?_
   refine t_ret Tryz.func156 (.tmp rfl .nil) rfl fun E S w u hI hd => ?_
   refine post_mk hI hd ?_ trivial rfl rfl rfl <;> clear hI hd <;> (try clear ih0)
   all_goals (refine scI ?_; (rw [(cmpL_end i3 i1 i2).1 (by omega) (by omega)]; done))
  ·
   have h10' := of_decide_eq_false h10
   refine t_skip ?_
   refine tsr ?_
   refine r_op oA ?_
   refine r_end ?_
   refine t_ret Tryz.func156 (.tmp rfl .nil) rfl fun E S w u hI hd => ?_
   refine post_mk hI hd ?_ trivial rfl rfl rfl <;> clear hI hd <;> (try clear ih0)
   all_goals (refine scI ?_; (rw [(cmpL_end i3 i1 i2).2.2 (by omega) (by omega)]; done))
set_option maxHeartbeats 1000000 in
set_option maxRecDepth 10000 in
theorem c_cmp_Or_int_ (l : List Int) (hl : l.length ≤ 4611686018427387904) : Pu Tryz.prog 154 [.c (.t none (.sl 1 encI (l)))] [] 0 (.c (.t none (.v (.int .i64 (orI l))))) := by
 refine pu_enter Tryz.func154 rfl (Nat.le_of_ble_eq_true rfl) fun w S => ?_
 refine tsr ?_
 refine r_op oA ?_
 refine etr ?_
 refine r_op oA ?_
 refine r_end ?_
 refine t_seq ?_
 refine tsr ?_
 refine r_op oM ?_
 refine r_op (o_len rfl rfl rfl) ?_
 refine r_op oM ?_
 refine r_end ?_
 refine t_block ?_
 refine t_loopL (fun m => ⟨[(3, some (.c (.t none (.v (.int .i64 (0)))))), (6, some (.c (.t none (.sl 1 encI (l))))), (7, some (.c (.t none (.v (.int .i64 (((l).length : Int))))))), (8, some (.c (.t none (.v (.int .i64 ((m : Int)))))))], [], 0⟩ : Nat → St) (fun m => m ≤ l.length ∧ ∀ j y, j < m → l[j]? = some y → y = 0) (fun m => l.length - m) 0 ⟨⟨rfl, ⟨rfl, ⟨rfl, ⟨rfl, trivial⟩⟩⟩⟩, trivial, rfl⟩ (by exact ⟨Nat.zero_le _, fun j z h => by omega⟩) ?_
 rintro m hI ih0
 try dsimp only at hI ih0
 obtain ⟨i1, i2⟩ := hI
 refine tsr ?_
 refine r_op oB ?_
 refine r_end ?_
 refine t_seq ?_
 refine t_cond rfl (fun h1 => ?_) (fun h1 => ?_)
 ·
  have h1' := of_decide_eq_true h1
  refine t_skip ?_
  refine t_seq ?_
  refine t_block ?_
  refine tsr ?_
  obtain ⟨z2, hz3, b4⟩ := at_get (xs := l) (n := (m : Int)) (by omega) (by omega)
  refine r_op (o_index rfl (by kernel_rfl) rfl rfl b4 hz3) ?_
  refine r_op (o_load1 rfl (by kernel_rfl) rfl rfl) ?_
  refine r_op oA ?_
  refine etr ?_
  refine r_op oM ?_
  refine r_op oM ?_
  refine r_op oB ?_
  refine r_end ?_
  refine t_cond rfl (fun h5 => ?_) (fun h5 => ?_)
  ·
   have h5' := of_decide_eq_true h5
   refine tsr ?_
   refine r_op oM ?_
   refine r_op oA ?_
   refine r_end ?_
   refine t_ret Tryz.func154 (.tmp rfl .nil) rfl fun E S w u hI hd => ?_
   refine post_mk hI hd ?_ trivial rfl rfl rfl <;> clear hI hd <;> (try clear ih0)
   all_goals (refine scI ?_; (rw [orI_at i2 (by assumption) (by omega)]; done))
  ·
   have h5' := of_decide_eq_false h5
   refine t_skip ?_
   refine t_endblock ?_
   refine t_region ?_
   refine r_op oB ?_
   refine r_op oM ?_
   refine r_end ?_
   refine t_le ?_ (ih0 (m + 1) (by (try dsimp only); omega) (by (try dsimp only); exact ⟨by omega, zero_step i2 (by assumption) rfl (by omega)⟩))
   exact ⟨⟨rfl, ⟨rfl, ⟨rfl, ⟨(eqI (wr64 (by omega) (by omega))), trivial⟩⟩⟩⟩, trivial, rfl⟩
 ·
  have h1' := of_decide_eq_false h1
  refine t_exit rfl ?_
  refine tsr ?_
  refine r_op oM ?_
  refine r_op oA ?_
  refine r_end ?_
  refine t_ret Tryz.func154 (.tmp rfl .nil) rfl fun E S w u hI hd => ?_
  refine post_mk hI hd ?_ trivial rfl rfl rfl <;> clear hI hd <;> (try clear ih0)
  all_goals (refine scI ?_; (rw [orI_none fun j y hj hy => i2 j y (by omega) hy]; done))
set_option maxHeartbeats 1000000 in
set_option maxRecDepth 10000 in
theorem c_impl_CompareFacts (r : Int) (l : List Int) (r2 : Int) (l2 : List Int) (hl : l.length ≤ 1048576) (hl2 : l2.length ≤ 1048576) : Pu Tryz.prog 99 [.agg [.t none (.v (.int .i64 (r))), .t none (.sl 1 encI (l))], .agg [.t none (.v (.int .i64 (r2))), .t none (.sl 1 encI (l2))]] [] 0 (.c (.t none (.v (.int .i64 (cmpF (r, l) (r2, l2)))))) := by
 refine pu_enter Tryz.func99 rfl (Nat.le_of_ble_eq_true rfl) fun w S => ?_
 refine tsr ?_
 refine r_op (o_box 0 rfl rfl rfl rfl) ?_
 refine r_op (o_box 1 rfl rfl rfl rfl) ?_
 refine r_op oA ?_
 refine r_end ?_
 refine t_seq ?_
 refine t_draw (fun _ => true) (by kernel_rfl) ?_
 refine dT 0 rfl (pF 0) ?_
 refine dT 1 rfl pL ?_
 refine dT 2 rfl (pF 0) ?_
 refine dT 3 rfl pL ?_
 refine dT 5 rfl (pF 1) ?_
 refine dT 6 rfl pL ?_
 refine dT 7 rfl (pF 1) ?_
 refine dT 8 rfl pL ?_
 refine dO 4 rfl (o_call 2 2 false (Go.Proofs.enters_of Tryz.func155 (by kernel_rfl) rfl) (c_cmp_Compare_int_ (r) (r2)) rfl (.cons rfl (.c .t0) (.cons rfl (.c .t0) .nil)) rfl rfl rfl) ?_
 refine dO 9 rfl (o_call 2 2 false (Go.Proofs.enters_of Tryz.func156 (by kernel_rfl) rfl) (c_slices_Compare___int_int_ (l) (l2) (by omega) (by omega)) rfl (.cons rfl (.c .t0) (.cons rfl (.c .t0) .nil)) rfl rfl rfl) ?_
 refine dO 10 rfl (o_litS 2 (e := 3) (sz := 1) (zs := [.int .i64 (0)]) rfl rfl (by kernel_rfl) rfl rfl rfl rfl rfl) ?_
 refine dO 11 rfl (o_call 3 3 false (Go.Proofs.enters_of Tryz.func154 (by kernel_rfl) rfl) (c_cmp_Or_int_ ([cmpI (r) (r2), cmpL (l) (l2)]) (by (simp; done))) rfl (.cons rfl (.c (.bsl rfl rfl (.cons .t (.cons .t .nil)))) .nil) rfl rfl rfl) ?_
 refine dT 12 rfl pA ?_
 refine d_end (by kernel_rfl) ?_
 refine t_ret Tryz.func99 (.tmp rfl .nil) rfl fun E S w u hI hd => ?_
 refine post_mk hI hd ?_ trivial rfl rfl rfl <;> clear hI hd
 all_goals (refine scI ?_; exact cmpF_or (r, l) (r2, l2))
set_option maxHeartbeats 1000000 in
set_option maxRecDepth 10000 in
theorem c_impl_NullNumber (v : Int) (hv : -9223372036854775808 ≤ v) (hv2 : v ≤ 9223372036854775807) : Pu Tryz.prog 143 [.c (.t none (.v (.int .i64 (v))))] [] 0 (.tup [(false, [.t none (.v (.int .i64 (if -40 ≤ v ∧ v ≤ -1 then -1 - v else 0)))]), (false, [.t none (.v (.bool (decide (-40 ≤ v ∧ v ≤ -1))))])]) := by
 refine pu_enter Tryz.func143 rfl (Nat.le_of_ble_eq_true rfl) fun w S => ?_
 refine tsr ?_
 refine r_op oA ?_
 refine r_op oA ?_
 refine r_end ?_
 refine t_seq ?_
 refine tsr ?_
 refine r_op oM ?_
 refine r_op oB ?_
 refine r_op (o_call 0 0 false (Go.Proofs.enters_of Tryz.func117 (by kernel_rfl) rfl) (c_impl_within (IntKind.i64.wrap ((-1) - v)) (0) (39)) rfl (.cons rfl (.c .t0) (.cons rfl (.c .t0) (.cons rfl (.c .t0) .nil))) rfl rfl rfl) ?_
 refine r_op (o_not rfl rfl) ?_
 refine r_end ?_
 refine t_cond rfl (fun h1 => ?_) (fun h1 => ?_)
 ·
  have h1' := of_decide_eq_false (bnt h1)
  refine tsr ?_
  refine r_op oA ?_
  refine r_op oA ?_
  refine r_end ?_
  refine t_ret Tryz.func143 (.tmp rfl (.tmp rfl .nil)) rfl fun E S w u hI hd => ?_
  refine post_mk hI hd ?_ trivial rfl rfl rfl <;> clear hI hd
  all_goals (((have hn : ¬(-40 ≤ v ∧ v ≤ -1) := by (simp only [IntKind.wrap_i64] at *; omega)); (simp [hn]; done)))
 ·
  have h1' := of_decide_eq_true (bnf h1)
  refine t_skip ?_
  refine tsr ?_
  refine r_op oM ?_
  refine r_op oB ?_
  refine r_op oA ?_
  refine r_op oA ?_
  refine r_end ?_
  refine t_ret Tryz.func143 (.tmp rfl (.tmp rfl .nil)) rfl fun E S w u hI hd => ?_
  refine post_mk hI hd ?_ trivial rfl rfl rfl <;> clear hI hd
  all_goals (((have hn : (-40 ≤ v ∧ v ≤ -1) := by (simp only [IntKind.wrap_i64] at *; omega)); (have e : IntKind.i64.wrap (-1 - v) = -1 - v := wr64 (by omega) (by omega)); (simp [hn, e]; done)))
def Tryz.sortL_ren : Go.Shelf.Ren := ⟨fun | 5 => 124 | 8 => 169 | 7 => 168 | 19 => 195 | 20 => 196 | 10 => 186 | 11 => 187 | 12 => 188 | 13 => 189 | 14 => 190 | 15 => 191 | 16 => 192 | 17 => 193 | 18 => 194 | 30 => 209 | 31 => 210 | 32 => 211 | 33 => 212 | 34 => 213 | 35 => 181 | 40 => 220 | n => n, fun | 23 => 34 | 25 => 3 | 3 => 3 | 32 => 163 | 22 => 34 | 0 => 0 | 44 => 178 | 46 => 181 | 4 => 4 | 36 => 186 | 35 => 185 | 41 => 105 | 5 => 5 | 9 => 9 | 53 => 205 | 57 => 209 | 63 => 214 | 64 => 215 | n => n, fun | n => n⟩
theorem Tryz.sortL : Go.Proofs.SlLaysM.n5 Tryz.prog Tryz.sortL_ren := {
 mixed := by kernel_rfl
 f5 := ⟨Tryz.f124.name, by decide, Tryz.func124.trans (congrArg some (by kernel_rfl))⟩
 f7 := ⟨Tryz.f168.name, by decide, Tryz.func168.trans (congrArg some (by kernel_rfl))⟩
 f8 := Tryz.func169.trans (congrArg some (by kernel_rfl))
 f10 := ⟨Tryz.f186.name, by decide, Tryz.func186.trans (congrArg some (by kernel_rfl))⟩
 f11 := ⟨Tryz.f187.name, by decide, Tryz.func187.trans (congrArg some (by kernel_rfl))⟩
 f12 := ⟨Tryz.f188.name, by decide, Tryz.func188.trans (congrArg some (by kernel_rfl))⟩
 f13 := ⟨Tryz.f189.name, by decide, Tryz.func189.trans (congrArg some (by kernel_rfl))⟩
 f14 := ⟨Tryz.f190.name, by decide, Tryz.func190.trans (congrArg some (by kernel_rfl))⟩
 f15 := ⟨Tryz.f191.name, by decide, Tryz.func191.trans (congrArg some (by kernel_rfl))⟩
 f16 := ⟨Tryz.f192.name, by decide, Tryz.func192.trans (congrArg some (by kernel_rfl))⟩
 f17 := ⟨Tryz.f193.name, by decide, Tryz.func193.trans (congrArg some (by kernel_rfl))⟩
 f18 := ⟨Tryz.f194.name, by decide, Tryz.func194.trans (congrArg some (by kernel_rfl))⟩
 f19 := Tryz.func195.trans (congrArg some (by kernel_rfl))
 f20 := Tryz.func196.trans (congrArg some (by kernel_rfl))
 f30 := ⟨Tryz.f209.name, by decide, Tryz.func209.trans (congrArg some (by kernel_rfl))⟩
 f31 := Tryz.func210.trans (congrArg some (by kernel_rfl))
 f32 := Tryz.func211.trans (congrArg some (by kernel_rfl))
 f33 := ⟨Tryz.f212.name, by decide, Tryz.func212.trans (congrArg some (by kernel_rfl))⟩
 f34 := ⟨Tryz.f213.name, by decide, Tryz.func213.trans (congrArg some (by kernel_rfl))⟩
 f35 := ⟨Tryz.f181.name, by decide, Tryz.func181.trans (congrArg some (by kernel_rfl))⟩
 f40 := ⟨Tryz.f220.name, by decide, Tryz.func220.trans (congrArg some (by kernel_rfl))⟩
 t0 := Tryz.underlying0
 a0 := Tryz.isAgg0
 z0 := Tryz.sizeOf0
 v0 := Tryz.zeroValue0
 t3 := Tryz.underlying3
 a3 := Tryz.isAgg3
 z3 := Tryz.sizeOf3
 v3 := Tryz.zeroValue3
 t4 := Tryz.underlying4
 a4 := Tryz.isAgg4
 z4 := Tryz.sizeOf4
 v4 := Tryz.zeroValue4
 t5 := Tryz.underlying5
 a5 := Tryz.isAgg5
 z5 := Tryz.sizeOf5
 v5 := Tryz.zeroValue5
 t9 := Tryz.underlying9
 a9 := Tryz.isAgg9
 z9 := Tryz.sizeOf9
 v9 := Tryz.zeroValue9
 t22 := Tryz.underlying34
 a22 := Tryz.isAgg34
 z22 := Tryz.sizeOf34
 v22 := Tryz.zeroValue34
 t23 := Tryz.underlying34
 a23 := Tryz.isAgg34
 z23 := Tryz.sizeOf34
 v23 := Tryz.zeroValue34
 t25 := Tryz.underlying3
 a25 := Tryz.isAgg3
 z25 := Tryz.sizeOf3
 v25 := Tryz.zeroValue3
 t32 := Tryz.underlying163
 a32 := Tryz.isAgg163
 z32 := Tryz.sizeOf163
 v32 := Tryz.zeroValue163
 t35 := Tryz.underlying185
 a35 := Tryz.isAgg185
 z35 := Tryz.sizeOf185
 v35 := Tryz.zeroValue185
 t36 := Tryz.underlying186
 a36 := Tryz.isAgg186
 z36 := Tryz.sizeOf186
 v36 := Tryz.zeroValue186
 t41 := Tryz.underlying105
 a41 := Tryz.isAgg105
 z41 := Tryz.sizeOf105
 v41 := Tryz.zeroValue105
 t44 := Tryz.underlying178
 a44 := Tryz.isAgg178
 z44 := Tryz.sizeOf178
 v44 := Tryz.zeroValue178
 t46 := Tryz.underlying181
 a46 := Tryz.isAgg181
 z46 := Tryz.sizeOf181
 v46 := Tryz.zeroValue181
 t53 := Tryz.underlying205
 a53 := Tryz.isAgg205
 z53 := Tryz.sizeOf205
 v53 := Tryz.zeroValue205
 t57 := Tryz.underlying209
 a57 := Tryz.isAgg209
 z57 := Tryz.sizeOf209
 v57 := Tryz.zeroValue209
 t63 := Tryz.underlying214
 a63 := Tryz.isAgg214
 z63 := Tryz.sizeOf214
 v63 := Tryz.zeroValue214
 t64 := Tryz.underlying215
 a64 := Tryz.isAgg215
 z64 := Tryz.sizeOf215
 v64 := Tryz.zeroValue215 }
set_option maxHeartbeats 1000000 in
set_option maxRecDepth 10000 in
theorem c_slices_Sort___int_int_ (U : Nat → Value) (e0 : Nat) (l : List Int) (hl : l.length ≤ 1099511627776) : Mu Tryz.prog 124 [.c (.own 0)] [(0, some (.row (some (U 0)) e0 true 1 encI (l)))] 1 [(0, some (.row (some (U 0)) e0 true 1 encI (sortI l)))] 1 (.tup []) := by
 exact sort_mu Tryz.sortL U e0 l (by omega)
set_option maxHeartbeats 1000000 in
set_option maxRecDepth 10000 in
theorem c_slices_Compact___int_int_ (U : Nat → Value) (e0 : Nat) (l : List Int) (hl : l.length ≤ 4611686018427387904) : Mu Tryz.prog 125 [.c (.own 0)] [(0, some (.row (some (U 0)) e0 true 1 encI (l)))] 1 [(0, some (.row none e0 true 1 encI (compactI l)))] 1 (.c (.own 0)) := by
 refine mu_enter Tryz.func125 rfl (Nat.le_of_ble_eq_true rfl) fun w S M => ?_
 refine tsr ?_
 refine r_op oA ?_
 refine r_end ?_
 refine t_seq ?_
 refine tsr ?_
 refine r_op oM ?_
 refine r_op (o_leno rfl rfl rfl rfl) ?_
 refine r_op oB ?_
 refine r_end ?_
 refine t_cond rfl (fun h1 => ?_) (fun h1 => ?_)
 ·
  have h1' := of_decide_eq_true h1
  refine tsr ?_
  refine r_op oM ?_
  refine r_op oA ?_
  refine r_end ?_
  refine gt_unpin 0 rfl ?_
  refine t_ret Tryz.func125 (.tmp rfl .nil) rfl fun E S w u hI hd => ?_
  refine postM_mk hI hd ?_ ⟨eqR ?_, trivial⟩ rfl rfl <;> clear hI hd <;> (try clear ih0) <;> (try clear ih1)
  all_goals first | rfl | ((match l with | [] => rfl | [_] => rfl | _ :: _ :: _ => (exfalso; simp at *; omega)))
 ·
  have h1' := of_decide_eq_false h1
  refine t_skip ?_
  refine t_seq ?_
  refine tsr ?_
  refine r_op oA ?_
  refine r_end ?_
  refine t_block ?_
  refine t_loopL (fun m => ⟨[(0, some (.c (.own 0))), (3, some (.c (.t none (.v (.int .i64 ((m : Int)))))))], [(0, some (.row (some (U 0)) e0 true 1 encI (l)))], 1⟩ : Nat → St) (fun m => 1 ≤ m ∧ m ≤ l.length ∧ compactI (l.take m) = l.take m) (fun m => l.length - m) 1 ⟨⟨rfl, ⟨(eqI rfl), trivial⟩⟩, ⟨rfl, trivial⟩, rfl⟩ (by exact ⟨Nat.le_refl _, by omega, by (rcases l with _ | ⟨x, l⟩ <;> simp [compactI])⟩) ?_
  rintro m hI ih0
  try dsimp only at hI ih0
  obtain ⟨i1, i2, i3⟩ := hI
  refine t_seq ?_
  refine tsr ?_
  refine r_op oM ?_
  refine r_op oM ?_
  refine r_op (o_leno rfl rfl rfl rfl) ?_
  refine r_op oB ?_
  refine r_end ?_
  refine t_cond rfl (fun h2 => ?_) (fun h2 => ?_)
  ·
   have h2' := of_decide_eq_true h2
   refine t_skip ?_
   refine t_seq ?_
   refine t_block ?_
   refine t_seq ?_
   refine t_draw (fun _ => true) (by kernel_rfl) ?_
   refine dT 0 rfl pM ?_
   refine dT 1 rfl pM ?_
   obtain ⟨z3, hz4, b5⟩ := at_get (xs := l) (n := (m : Int)) (by omega) (by omega)
   refine dT 2 rfl (p_indexo (by kernel_rfl) rfl rfl rfl b5 (at_lt b5 hz4)) ?_
   refine dT 3 rfl (p_load1o (by kernel_rfl) rfl rfl rfl hz4) ?_
   refine dT 4 rfl pM ?_
   refine dT 5 rfl pM ?_
   refine dT 6 rfl pB ?_
   obtain ⟨z6, hz7, b8⟩ := at_get (xs := l) (n := IntKind.i64.wrap ((m : Int) - 1)) (by (simp only [IntKind.wrap_i64]; omega)) (by (simp only [IntKind.wrap_i64]; omega))
   refine dT 7 rfl (p_indexo (by kernel_rfl) rfl rfl rfl b8 (at_lt b8 hz7)) ?_
   refine dT 8 rfl (p_load1o (by kernel_rfl) rfl rfl rfl hz7) ?_
   refine dT 9 rfl pB ?_
   refine d_end (by kernel_rfl) ?_
   refine t_cond rfl (fun h9 => ?_) (fun h9 => ?_)
   ·
    have h9' := of_decide_eq_true h9
    refine tsr ?_
    refine r_op oM ?_
    refine r_op oM ?_
    refine r_op (o_subvl rfl (by kernel_rfl) rfl rfl rfl (by omega) (by omega)) ?_
    refine r_op oA ?_
    refine r_end ?_
    refine t_seq ?_
    refine tsr ?_
    refine r_op oA ?_
    refine r_end ?_
    refine t_block ?_
    refine t_loopL (fun (j, k, q) => ⟨[(0, some (.c (.own 0))), (3, some (.c (.t none (.v (.int .i64 ((k : Int))))))), (4, some (.c (.vw 0 (((m : Int)).toNat) (((l).length - ((m : Int)).toNat)) 1))), (5, some (.c (.t none (.v (.int .i64 ((j : Int)))))))], [(0, some (.row (some (U 0)) e0 true 1 encI (q)))], 1⟩ : Nat × Nat × List Int → St) (fun (j, k, q) => 1 ≤ j ∧ cmpK l q k (m + j)) (fun (j, k, q) => l.length - j) (1, m, l) ⟨⟨rfl, ⟨rfl, ⟨rfl, ⟨(eqI rfl), trivial⟩⟩⟩⟩, ⟨rfl, trivial⟩, rfl⟩ (by exact ⟨Nat.le_refl _, cmpK_start i3 (by assumption) (by assumption) (by simp only [IntKind.wrap_i64]; omega) i1 (by omega)⟩) ?_
    rintro ⟨j, k, q⟩ hI ih1
    try dsimp only at hI ih1
    obtain ⟨j0, j1⟩ := hI; have j2 := j1.1; have j3 := j1.2.1; have j4 := j1.2.2.1
    refine t_seq ?_
    refine tsr ?_
    refine r_op oM ?_
    refine r_op oM ?_
    refine r_op (o_lenv rfl rfl rfl) ?_
    refine r_op oB ?_
    refine r_end ?_
    refine t_cond rfl (fun h10 => ?_) (fun h10 => ?_)
    ·
     have h10' := of_decide_eq_true h10
     refine t_skip ?_
     refine t_seq ?_
     refine t_block ?_
     refine t_seq ?_
     refine t_draw (fun _ => true) (by kernel_rfl) ?_
     refine dT 0 rfl pM ?_
     refine dT 1 rfl pM ?_
     obtain ⟨z11, hz12⟩ := vw_get (xs := q) (n := (((m : Int)).toNat + ((j : Int)).toNat)) (by omega)
     refine dT 2 rfl (p_indexv (by kernel_rfl) rfl rfl (by omega) (by omega)) ?_
     refine dT 3 rfl (p_load1o (by kernel_rfl) rfl rfl rfl hz12) ?_
     refine dT 4 rfl pM ?_
     refine dT 5 rfl pM ?_
     refine dT 6 rfl pB ?_
     obtain ⟨z14, hz15⟩ := vw_get (xs := q) (n := (((m : Int)).toNat + (IntKind.i64.wrap ((j : Int) - 1)).toNat)) (by (simp only [IntKind.wrap_i64]; omega))
     refine dT 7 rfl (p_indexv (by kernel_rfl) rfl rfl (by (simp only [IntKind.wrap_i64]; omega)) (by (simp only [IntKind.wrap_i64]; omega))) ?_
     refine dT 8 rfl (p_load1o (by kernel_rfl) rfl rfl rfl hz15) ?_
     refine dT 9 rfl pB ?_
     refine d_end (by kernel_rfl) ?_
     refine t_cond rfl (fun h17 => ?_) (fun h17 => ?_)
     ·
      have h17' := of_decide_eq_true h17
      refine tsr ?_
      refine r_op oM ?_
      refine r_op oM ?_
      refine r_op oM ?_
      refine r_op oM ?_
      refine r_op (o_indexv rfl (by kernel_rfl) rfl rfl (by omega) (by omega)) ?_
      refine r_op (o_load1o rfl (by kernel_rfl) rfl rfl rfl hz12) ?_
      obtain ⟨z18, hz19, b20⟩ := at_get (xs := q) (n := (k : Int)) (by omega) (by omega)
      refine r_op (o_indexo rfl (by kernel_rfl) rfl rfl rfl b20 (at_lt b20 hz19)) ?_
      refine r_op (o_storeo (z11) (n := 1) (by kernel_rfl) rfl rfl hz19 rfl rfl rfl rfl (.cons .sc .nil) rfl (fun j h1 h2 => by (simp at h1 h2; omega))) ?_
      refine rtr ?_
      refine r_op oM ?_
      refine r_op oB ?_
      refine r_op oA ?_
      refine r_end ?_
      refine t_endblock ?_
      refine t_region ?_
      refine r_op oM ?_
      refine r_op oB ?_
      refine r_op oA ?_
      refine r_end ?_
      refine t_le ?_ (ih1 (j + 1, k + 1, (q).set ((k : Int)).toNat (z11)) (by (try dsimp only); omega) (by (try dsimp only); exact ⟨by omega, cmpK_more (j := m + j) (n := ((m : Int)).toNat + (IntKind.i64.wrap ((j : Int) - 1)).toNat) j1 (by assumption) (by assumption) (by simp only [IntKind.wrap_i64]; omega) (by omega)⟩))
      exact ⟨⟨rfl, ⟨(eqI (wr64 (by omega) (by omega))), ⟨rfl, ⟨(eqI (wr64 (by omega) (by omega))), trivial⟩⟩⟩⟩, ⟨rfl, trivial⟩, rfl⟩
     ·
      have h17' := of_decide_eq_false h17
      refine t_skip ?_
      refine t_endblock ?_
      refine t_region ?_
      refine r_op oM ?_
      refine r_op oB ?_
      refine r_op oA ?_
      refine r_end ?_
      refine t_le ?_ (ih1 (j + 1, k, q) (by (try dsimp only); omega) (by (try dsimp only); exact ⟨by omega, cmpK_same (j := m + j) (n := ((m : Int)).toNat + (IntKind.i64.wrap ((j : Int) - 1)).toNat) j1 (by assumption) (by assumption) (by simp only [IntKind.wrap_i64]; omega) (by omega)⟩))
      exact ⟨⟨rfl, ⟨rfl, ⟨rfl, ⟨(eqI (wr64 (by omega) (by omega))), trivial⟩⟩⟩⟩, ⟨rfl, trivial⟩, rfl⟩
    ·
     have h10' := of_decide_eq_false h10
     refine t_exit rfl ?_
     refine tsr ?_
     refine r_op oM ?_
     refine r_op oM ?_
     refine r_op (o_subvl rfl (by kernel_rfl) rfl rfl rfl (by omega) (by omega)) ?_
     refine r_op (o_clearv (0) rfl rfl Tryz.underlying34 (by kernel_rfl) rfl (.v rfl) (by omega) (by omega)) ?_
     refine etr ?_
     refine r_op oM ?_
     refine r_op oM ?_
     refine r_op (o_subvh rfl (by kernel_rfl) rfl rfl rfl (by omega) (by (simp only [List.length_append, List.length_take, List.length_replicate, List.length_drop]; omega)) (by (simp only [List.length_append, List.length_take, List.length_replicate, List.length_drop]; omega))) ?_
     refine r_op oA ?_
     refine r_end ?_
     refine gt_shrink 2 0 rfl rfl (by (simp only [List.length_append, List.length_take, List.length_replicate, List.length_drop]; omega)) (by (simp only [List.length_append, List.length_take, List.length_replicate, List.length_drop]; omega)) ?_
     refine t_ret Tryz.func125 (.tmp rfl .nil) rfl fun E S w u hI hd => ?_
     refine postM_mk hI hd ?_ ⟨eqR ?_, trivial⟩ rfl rfl <;> clear hI hd <;> (try clear ih0) <;> (try clear ih1)
     all_goals first | rfl | (rw [List.append_assoc]; exact cmpK_fin j1 (by omega))
   ·
    have h9' := of_decide_eq_false h9
    refine t_skip ?_
    refine t_endblock ?_
    refine t_region ?_
    refine r_op oM ?_
    refine r_op oB ?_
    refine r_op oA ?_
    refine r_end ?_
    refine t_le ?_ (ih0 (m + 1) (by (try dsimp only); omega) (by (try dsimp only); exact ⟨by omega, by omega, cmp_first i3 (by assumption) (by assumption) (by simp only [IntKind.wrap_i64]; omega) i1 (by omega)⟩))
    exact ⟨⟨rfl, ⟨(eqI (wr64 (by omega) (by omega))), trivial⟩⟩, ⟨rfl, trivial⟩, rfl⟩
  ·
   have h2' := of_decide_eq_false h2
   refine t_exit rfl ?_
   refine tsr ?_
   refine r_op oM ?_
   refine r_op oA ?_
   refine r_end ?_
   refine gt_unpin 0 rfl ?_
   refine t_ret Tryz.func125 (.tmp rfl .nil) rfl fun E S w u hI hd => ?_
   refine postM_mk hI hd ?_ ⟨eqR ?_, trivial⟩ rfl rfl <;> clear hI hd <;> (try clear ih0) <;> (try clear ih1)
   all_goals first | rfl | (rw [List.take_of_length_le (by omega)] at i3; exact i3.symm)
set_option maxHeartbeats 1000000 in
set_option maxRecDepth 10000 in
theorem c_impl_nullsOf (l : List Int) (hl : l.length ≤ 1048576) (ho : ∀ x ∈ l, okI x) : Pu Tryz.prog 95 [.c (.t none (.sl 1 encI (l)))] [(0, some (.row none 3 true 1 encI (setI (nulV l))))] 1 (.c (.own 0)) := by
 refine pu_enter Tryz.func95 rfl (Nat.le_of_ble_eq_true rfl) fun w S => ?_
 refine tsr ?_
 refine r_op oA ?_
 refine etr ?_
 refine r_op (o_lit0 0 (e := 3) (sz := 1) (zs := [.int .i64 (0)]) encI rfl rfl (by kernel_rfl) rfl) ?_
 refine r_op oA ?_
 refine r_end ?_
 refine t_seq ?_
 refine tsr ?_
 refine r_op oM ?_
 refine r_op (o_len rfl rfl rfl) ?_
 refine r_op oM ?_
 refine r_end ?_
 refine t_block ?_
 refine t_loopL (fun m => ⟨[(2, some (.c (.t none (.v (.slice none 0 0))))), (3, some (.c (.own 0))), (9, some (.c (.t none (.sl 1 encI (l))))), (10, some (.c (.t none (.v (.int .i64 (((l).length : Int))))))), (11, some (.c (.t none (.v (.int .i64 ((m : Int)))))))], [(0, some (.row none 3 true 1 encI (nulV (l.take m))))], 1⟩ : Nat → St) (fun m => m ≤ l.length) (fun m => l.length - m) 0 ⟨⟨rfl, ⟨rfl, ⟨rfl, ⟨rfl, ⟨rfl, trivial⟩⟩⟩⟩⟩, ⟨rfl, trivial⟩, rfl⟩ (by exact Nat.zero_le _) ?_
 rintro m hI ih0
 try dsimp only at hI ih0
 have i1 := hI; have q2 := nulV_part l m
 refine tsr ?_
 refine r_op oB ?_
 refine r_end ?_
 refine t_seq ?_
 refine t_cond rfl (fun h1 => ?_) (fun h1 => ?_)
 ·
  have h1' := of_decide_eq_true h1
  refine t_skip ?_
  refine t_seq ?_
  refine t_block ?_
  refine tsr ?_
  obtain ⟨z2, hz3, b4⟩ := at_get (xs := l) (n := (m : Int)) (by omega) (by omega)
  refine r_op (o_index rfl (by kernel_rfl) rfl rfl b4 hz3) ?_
  refine r_op (o_load1 rfl (by kernel_rfl) rfl rfl) ?_
  refine r_op oA ?_
  refine etr ?_
  refine r_op oM ?_
  refine r_op (o_call 1 1 false (Go.Proofs.enters_of Tryz.func143 (by kernel_rfl) rfl) (c_impl_NullNumber (z2) (by exact (ho _ (List.mem_of_getElem? (by assumption))).1) (by exact (ho _ (List.mem_of_getElem? (by assumption))).2)) rfl (.cons rfl (.c .t0) .nil) rfl rfl rfl) ?_
  refine r_op oM ?_
  refine r_op (o_extract rfl rfl rfl rfl) ?_
  refine r_op (o_extract rfl rfl rfl rfl) ?_
  refine r_op oA ?_
  refine r_op oA ?_
  refine etr ?_
  refine r_op oM ?_
  refine r_end ?_
  refine t_cond rfl (fun h5 => ?_) (fun h5 => ?_)
  ·
   have h5' := of_decide_eq_true h5
   refine t_region ?_
   refine r_op oM ?_
   refine r_op oM ?_
   refine r_op (o_litS 1 (e := 3) (sz := 1) (zs := [.int .i64 (0)]) rfl rfl (by kernel_rfl) rfl rfl rfl rfl rfl) ?_
   refine r_op (o_append 0 (e := 3) (sz := 1) (by' := 8) (if -40 ≤ (z2) ∧ (z2) ≤ -1 then -1 - (z2) else 0) rfl (by kernel_rfl) rfl rfl rfl rfl rfl rfl (.cons .sc .nil) rfl (by omega) (by omega)) ?_
   refine r_op oA ?_
   refine r_end ?_
   refine t_endblock ?_
   refine t_region ?_
   refine r_op oB ?_
   refine r_op oM ?_
   refine r_end ?_
   refine t_le ?_ (ih0 (m + 1) (by (try dsimp only); omega) (by (try dsimp only); omega))
   exact ⟨⟨rfl, ⟨rfl, ⟨rfl, ⟨rfl, ⟨(eqI (wr64 (by omega) (by omega))), trivial⟩⟩⟩⟩⟩, ⟨(eqR (by (rw [nulV_more (by assumption) (by assumption)]; done))), trivial⟩, rfl⟩
  ·
   have h5' := of_decide_eq_false h5
   refine t_skip ?_
   refine t_endblock ?_
   refine t_region ?_
   refine r_op oB ?_
   refine r_op oM ?_
   refine r_end ?_
   refine t_le ?_ (ih0 (m + 1) (by (try dsimp only); omega) (by (try dsimp only); omega))
   exact ⟨⟨rfl, ⟨rfl, ⟨rfl, ⟨rfl, ⟨(eqI (wr64 (by omega) (by omega))), trivial⟩⟩⟩⟩⟩, ⟨(eqR (by (rw [nulV_same (by assumption) (by assumption)]; done))), trivial⟩, rfl⟩
 ·
  have h1' := of_decide_eq_false h1
  refine t_exit rfl ?_
  refine tsr ?_
  refine r_op oM ?_
  refine r_op (o_callH [⟨0, none, 3, 1, _, encI, nulV (l.take m), sortI (nulV (l.take m))⟩] (Go.Proofs.enters_of Tryz.func124 (by kernel_rfl) rfl) (fun U => c_slices_Sort___int_int_ U 3 (nulV (l.take m)) (by omega)) rfl ⟨rfl, trivial⟩ rfl rfl (.cons rfl (.own rfl) .nil) rfl) ?_
  refine etr ?_
  refine r_op oM ?_
  refine r_op (o_callC 0 (l' := compactI (sortI (nulV (l.take m)))) (Go.Proofs.enters_of Tryz.func125 (by kernel_rfl) rfl) (fun U => c_slices_Compact___int_int_ U 3 (sortI (nulV (l.take m))) (by (rw [sortI_len]; omega))) rfl rfl (.cons rfl (.own rfl) .nil)) ?_
  refine r_op oA ?_
  refine r_end ?_
  refine t_ret Tryz.func95 (.tmp rfl .nil) rfl fun E S w u hI hd => ?_
  refine post_mk hI hd ?_ ⟨eqR ?_, trivial⟩ rfl rfl rfl <;> clear hI hd <;> (try clear ih0)
  all_goals first | rfl | ((rw [nulV_end (by omega), compact_sort]))
set_option maxHeartbeats 1000000 in
set_option maxRecDepth 10000 in
theorem c_impl_NullsOfFact (r : Int) (l : List Int) (hl : l.length ≤ 1048576) (ho : ∀ x ∈ l, okI x) : Pu Tryz.prog 100 [.agg [.t none (.v (.int .i64 (r))), .t none (.sl 1 encI (l))]] [(1, some (.row none 3 true 1 encI (setI (nulV l))))] 2 (.c (.own 1)) := by
 refine pu_enter Tryz.func100 rfl (Nat.le_of_ble_eq_true rfl) fun w S => ?_
 refine tsr ?_
 refine r_op (o_box 0 rfl rfl rfl rfl) ?_
 refine r_op oA ?_
 refine etr ?_
 refine r_op (oF 1) ?_
 refine r_op oL ?_
 refine r_op (o_call 1 2 false (Go.Proofs.enters_of Tryz.func95 (by kernel_rfl) rfl) (c_impl_nullsOf (l) (by omega) (by omega)) rfl (.cons rfl (.c .t0) .nil) rfl rfl rfl) ?_
 refine r_op oA ?_
 refine r_end ?_
 refine t_ret Tryz.func100 (.tmp rfl .nil) rfl fun E S w u hI hd => ?_
 refine post_mk hI hd ?_ ⟨eqR ?_, trivial⟩ rfl rfl rfl <;> clear hI hd
 all_goals (rfl)
set_option maxHeartbeats 1000000 in
set_option maxRecDepth 10000 in
theorem c_impl_IsValidInstance (rs : Rels) (l : Atoms) (hrs : rs.length ≤ 4611686018427387904) (hl : szS (fun (x : Int × (List (Int))) => (x.2).length) l ≤ 1048576) (ho : ∀ z ∈ l, ∀ x ∈ z.2, okI x) : Pu Tryz.prog 45 [.agg [.t none (.sl 3 (enS3 encS encI encB) (rs)), .t none (.sl 2 (enS2 encI (enSl 1 encI)) (l))]] [] 0 (.c (.t none (.v (.bool (instOk rs l))))) := by
 refine pu_enter Tryz.func45 rfl (Nat.le_of_ble_eq_true rfl) fun w S => ?_
 have gl := sz_len (f := (fun (x : Int × (List (Int))) => (x.2).length)) (l := l)
 refine tsr ?_
 refine r_op (o_box 0 rfl rfl rfl rfl) ?_
 refine r_op oA ?_
 refine r_end ?_
 refine t_seq ?_
 refine tsr ?_
 refine r_op (oF 0) ?_
 refine r_op oL ?_
 refine r_op (o_call 1 1 false (Go.Proofs.enters_of Tryz.func97 (by kernel_rfl) rfl) (c_impl_AreValidRelations (rs) (by omega)) rfl (.cons rfl (.c .t0) .nil) rfl rfl rfl) ?_
 refine r_op (o_not rfl rfl) ?_
 refine r_op oM ?_
 refine r_guard rfl rfl rfl (fun g1 => ?_) (fun g1 => ?_)
 ·
  have g1' := (bnf g1)
  refine r_op (oF 1) ?_
  refine r_guard rfl rfl rfl (fun _ => ?_) (ncf g1)
  refine r_op oL ?_
  refine r_guard rfl rfl rfl (fun _ => ?_) (ncf g1)
  refine r_op (o_len rfl rfl rfl) ?_
  refine r_guard rfl rfl rfl (fun _ => ?_) (ncf g1)
  refine r_op oB ?_
  refine r_op (o_pickF rfl rfl g1 rfl) ?_
  refine r_end ?_
  refine t_cond rfl (fun h2 => ?_) (fun h2 => ?_)
  ·
   have h2' := of_decide_eq_true h2
   refine tsr ?_
   refine r_op oA ?_
   refine r_end ?_
   refine t_ret Tryz.func45 (.tmp rfl .nil) rfl fun E S w u hI hd => ?_
   refine post_mk hI hd ?_ trivial rfl rfl rfl <;> clear hI hd <;> (try clear ih0)
   all_goals (refine scB ?_; (rw [instOk_no (by clear hl gl ho hrs; grind)]; done))
  ·
   have h2' := of_decide_eq_false h2
   refine t_skip ?_
   refine t_seq ?_
   refine tsr ?_
   refine r_op (oF 1) ?_
   refine r_op oL ?_
   refine r_op (o_len rfl rfl rfl) ?_
   refine r_op oM ?_
   refine r_end ?_
   refine t_block ?_
   refine t_loopL (fun m => ⟨[(1, some (.c (.ptr 0 0))), (16, some (.c (.t none (.sl 2 (enS2 encI (enSl 1 encI)) (l))))), (17, some (.c (.t none (.v (.int .i64 (((l).length : Int))))))), (18, some (.c (.t none (.v (.int .i64 ((m : Int)))))))], [(0, some (.box [.t none (.sl 3 (enS3 encS encI encB) (rs)), .t none (.sl 2 (enS2 encI (enSl 1 encI)) (l))]))], 1⟩ : Nat → St) (fun m => m ≤ l.length ∧ ∀ j, j < m → instStep rs l j = true) (fun m => l.length - m) 0 ⟨⟨rfl, ⟨rfl, ⟨rfl, ⟨rfl, trivial⟩⟩⟩⟩, ⟨rfl, trivial⟩, rfl⟩ (by exact ⟨Nat.zero_le _, fun j h => by omega⟩) ?_
   rintro m hI ih0
   try dsimp only at hI ih0
   obtain ⟨i1, i2⟩ := hI
   refine tsr ?_
   refine r_op oB ?_
   refine r_end ?_
   refine t_seq ?_
   refine t_cond rfl (fun h3 => ?_) (fun h3 => ?_)
   ·
    have h3' := of_decide_eq_true h3
    refine t_skip ?_
    refine t_seq ?_
    refine t_block ?_
    refine tsr ?_
    refine r_op oM ?_
    obtain ⟨z4, hz5, b6⟩ := at_get (xs := l) (n := (m : Int)) (by omega) (by omega)
    refine r_op (o_index rfl (by kernel_rfl) rfl rfl b6 hz5) ?_
    refine r_op (o_loadA rfl (n := 2) (by kernel_rfl) (by kernel_rfl) rfl rfl) ?_
    refine r_op (o_alloc 1 (zs := [.int .i64 (0), .slice none 0 0]) rfl rfl (by kernel_rfl) rfl) ?_
    refine r_op oA ?_
    refine r_op (oS 2) ?_
    refine r_end ?_
    refine t_seq ?_
    refine t_seq ?_
    refine t_draw (fun _ => true) (by kernel_rfl) ?_
    refine dT 0 rfl (pF 0) ?_
    refine dT 1 rfl pL ?_
    refine dT 2 rfl (pC 2) ?_
    refine dO 3 rfl (o_call 2 2 false (Go.Proofs.enters_of Tryz.func98 (by kernel_rfl) rfl) (c_impl_IsValidFact (rs) (z4.1) (z4.2) (by omega) (by (have e1 := sz_at (f := (fun (x : Int × (List (Int))) => (x.2).length)) (l := l) (m := m) (by assumption); (try dsimp only at e1); omega)) (by exact ho _ (List.mem_of_getElem? (by assumption)))) rfl (.cons rfl (.c .t0) (.cons rfl (.agg (.cons .t0 (.cons .t0 .nil))) .nil)) rfl rfl rfl) ?_
    refine dT 4 rfl (p_not rfl) ?_
    refine dT 5 rfl pM ?_
    refine dH 6 rfl (fun _ => pM) (fun g7 => ?_) (fun g7 => ?_)
    ·
     have g7' := (bnf g7)
     refine dH 7 rfl (fun _ => pB) (fun _ => ?_) (ncf g7)
     refine dH 8 rfl (fun _ => pM) (fun _ => ?_) (ncf g7)
     refine dH 9 rfl (fun _ => pF 1) (fun g8 => ?_) (fun g8 => ?_)
     ·
      have g8' := of_decide_eq_true g8
      refine dH 10 rfl (fun _ => pL) (fun _ => ?_) (nc g8)
      refine dH 11 rfl (fun _ => pM) (fun _ => ?_) (nc g8)
      refine dH 12 rfl (fun _ => pB) (fun _ => ?_) (nc g8)
      obtain ⟨z9, hz10, b11⟩ := at_get (xs := l) (n := IntKind.i64.wrap ((m : Int) - 1)) (by (simp only [IntKind.wrap_i64] at *; omega)) (by (simp only [IntKind.wrap_i64] at *; omega))
      refine dH 13 rfl (fun _ => p_index (by kernel_rfl) rfl rfl b11 hz10) (fun _ => ?_) (nc g8)
      refine dH 14 rfl (fun _ => p_loadA (n := 2) (by kernel_rfl) (by kernel_rfl) rfl rfl) (fun _ => ?_) (nc g8)
      refine dH 15 rfl (fun _ => pC 2) (fun _ => ?_) (nc g8)
      refine d_onlyG 16 rfl rfl (by kernel_rfl) rfl rfl rfl (fun _ => (o_call 2 2 false (Go.Proofs.enters_of Tryz.func99 (by kernel_rfl) rfl) (c_impl_CompareFacts (z9.1) (z9.2) (z4.1) (z4.2) (by (have e1 := sz_at (f := (fun (x : Int × (List (Int))) => (x.2).length)) (l := l) (m := (IntKind.i64.wrap ((m : Int) - 1)).toNat) (by assumption); (try dsimp only at e1); omega)) (by (have e1 := sz_at (f := (fun (x : Int × (List (Int))) => (x.2).length)) (l := l) (m := m) (by assumption); (try dsimp only at e1); omega))) rfl (.cons rfl (.agg (.cons .t0 (.cons .t0 .nil))) (.cons rfl (.agg (.cons .t0 (.cons .t0 .nil))) .nil)) rfl rfl rfl)) (fun _ => ?_) (nc g8)
      refine dH 17 rfl (fun _ => pB) (fun _ => ?_) (nc g8)
      refine dH 18 rfl (fun _ => p_pickT rfl g8 rfl) (fun _ => ?_) (ncf g7)
      refine dT 19 rfl (p_pickF rfl g7 rfl) ?_
      refine d_end (by kernel_rfl) ?_
      refine t_cond rfl (fun h12 => ?_) (fun h12 => ?_)
      ·
       have h12' := of_decide_eq_true h12
       refine tsr ?_
       refine r_op oA ?_
       refine r_end ?_
       refine t_ret Tryz.func45 (.tmp rfl .nil) rfl fun E S w u hI hd => ?_
       refine post_mk hI hd ?_ trivial rfl rfl rfl <;> clear hI hd <;> (try clear ih0)
       all_goals (refine scB ?_; (rw [instOk_not (rs := rs) (l := l) (m := m) (by omega) (by (try (have qb := instStep_bad (rs := rs) (l := l) (m := m) hz5 (by assumption))); (try (have qz := instStep_zero (rs := rs) (l := l) (m := m) hz5 (by omega))); (try (have qp := instStep_pos (rs := rs) (l := l) (m := m) hz5 (by omega) hz10 (by simp only [IntKind.wrap_i64]; omega))); (try (have qS := srcA_at (rs := rs) (r := z4.1) (ts := z4.2) hz10)); (try (have qT := srcA_at (rs := rs) (r := z4.1) (ts := z4.2) (by assumption))); clear hl gl ho hrs; grind)]; done))
      ·
       have h12' := of_decide_eq_false h12
       refine t_skip ?_
       refine tsr ?_
       refine r_op (oF 0) ?_
       refine r_op oL ?_
       refine r_op (oF 0) ?_
       refine r_op oL ?_
       obtain ⟨z13, hz14, b15⟩ := at_get (xs := rs) (n := z4.1) (by exact (fact_idx (by assumption)).1) (by exact (fact_idx (by assumption)).2)
       refine r_op (o_index rfl (by kernel_rfl) rfl rfl b15 hz14) ?_
       refine r_op (o_field rfl (off := 2) (by kernel_rfl) rfl) ?_
       refine r_op (o_load1 rfl (by kernel_rfl) rfl rfl) ?_
       refine r_op oM ?_
       refine r_guard rfl rfl rfl (fun g16 => ?_) (fun g16 => ?_)
       ·
        have g16' := g16
        refine r_op (oC 2) ?_
        refine r_guard rfl rfl rfl (fun _ => ?_) (nc g16)
        refine r_op (o_call 2 4 false (Go.Proofs.enters_of Tryz.func100 (by kernel_rfl) rfl) (c_impl_NullsOfFact (z4.1) (z4.2) (by (have e1 := sz_at (f := (fun (x : Int × (List (Int))) => (x.2).length)) (l := l) (m := m) (by assumption); (try dsimp only at e1); omega)) (by exact ho _ (List.mem_of_getElem? (by assumption)))) rfl (.cons rfl (.agg (.cons .t0 (.cons .t0 .nil))) .nil) rfl rfl rfl) ?_
        refine r_guard rfl rfl rfl (fun _ => ?_) (nc g16)
        refine r_op (o_leno rfl rfl rfl rfl) ?_
        refine r_guard rfl rfl rfl (fun _ => ?_) (nc g16)
        refine r_op oB ?_
        refine r_op (o_pickT rfl rfl g16 rfl) ?_
        refine r_end ?_
        refine t_cond rfl (fun h17 => ?_) (fun h17 => ?_)
        ·
         have h17' := of_decide_eq_true h17
         refine tsr ?_
         refine r_op oA ?_
         refine r_end ?_
         refine t_ret Tryz.func45 (.tmp rfl .nil) rfl fun E S w u hI hd => ?_
         refine post_mk hI hd ?_ trivial rfl rfl rfl <;> clear hI hd <;> (try clear ih0)
         all_goals (refine scB ?_; (rw [instOk_not (rs := rs) (l := l) (m := m) (by omega) (by (try (have qb := instStep_bad (rs := rs) (l := l) (m := m) hz5 (by assumption))); (try (have qz := instStep_zero (rs := rs) (l := l) (m := m) hz5 (by omega))); (try (have qp := instStep_pos (rs := rs) (l := l) (m := m) hz5 (by omega) hz10 (by simp only [IntKind.wrap_i64]; omega))); (try (have qS := srcA_at (rs := rs) (r := z4.1) (ts := z4.2) hz10)); (try (have qT := srcA_at (rs := rs) (r := z4.1) (ts := z4.2) hz14)); clear hl gl ho hrs; grind)]; done))
        ·
         have h17' := of_decide_eq_false h17
         refine t_skip ?_
         refine t_endblock ?_
         refine t_region ?_
         refine r_op oB ?_
         refine r_op oM ?_
         refine r_end ?_
         refine t_le ?_ (ih0 (m + 1) (by (try dsimp only); omega) (by (try dsimp only); exact ⟨by omega, step_all i2 (by (try (have qb := instStep_bad (rs := rs) (l := l) (m := m) hz5 (by assumption))); (try (have qz := instStep_zero (rs := rs) (l := l) (m := m) hz5 (by omega))); (try (have qp := instStep_pos (rs := rs) (l := l) (m := m) hz5 (by omega) hz10 (by simp only [IntKind.wrap_i64]; omega))); (try (have qS := srcA_at (rs := rs) (r := z4.1) (ts := z4.2) hz10)); (try (have qT := srcA_at (rs := rs) (r := z4.1) (ts := z4.2) hz14)); clear hl gl ho hrs; grind)⟩))
         exact ⟨⟨rfl, ⟨rfl, ⟨rfl, ⟨(eqI (wr64 (by omega) (by omega))), trivial⟩⟩⟩⟩, ⟨rfl, trivial⟩, rfl⟩
       ·
        have g16' := g16
        refine r_guard rfl rfl rfl (ncf g16) (fun _ => ?_)
        refine r_guard rfl rfl rfl (ncf g16) (fun _ => ?_)
        refine r_guard rfl rfl rfl (ncf g16) (fun _ => ?_)
        refine r_op (o_pickF rfl rfl g16 rfl) ?_
        refine r_end ?_
        refine t_cond rfl (ncf rfl) (fun _ => ?_)
        refine t_skip ?_
        refine t_endblock ?_
        refine t_region ?_
        refine r_op oB ?_
        refine r_op oM ?_
        refine r_end ?_
        refine t_le ?_ (ih0 (m + 1) (by (try dsimp only); omega) (by (try dsimp only); exact ⟨by omega, step_all i2 (by (try (have qb := instStep_bad (rs := rs) (l := l) (m := m) hz5 (by assumption))); (try (have qz := instStep_zero (rs := rs) (l := l) (m := m) hz5 (by omega))); (try (have qp := instStep_pos (rs := rs) (l := l) (m := m) hz5 (by omega) hz10 (by simp only [IntKind.wrap_i64]; omega))); (try (have qS := srcA_at (rs := rs) (r := z4.1) (ts := z4.2) hz10)); (try (have qT := srcA_at (rs := rs) (r := z4.1) (ts := z4.2) hz14)); clear hl gl ho hrs; grind)⟩))
        exact ⟨⟨rfl, ⟨rfl, ⟨rfl, ⟨(eqI (wr64 (by omega) (by omega))), trivial⟩⟩⟩⟩, ⟨rfl, trivial⟩, rfl⟩
     ·
      have g8' := of_decide_eq_false g8
      refine dG 10 (ncf g8) (fun _ => ?_)
      refine dG 11 (ncf g8) (fun _ => ?_)
      refine dG 12 (ncf g8) (fun _ => ?_)
      refine dG 13 (ncf g8) (fun _ => ?_)
      refine dG 14 (ncf g8) (fun _ => ?_)
      refine dG 15 (ncf g8) (fun _ => ?_)
      refine dG 16 (ncf g8) (fun _ => ?_)
      refine dG 17 (ncf g8) (fun _ => ?_)
      refine dH 18 rfl (fun _ => p_pickF rfl g8 rfl) (fun _ => ?_) (ncf g7)
      refine dT 19 rfl (p_pickF rfl g7 rfl) ?_
      refine d_end (by kernel_rfl) ?_
      refine t_cond rfl (ncf rfl) (fun _ => ?_)
      refine t_skip ?_
      refine tsr ?_
      refine r_op (oF 0) ?_
      refine r_op oL ?_
      refine r_op (oF 0) ?_
      refine r_op oL ?_
      obtain ⟨z18, hz19, b20⟩ := at_get (xs := rs) (n := z4.1) (by exact (fact_idx (by assumption)).1) (by exact (fact_idx (by assumption)).2)
      refine r_op (o_index rfl (by kernel_rfl) rfl rfl b20 hz19) ?_
      refine r_op (o_field rfl (off := 2) (by kernel_rfl) rfl) ?_
      refine r_op (o_load1 rfl (by kernel_rfl) rfl rfl) ?_
      refine r_op oM ?_
      refine r_guard rfl rfl rfl (fun g21 => ?_) (fun g21 => ?_)
      ·
       have g21' := g21
       refine r_op (oC 2) ?_
       refine r_guard rfl rfl rfl (fun _ => ?_) (nc g21)
       refine r_op (o_call 2 4 false (Go.Proofs.enters_of Tryz.func100 (by kernel_rfl) rfl) (c_impl_NullsOfFact (z4.1) (z4.2) (by (have e1 := sz_at (f := (fun (x : Int × (List (Int))) => (x.2).length)) (l := l) (m := m) (by assumption); (try dsimp only at e1); omega)) (by exact ho _ (List.mem_of_getElem? (by assumption)))) rfl (.cons rfl (.agg (.cons .t0 (.cons .t0 .nil))) .nil) rfl rfl rfl) ?_
       refine r_guard rfl rfl rfl (fun _ => ?_) (nc g21)
       refine r_op (o_leno rfl rfl rfl rfl) ?_
       refine r_guard rfl rfl rfl (fun _ => ?_) (nc g21)
       refine r_op oB ?_
       refine r_op (o_pickT rfl rfl g21 rfl) ?_
       refine r_end ?_
       refine t_cond rfl (fun h22 => ?_) (fun h22 => ?_)
       ·
        have h22' := of_decide_eq_true h22
        refine tsr ?_
        refine r_op oA ?_
        refine r_end ?_
        refine t_ret Tryz.func45 (.tmp rfl .nil) rfl fun E S w u hI hd => ?_
        refine post_mk hI hd ?_ trivial rfl rfl rfl <;> clear hI hd <;> (try clear ih0)
        all_goals (refine scB ?_; (rw [instOk_not (rs := rs) (l := l) (m := m) (by omega) (by (try (have qb := instStep_bad (rs := rs) (l := l) (m := m) hz5 (by assumption))); (try (have qz := instStep_zero (rs := rs) (l := l) (m := m) hz5 (by omega))); (try (have qp := instStep_pos (rs := rs) (l := l) (m := m) hz5 (by omega) hz19 (by simp only [IntKind.wrap_i64]; omega))); (try (have qS := srcA_at (rs := rs) (r := z4.1) (ts := z4.2) hz19)); (try (have qT := srcA_at (rs := rs) (r := z4.1) (ts := z4.2) (by assumption))); clear hl gl ho hrs; grind)]; done))
       ·
        have h22' := of_decide_eq_false h22
        refine t_skip ?_
        refine t_endblock ?_
        refine t_region ?_
        refine r_op oB ?_
        refine r_op oM ?_
        refine r_end ?_
        refine t_le ?_ (ih0 (m + 1) (by (try dsimp only); omega) (by (try dsimp only); exact ⟨by omega, step_all i2 (by (try (have qb := instStep_bad (rs := rs) (l := l) (m := m) hz5 (by assumption))); (try (have qz := instStep_zero (rs := rs) (l := l) (m := m) hz5 (by omega))); (try (have qp := instStep_pos (rs := rs) (l := l) (m := m) hz5 (by omega) hz19 (by simp only [IntKind.wrap_i64]; omega))); (try (have qS := srcA_at (rs := rs) (r := z4.1) (ts := z4.2) hz19)); (try (have qT := srcA_at (rs := rs) (r := z4.1) (ts := z4.2) (by assumption))); clear hl gl ho hrs; grind)⟩))
        exact ⟨⟨rfl, ⟨rfl, ⟨rfl, ⟨(eqI (wr64 (by omega) (by omega))), trivial⟩⟩⟩⟩, ⟨rfl, trivial⟩, rfl⟩
      ·
       have g21' := g21
       refine r_guard rfl rfl rfl (ncf g21) (fun _ => ?_)
       refine r_guard rfl rfl rfl (ncf g21) (fun _ => ?_)
       refine r_guard rfl rfl rfl (ncf g21) (fun _ => ?_)
       refine r_op (o_pickF rfl rfl g21 rfl) ?_
       refine r_end ?_
       refine t_cond rfl (ncf rfl) (fun _ => ?_)
       refine t_skip ?_
       refine t_endblock ?_
       refine t_region ?_
       refine r_op oB ?_
       refine r_op oM ?_
       refine r_end ?_
       refine t_le ?_ (ih0 (m + 1) (by (try dsimp only); omega) (by (try dsimp only); exact ⟨by omega, step_all i2 (by (try (have qb := instStep_bad (rs := rs) (l := l) (m := m) hz5 (by assumption))); (try (have qz := instStep_zero (rs := rs) (l := l) (m := m) hz5 (by omega))); (try (have qp := instStep_pos (rs := rs) (l := l) (m := m) hz5 (by omega) hz19 (by simp only [IntKind.wrap_i64]; omega))); (try (have qS := srcA_at (rs := rs) (r := z4.1) (ts := z4.2) hz19)); (try (have qT := srcA_at (rs := rs) (r := z4.1) (ts := z4.2) (by assumption))); clear hl gl ho hrs; grind)⟩))
       exact ⟨⟨rfl, ⟨rfl, ⟨rfl, ⟨(eqI (wr64 (by omega) (by omega))), trivial⟩⟩⟩⟩, ⟨rfl, trivial⟩, rfl⟩
    ·
     have g7' := (bnt g7)
     refine dG 7 (nc g7) (fun _ => ?_)
     refine dG 8 (nc g7) (fun _ => ?_)
     refine dK 9 ?_
     refine dK 10 ?_
     refine dK 11 ?_
     refine dK 12 ?_
     refine dK 13 ?_
     refine dK 14 ?_
     refine dK 15 ?_
     refine dK 16 ?_
     refine dK 17 ?_
     refine dG 18 (nc g7) (fun _ => ?_)
     refine dT 19 rfl (p_pickT rfl g7 rfl) ?_
     refine d_end (by kernel_rfl) ?_
     refine t_cond rfl (fun _ => ?_) (nc rfl)
     refine tsr ?_
     refine r_op oA ?_
     refine r_end ?_
     refine t_ret Tryz.func45 (.tmp rfl .nil) rfl fun E S w u hI hd => ?_
     refine post_mk hI hd ?_ trivial rfl rfl rfl <;> clear hI hd <;> (try clear ih0)
     all_goals (refine scB ?_; (rw [instOk_not (rs := rs) (l := l) (m := m) (by omega) (by (try (have qb := instStep_bad (rs := rs) (l := l) (m := m) hz5 (by assumption))); (try (have qz := instStep_zero (rs := rs) (l := l) (m := m) hz5 (by omega))); (try (have qp := instStep_pos (rs := rs) (l := l) (m := m) hz5 (by omega) (by assumption) (by simp only [IntKind.wrap_i64]; omega))); (try (have qS := srcA_at (rs := rs) (r := z4.1) (ts := z4.2) (by assumption))); (try (have qT := srcA_at (rs := rs) (r := z4.1) (ts := z4.2) (by assumption))); clear hl gl ho hrs; grind)]; done))
   ·
    have h3' := of_decide_eq_false h3
    refine t_exit rfl ?_
    refine tsr ?_
    refine r_op oA ?_
    refine r_end ?_
    refine t_ret Tryz.func45 (.tmp rfl .nil) rfl fun E S w u hI hd => ?_
    refine post_mk hI hd ?_ trivial rfl rfl rfl <;> clear hI hd <;> (try clear ih0)
    all_goals (refine scB ?_; (rw [instOk_end (m := m) i2 (by omega)]; clear hl gl ho hrs; grind))
 ·
  have g1' := (bnt g1)
  refine r_guard rfl rfl rfl (nc g1) (fun _ => ?_)
  refine r_guard rfl rfl rfl (nc g1) (fun _ => ?_)
  refine r_guard rfl rfl rfl (nc g1) (fun _ => ?_)
  refine r_op (o_pickT rfl rfl g1 rfl) ?_
  refine r_end ?_
  refine t_cond rfl (fun _ => ?_) (nc rfl)
  refine tsr ?_
  refine r_op oA ?_
  refine r_end ?_
  refine t_ret Tryz.func45 (.tmp rfl .nil) rfl fun E S w u hI hd => ?_
  refine post_mk hI hd ?_ trivial rfl rfl rfl <;> clear hI hd <;> (try clear ih0)
  all_goals (refine scB ?_; (rw [instOk_no (by clear hl gl ho hrs; grind)]; done))
set_option maxHeartbeats 1000000 in
set_option maxRecDepth 10000 in
theorem c_impl_IsValidAtom_1 (t : Int) : Pu Tryz.prog 183 [.c (.t none (.v (.int .i64 (t))))] [] 0 (.c (.t none (.v (.bool (!(termOk t)))))) := by
 refine pu_enter Tryz.func183 rfl (Nat.le_of_ble_eq_true rfl) fun w S => ?_
 refine tsr ?_
 refine r_op oA ?_
 refine etr ?_
 refine r_op oM ?_
 refine r_op (o_call 0 0 false (Go.Proofs.enters_of Tryz.func117 (by kernel_rfl) rfl) (c_impl_within (t) (-10) (4)) rfl (.cons rfl (.c .t0) (.cons rfl (.c .t0) (.cons rfl (.c .t0) .nil))) rfl rfl rfl) ?_
 refine r_op (o_not rfl rfl) ?_
 refine r_op oA ?_
 refine r_end ?_
 refine t_ret Tryz.func183 (.tmp rfl .nil) rfl fun E S w u hI hd => ?_
 refine post_mk hI hd ?_ trivial rfl rfl rfl <;> clear hI hd
 all_goals (rfl)
set_option maxHeartbeats 1000000 in
set_option maxRecDepth 10000 in
theorem c_impl_IsValidAtom (rs : List (List UInt8 × Int × Bool)) (r : Int) (ts : List Int) (hrs : rs.length ≤ 4611686018427387904) (hts : ts.length ≤ 4611686018427387904) : Pu Tryz.prog 164 [.c (.t none (.sl 3 (enS3 encS encI encB) (rs))), .agg [.t none (.v (.int .i64 (r))), .t none (.sl 1 encI (ts))]] [] 0 (.c (.t none (.v (.bool (atomOk rs r ts))))) := by
 refine pu_enter Tryz.func164 rfl (Nat.le_of_ble_eq_true rfl) fun w S => ?_
 refine tsr ?_
 refine r_op (o_box 0 rfl rfl rfl rfl) ?_
 refine r_op oA ?_
 refine r_end ?_
 refine t_seq ?_
 refine t_seq ?_
 refine t_draw (fun _ => true) (by kernel_rfl) ?_
 refine dT 0 rfl pM ?_
 refine dO 1 rfl (o_call 1 1 false (Go.Proofs.enters_of Tryz.func97 (by kernel_rfl) rfl) (c_impl_AreValidRelations (rs) (by omega)) rfl (.cons rfl (.c .t0) .nil) rfl rfl rfl) ?_
 refine dT 2 rfl (p_not rfl) ?_
 refine dT 3 rfl pM ?_
 refine dH 4 rfl (fun _ => pF 0) (fun g1 => ?_) (fun g1 => ?_)
 ·
  have g1' := (bnf g1)
  refine dH 5 rfl (fun _ => pL) (fun _ => ?_) (ncf g1)
  refine dH 6 rfl (fun _ => pM) (fun _ => ?_) (ncf g1)
  refine dH 7 rfl (fun _ => p_len rfl rfl) (fun _ => ?_) (ncf g1)
  refine dH 8 rfl (fun _ => pB) (fun _ => ?_) (ncf g1)
  refine d_onlyG 9 rfl rfl (by kernel_rfl) rfl rfl rfl (fun _ => (o_call 1 1 false (Go.Proofs.enters_of Tryz.func117 (by kernel_rfl) rfl) (c_impl_within (r) (0) (IntKind.i64.wrap (((rs).length : Int) - 1))) rfl (.cons rfl (.c .t0) (.cons rfl (.c .t0) (.cons rfl (.c .t0) .nil))) rfl rfl rfl)) (fun _ => ?_) (ncf g1)
  refine dH 10 rfl (fun _ => p_not rfl) (fun _ => ?_) (ncf g1)
  refine dT 11 rfl (p_pickF rfl g1 rfl) ?_
  refine dT 12 rfl pM ?_
  refine dH 13 rfl (fun _ => pF 1) (fun g2 => ?_) (fun g2 => ?_)
  ·
   have g2' := of_decide_eq_true (bnf g2)
   refine dH 14 rfl (fun _ => pL) (fun _ => ?_) (ncf g2)
   refine dH 15 rfl (fun _ => p_len rfl rfl) (fun _ => ?_) (ncf g2)
   refine dH 16 rfl (fun _ => pM) (fun _ => ?_) (ncf g2)
   refine dH 17 rfl (fun _ => pF 0) (fun _ => ?_) (ncf g2)
   refine dH 18 rfl (fun _ => pL) (fun _ => ?_) (ncf g2)
   obtain ⟨z3, hz4, b5⟩ := at_get (xs := rs) (n := r) (by omega) (by (simp only [IntKind.wrap_i64] at *; omega))
   refine dH 19 rfl (fun _ => p_index (by kernel_rfl) rfl rfl b5 hz4) (fun _ => ?_) (ncf g2)
   refine dH 20 rfl (fun _ => p_field (off := 1) (by kernel_rfl) rfl) (fun _ => ?_) (ncf g2)
   refine dH 21 rfl (fun _ => p_load1 (by kernel_rfl) rfl rfl) (fun _ => ?_) (ncf g2)
   refine dH 22 rfl (fun _ => pB) (fun _ => ?_) (ncf g2)
   refine dT 23 rfl (p_pickF rfl g2 rfl) ?_
   refine d_end (by kernel_rfl) ?_
   refine t_cond rfl (fun h6 => ?_) (fun h6 => ?_)
   ·
    have h6' := of_decide_eq_true h6
    refine tsr ?_
    refine r_op oA ?_
    refine r_end ?_
    refine t_ret Tryz.func164 (.tmp rfl .nil) rfl fun E S w u hI hd => ?_
    refine post_mk hI hd ?_ trivial rfl rfl rfl <;> clear hI hd
    all_goals (refine scB ?_; (rw [atom_no3 (by assumption) (by assumption)]; done))
   ·
    have h6' := of_decide_eq_false h6
    refine t_skip ?_
    refine tsr ?_
    refine r_op (oF 1) ?_
    refine r_op oL ?_
    refine r_op (o_call 1 1 false (Go.Proofs.enters_of Tryz.func152 (by kernel_rfl) rfl) (c_slices_ContainsFunc___int_int_ (ts) (183) ([]) (fun (x0 : Int) => !(termOk (x0))) (by omega) (fun x0 mx0 => ⟨Go.Proofs.enters_of Tryz.func183 (by kernel_rfl) rfl, c_impl_IsValidAtom_1 (x0)⟩)) rfl (.cons rfl (.c .t0) (.cons rfl (.c (.clo .nil)) .nil)) rfl rfl rfl) ?_
    refine r_op (o_not rfl rfl) ?_
    refine r_op oA ?_
    refine r_end ?_
    refine t_ret Tryz.func164 (.tmp rfl .nil) rfl fun E S w u hI hd => ?_
    refine post_mk hI hd ?_ trivial rfl rfl rfl <;> clear hI hd
    all_goals (refine scB ?_; (rw [atom_yes (by assumption) (by simp only [IntKind.wrap_i64] at *; omega) (by assumption) (by omega)]; done))
  ·
   have g2' := of_decide_eq_false (bnt g2)
   refine dG 14 (nc g2) (fun _ => ?_)
   refine dG 15 (nc g2) (fun _ => ?_)
   refine dG 16 (nc g2) (fun _ => ?_)
   refine dG 17 (nc g2) (fun _ => ?_)
   refine dG 18 (nc g2) (fun _ => ?_)
   refine dG 19 (nc g2) (fun _ => ?_)
   refine dG 20 (nc g2) (fun _ => ?_)
   refine dG 21 (nc g2) (fun _ => ?_)
   refine dG 22 (nc g2) (fun _ => ?_)
   refine dT 23 rfl (p_pickT rfl g2 rfl) ?_
   refine d_end (by kernel_rfl) ?_
   refine t_cond rfl (fun _ => ?_) (nc rfl)
   refine tsr ?_
   refine r_op oA ?_
   refine r_end ?_
   refine t_ret Tryz.func164 (.tmp rfl .nil) rfl fun E S w u hI hd => ?_
   refine post_mk hI hd ?_ trivial rfl rfl rfl <;> clear hI hd
   all_goals (refine scB ?_; (rw [atom_no2 (by simp only [IntKind.wrap_i64] at *; omega)]; done))
 ·
  have g1' := (bnt g1)
  refine dG 5 (nc g1) (fun _ => ?_)
  refine dG 6 (nc g1) (fun _ => ?_)
  refine dG 7 (nc g1) (fun _ => ?_)
  refine dG 8 (nc g1) (fun _ => ?_)
  refine dG 9 (nc g1) (fun _ => ?_)
  refine dG 10 (nc g1) (fun _ => ?_)
  refine dT 11 rfl (p_pickT rfl g1 rfl) ?_
  refine dT 12 rfl pM ?_
  refine dG 13 (nc rfl) (fun _ => ?_)
  refine dG 14 (nc rfl) (fun _ => ?_)
  refine dG 15 (nc rfl) (fun _ => ?_)
  refine dG 16 (nc rfl) (fun _ => ?_)
  refine dG 17 (nc rfl) (fun _ => ?_)
  refine dG 18 (nc rfl) (fun _ => ?_)
  refine dG 19 (nc rfl) (fun _ => ?_)
  refine dG 20 (nc rfl) (fun _ => ?_)
  refine dG 21 (nc rfl) (fun _ => ?_)
  refine dG 22 (nc rfl) (fun _ => ?_)
  refine dT 23 rfl (p_pickT rfl rfl rfl) ?_
  refine d_end (by kernel_rfl) ?_
  refine t_cond rfl (fun _ => ?_) (nc rfl)
  refine tsr ?_
  refine r_op oA ?_
  refine r_end ?_
  refine t_ret Tryz.func164 (.tmp rfl .nil) rfl fun E S w u hI hd => ?_
  refine post_mk hI hd ?_ trivial rfl rfl rfl <;> clear hI hd
  all_goals (refine scB ?_; (rw [atom_no1 (by assumption)]; done))
set_option maxHeartbeats 1000000 in
set_option maxRecDepth 10000 in
theorem c_impl_areAtoms_1 (r : Int) (ts : List Int) (rs : Rels) (hrs : rs.length ≤ 4611686018427387904) (hts : ts.length ≤ 4611686018427387904) : Pu Tryz.prog 163 [.agg [.t none (.v (.int .i64 (r))), .t none (.sl 1 encI (ts))], .c (.pel none ((enSl 3 (enS3 encS encI encB)) (rs)) 1)] [] 0 (.c (.t none (.v (.bool (badA rs (r, ts)))))) := by
 refine pu_enter Tryz.func163 rfl (Nat.le_of_ble_eq_true rfl) fun w S => ?_
 refine tsr ?_
 refine r_op (o_box 0 rfl rfl rfl rfl) ?_
 refine r_op oA ?_
 refine etr ?_
 refine r_op (o_load1 rfl (by kernel_rfl) rfl rfl) ?_
 refine r_op (oC 2) ?_
 refine r_op (o_call 1 1 false (Go.Proofs.enters_of Tryz.func164 (by kernel_rfl) rfl) (c_impl_IsValidAtom (rs) (r) (ts) (by omega) (by omega)) rfl (.cons rfl (.c .t0) (.cons rfl (.agg (.cons .t0 (.cons .t0 .nil))) .nil)) rfl rfl rfl) ?_
 refine r_op (o_not rfl rfl) ?_
 refine r_op oA ?_
 refine r_end ?_
 refine t_ret Tryz.func163 (.tmp rfl .nil) rfl fun E S w u hI hd => ?_
 refine post_mk hI hd ?_ trivial rfl rfl rfl <;> clear hI hd
 all_goals (rfl)
set_option maxHeartbeats 1000000 in
set_option maxRecDepth 10000 in
theorem c_slices_IndexFunc___impl_Atom_impl_Atom_ (l : List (Int × (List (Int)))) (f : Nat) (cs : List ((Nat → T) × Nat)) (p : Int × (List (Int)) → Bool) (hl : l.length ≤ 9223372036854775807) (hf : ∀ x ∈ l, Fu Tryz.prog f ([.agg [.t none (.v (.int .i64 (x.1))), .t none (.sl 1 encI (x.2))]] ++ pels cs) (.c (.t none (.v (.bool (p x)))))) : Pu Tryz.prog 167 [.c (.t none (.sl 2 (enS2 encI (enSl 1 encI)) (l))), .c (.fv f cs)] [] 0 (.c (.t none (.v (.int .i64 (idxI p l))))) := by
 refine pu_enter Tryz.func167 rfl (Nat.le_of_ble_eq_true rfl) fun w S => ?_
 refine tsr ?_
 refine r_op oA ?_
 refine r_end ?_
 refine t_seq ?_
 refine tsr ?_
 refine r_op oM ?_
 refine r_op (o_len rfl rfl rfl) ?_
 refine r_op oM ?_
 refine r_end ?_
 refine t_block ?_
 refine t_loopL (fun m => ⟨[(0, some (.c (.t none (.sl 2 (enS2 encI (enSl 1 encI)) (l))))), (1, some (.c (.fv f cs))), (7, some (.c (.t none (.v (.int .i64 (((l).length : Int))))))), (8, some (.c (.t none (.v (.int .i64 ((m : Int)))))))], [], 0⟩ : Nat → St) (fun m => m ≤ l.length ∧ ∀ j z, j < m → l[j]? = some z → p z = false) (fun m => l.length - m) 0 ⟨⟨rfl, ⟨rfl, ⟨rfl, ⟨rfl, trivial⟩⟩⟩⟩, trivial, rfl⟩ (by exact ⟨Nat.zero_le _, fun j z h => by omega⟩) ?_
 rintro m hI ih0
 try dsimp only at hI ih0
 obtain ⟨i1, i2⟩ := hI
 refine tsr ?_
 refine r_op oB ?_
 refine r_end ?_
 refine t_seq ?_
 refine t_cond rfl (fun h1 => ?_) (fun h1 => ?_)
 ·
  have h1' := of_decide_eq_true h1
  refine t_skip ?_
  refine t_seq ?_
  refine t_block ?_
  refine tsr ?_
  refine r_op oM ?_
  refine r_op oA ?_
  refine etr ?_
  refine r_op oM ?_
  refine r_op oM ?_
  refine r_op oM ?_
  obtain ⟨z2, hz3, b4⟩ := at_get (xs := l) (n := (m : Int)) (by omega) (by omega)
  refine r_op (o_index rfl (by kernel_rfl) rfl rfl b4 hz3) ?_
  refine r_op (o_loadA rfl (n := 2) (by kernel_rfl) (by kernel_rfl) rfl rfl) ?_
  refine r_op (o_callv 0 0 false (hf z2 (List.mem_of_getElem? (by assumption))).1 (hf z2 (List.mem_of_getElem? (by assumption))).2 rfl rfl (.c .fv) (.cons rfl (.agg (.cons .t0 (.cons .t0 .nil))) .nil) rfl rfl rfl) ?_
  refine r_end ?_
  refine t_cond rfl (fun h5 => ?_) (fun h5 => ?_)
  ·
   have h5' := h5
   refine tsr ?_
   refine r_op oM ?_
   refine r_op oA ?_
   refine r_end ?_
   refine t_ret Tryz.func167 (.tmp rfl .nil) rfl fun E S w u hI hd => ?_
   refine post_mk hI hd ?_ trivial rfl rfl rfl <;> clear hI hd <;> (try clear ih0)
   all_goals (rw [idx_hit i2 (by assumption) (by assumption)])
  ·
   have h5' := h5
   refine t_skip ?_
   refine t_endblock ?_
   refine t_region ?_
   refine r_op oB ?_
   refine r_op oM ?_
   refine r_end ?_
   refine t_le ?_ (ih0 (m + 1) (by (try dsimp only); omega) (by (try dsimp only); exact ⟨by omega, no_step i2 (by assumption) rfl (by assumption)⟩))
   exact ⟨⟨rfl, ⟨rfl, ⟨rfl, ⟨(eqI (wr64 (by omega) (by omega))), trivial⟩⟩⟩⟩, trivial, rfl⟩
 ·
  have h1' := of_decide_eq_false h1
  refine t_exit rfl ?_
  refine tsr ?_
  refine r_op oA ?_
  refine r_end ?_
  refine t_ret Tryz.func167 (.tmp rfl .nil) rfl fun E S w u hI hd => ?_
  refine post_mk hI hd ?_ trivial rfl rfl rfl <;> clear hI hd <;> (try clear ih0)
  all_goals (rw [idx_none i2 (by omega)])
set_option maxHeartbeats 1000000 in
set_option maxRecDepth 10000 in
theorem c_slices_ContainsFunc___impl_Atom_impl_Atom_ (l : List (Int × (List (Int)))) (f : Nat) (cs : List ((Nat → T) × Nat)) (p : Int × (List (Int)) → Bool) (hl : l.length ≤ 9223372036854775807) (hf : ∀ x ∈ l, Fu Tryz.prog f ([.agg [.t none (.v (.int .i64 (x.1))), .t none (.sl 1 encI (x.2))]] ++ pels cs) (.c (.t none (.v (.bool (p x)))))) : Pu Tryz.prog 122 [.c (.t none (.sl 2 (enS2 encI (enSl 1 encI)) (l))), .c (.fv f cs)] [] 0 (.c (.t none (.v (.bool (l.any p))))) := by
 refine pu_enter Tryz.func122 rfl (Nat.le_of_ble_eq_true rfl) fun w S => ?_
 refine tsr ?_
 refine r_op oA ?_
 refine etr ?_
 refine r_op oM ?_
 refine r_op oM ?_
 refine r_op (o_call 0 0 false (Go.Proofs.enters_of Tryz.func167 (by kernel_rfl) rfl) (c_slices_IndexFunc___impl_Atom_impl_Atom_ (l) (f) (cs) (p) (by omega) (hf)) rfl (.cons rfl (.c .t0) (.cons rfl (.c .fv) .nil)) rfl rfl rfl) ?_
 refine r_op oB ?_
 refine r_op oA ?_
 refine r_end ?_
 refine t_ret Tryz.func122 (.tmp rfl .nil) rfl fun E S w u hI hd => ?_
 refine post_mk hI hd ?_ trivial rfl rfl rfl <;> clear hI hd
 all_goals (exact scB idx_any)
set_option maxHeartbeats 1000000 in
set_option maxRecDepth 10000 in
theorem c_impl_areAtoms (rs : Rels) (l : Atoms) (k : Int) (hrs : rs.length ≤ 4611686018427387904) (hs : szS (fun (x : Int × (List (Int))) => (x.2).length) l ≤ 1048576) : Pu Tryz.prog 109 [.c (.t none (.sl 3 (enS3 encS encI encB) (rs))), .c (.t none (.sl 2 (enS2 encI (enSl 1 encI)) (l))), .c (.t none (.v (.int .i64 (k))))] [] 0 (.c (.t none (.v (.bool (atomsOk rs l k))))) := by
 refine pu_enter Tryz.func109 rfl (Nat.le_of_ble_eq_true rfl) fun w S => ?_
 have gl := sz_len (f := (fun (x : Int × (List (Int))) => (x.2).length)) (l := l)
 refine tsr ?_
 refine r_op (o_box 0 rfl rfl rfl rfl) ?_
 refine r_op oA ?_
 refine etr ?_
 refine r_op oM ?_
 refine r_op (o_len rfl rfl rfl) ?_
 refine r_op oM ?_
 refine r_op (o_call 1 1 false (Go.Proofs.enters_of Tryz.func117 (by kernel_rfl) rfl) (c_impl_within (((l).length : Int)) (1) (k)) rfl (.cons rfl (.c .t0) (.cons rfl (.c .t0) (.cons rfl (.c .t0) .nil))) rfl rfl rfl) ?_
 refine r_op oM ?_
 refine r_guard rfl rfl rfl (fun g1 => ?_) (fun g1 => ?_)
 ·
  have g1' := of_decide_eq_true g1
  refine r_op oM ?_
  refine r_guard rfl rfl rfl (fun _ => ?_) (nc g1)
  refine r_op (o_makeFunc rfl (.cons rfl .nil)) ?_
  refine r_guard rfl rfl rfl (fun _ => ?_) (nc g1)
  refine r_op (o_call 1 1 false (Go.Proofs.enters_of Tryz.func122 (by kernel_rfl) rfl) (c_slices_ContainsFunc___impl_Atom_impl_Atom_ (l) (163) ([((enSl 3 (enS3 encS encI encB)) (rs), 1)]) (fun (x0 : Int × (List (Int))) => badA (rs) ((x0.1), (x0.2))) (by omega) (fun x0 mx0 => ⟨Go.Proofs.enters_of Tryz.func163 (by kernel_rfl) rfl, c_impl_areAtoms_1 (x0.1) (x0.2) (rs) (by omega) (by (have e1 := sz_mem (f := (fun (x : Int × (List (Int))) => (x.2).length)) (l := l) (by assumption); (try dsimp only at e1); omega))⟩)) rfl (.cons rfl (.c .t0) (.cons rfl (.c (.clo (.cons rfl rfl rfl (.cons .t .nil) .nil))) .nil)) rfl rfl rfl) ?_
  refine r_guard rfl rfl rfl (fun _ => ?_) (nc g1)
  refine r_op (o_not rfl rfl) ?_
  refine r_op (o_pickT rfl rfl g1 rfl) ?_
  refine r_op oA ?_
  refine r_end ?_
  refine t_ret Tryz.func109 (.tmp rfl .nil) rfl fun E S w u hI hd => ?_
  refine post_mk hI hd ?_ trivial rfl rfl rfl <;> clear hI hd
  all_goals (refine scB ?_; unfold atomsOk; (rw [decide_eq_true (by assumption)]; rfl))
 ·
  have g1' := of_decide_eq_false g1
  refine r_guard rfl rfl rfl (ncf g1) (fun _ => ?_)
  refine r_guard rfl rfl rfl (ncf g1) (fun _ => ?_)
  refine r_guard rfl rfl rfl (ncf g1) (fun _ => ?_)
  refine r_op (o_pickF rfl rfl g1 rfl) ?_
  refine r_op oA ?_
  refine r_end ?_
  refine t_ret Tryz.func109 (.tmp rfl .nil) rfl fun E S w u hI hd => ?_
  refine post_mk hI hd ?_ trivial rfl rfl rfl <;> clear hI hd
  all_goals (refine scB ?_; unfold atomsOk; (rw [decide_eq_false (by assumption)]; rfl))
set_option maxHeartbeats 1000000 in
set_option maxRecDepth 10000 in
theorem c_impl_Variables (l : List (Int × List Int)) (hl : szS (fun (x : Int × (List (Int))) => (x.2).length) l ≤ 1048576) : Pu Tryz.prog 65 [.c (.t none (.sl 2 (enS2 encI (enSl 1 encI)) (l)))] [(0, some (.row none 3 true 1 encI (setI (varsL l))))] 1 (.c (.own 0)) := by
 refine pu_enter Tryz.func65 rfl (Nat.le_of_ble_eq_true rfl) fun w S => ?_
 have gl := sz_len (f := (fun (x : Int × (List (Int))) => (x.2).length)) (l := l); have gv := varsL_size l
 refine tsr ?_
 refine r_op oA ?_
 refine etr ?_
 refine r_op (o_lit0 0 (e := 3) (sz := 1) (zs := [.int .i64 (0)]) encI rfl rfl (by kernel_rfl) rfl) ?_
 refine r_op oA ?_
 refine r_end ?_
 refine t_seq ?_
 refine tsr ?_
 refine r_op oM ?_
 refine r_op (o_len rfl rfl rfl) ?_
 refine r_op oM ?_
 refine r_end ?_
 refine t_block ?_
 refine t_loopL (fun m => ⟨[(2, some (.c (.t none (.v (.slice none 0 0))))), (3, some (.c (.own 0))), (9, some (.c (.t none (.sl 2 (enS2 encI (enSl 1 encI)) (l))))), (10, some (.c (.t none (.v (.int .i64 (((l).length : Int))))))), (11, some (.c (.t none (.v (.int .i64 ((m : Int)))))))], [(0, some (.row none 3 true 1 encI (varsL (l.take m))))], 1⟩ : Nat → St) (fun m => m ≤ l.length) (fun m => l.length - m) 0 ⟨⟨rfl, ⟨rfl, ⟨rfl, ⟨rfl, ⟨rfl, trivial⟩⟩⟩⟩⟩, ⟨rfl, trivial⟩, rfl⟩ (by exact Nat.zero_le _) ?_
 rintro m hI ih0
 try dsimp only at hI ih0
 have i1 := hI
 refine tsr ?_
 refine r_op oB ?_
 refine r_end ?_
 refine t_seq ?_
 refine t_cond rfl (fun h1 => ?_) (fun h1 => ?_)
 ·
  have h1' := of_decide_eq_true h1
  refine t_skip ?_
  refine t_seq ?_
  refine t_block ?_
  refine tsr ?_
  obtain ⟨z2, hz3, b4⟩ := at_get (xs := l) (n := (m : Int)) (by omega) (by omega)
  refine r_op (o_index rfl (by kernel_rfl) rfl rfl b4 hz3) ?_
  refine r_op (o_loadA rfl (n := 2) (by kernel_rfl) (by kernel_rfl) rfl rfl) ?_
  refine r_op (o_alloc 1 (zs := [.int .i64 (0), .slice none 0 0]) rfl rfl (by kernel_rfl) rfl) ?_
  refine r_op (oS 2) ?_
  refine etr ?_
  refine r_op (oF 1) ?_
  refine r_op oL ?_
  refine r_op (o_len rfl rfl rfl) ?_
  refine r_op oM ?_
  refine r_end ?_
  refine t_block ?_
  refine t_loopL (fun n => ⟨[(2, some (.c (.t none (.v (.slice none 0 0))))), (3, some (.c (.own 0))), (9, some (.c (.t none (.sl 2 (enS2 encI (enSl 1 encI)) (l))))), (10, some (.c (.t none (.v (.int .i64 (((l).length : Int))))))), (11, some (.c (.t none (.v (.int .i64 ((m : Int))))))), (16, some (.c (.t none (.sl 1 encI (z2.2))))), (17, some (.c (.t none (.v (.int .i64 (((z2.2).length : Int))))))), (18, some (.c (.t none (.v (.int .i64 ((n : Int)))))))], [(0, some (.row none 3 true 1 encI (varsL (l.take m) ++ nonneg (z2.2.take n)))), (1, some (.box [.t none (.v (.int .i64 (z2.1))), .t none (.sl 1 encI (z2.2))]))], 2⟩ : Nat → St) (fun n => n ≤ z2.2.length) (fun n => z2.2.length - n) 0 ⟨⟨rfl, ⟨rfl, ⟨rfl, ⟨rfl, ⟨rfl, ⟨rfl, ⟨rfl, ⟨rfl, trivial⟩⟩⟩⟩⟩⟩⟩⟩, ⟨(eqR (by rw [nonneg_zero, List.append_nil])), ⟨rfl, trivial⟩⟩, rfl⟩ (by exact Nat.zero_le _) ?_
  rintro n hI ih1
  try dsimp only at hI ih1
  have j1 := hI; have vp := varsL_part (m := m) (n := n) hz3; (have e1 := sz_at (f := (fun (x : Int × (List (Int))) => (x.2).length)) (l := l) (m := m) hz3; (try dsimp only at e1))
  refine tsr ?_
  refine r_op oB ?_
  refine r_end ?_
  refine t_seq ?_
  refine t_cond rfl (fun h5 => ?_) (fun h5 => ?_)
  ·
   have h5' := of_decide_eq_true h5
   refine t_skip ?_
   refine t_seq ?_
   refine t_block ?_
   refine tsr ?_
   obtain ⟨z6, hz7, b8⟩ := at_get (xs := z2.2) (n := (n : Int)) (by omega) (by omega)
   refine r_op (o_index rfl (by kernel_rfl) rfl rfl b8 hz7) ?_
   refine r_op (o_load1 rfl (by kernel_rfl) rfl rfl) ?_
   refine r_op oA ?_
   refine etr ?_
   refine r_op oM ?_
   refine r_op oB ?_
   refine r_end ?_
   refine t_cond rfl (fun h9 => ?_) (fun h9 => ?_)
   ·
    have h9' := of_decide_eq_true h9
    refine t_region ?_
    refine r_op oM ?_
    refine r_op oM ?_
    refine r_op (o_litS 2 (e := 3) (sz := 1) (zs := [.int .i64 (0)]) rfl rfl (by kernel_rfl) rfl rfl rfl rfl rfl) ?_
    refine r_op (o_append 0 (e := 3) (sz := 1) (by' := 8) (z6) rfl (by kernel_rfl) rfl rfl rfl rfl rfl rfl (.cons .sc .nil) rfl (by (simp only [List.length_append]; omega)) (by (simp only [List.length_append]; omega))) ?_
    refine r_op oA ?_
    refine r_end ?_
    refine t_endblock ?_
    refine t_region ?_
    refine r_op oB ?_
    refine r_op oM ?_
    refine r_end ?_
    refine t_le ?_ (ih1 (n + 1) (by (try dsimp only); omega) (by (try dsimp only); omega))
    exact ⟨⟨rfl, ⟨rfl, ⟨rfl, ⟨rfl, ⟨rfl, ⟨rfl, ⟨rfl, ⟨(eqI (wr64 (by omega) (by omega))), trivial⟩⟩⟩⟩⟩⟩⟩⟩, ⟨(eqR (by (rw [nonneg_more (by assumption) (by omega), List.append_assoc]; done))), ⟨rfl, trivial⟩⟩, rfl⟩
   ·
    have h9' := of_decide_eq_false h9
    refine t_skip ?_
    refine t_endblock ?_
    refine t_region ?_
    refine r_op oB ?_
    refine r_op oM ?_
    refine r_end ?_
    refine t_le ?_ (ih1 (n + 1) (by (try dsimp only); omega) (by (try dsimp only); omega))
    exact ⟨⟨rfl, ⟨rfl, ⟨rfl, ⟨rfl, ⟨rfl, ⟨rfl, ⟨rfl, ⟨(eqI (wr64 (by omega) (by omega))), trivial⟩⟩⟩⟩⟩⟩⟩⟩, ⟨(eqR (by (rw [nonneg_same (by assumption) (by omega)]; done))), ⟨rfl, trivial⟩⟩, rfl⟩
  ·
   have h5' := of_decide_eq_false h5
   refine t_exit rfl ?_
   refine t_endblock ?_
   refine t_region ?_
   refine r_op oB ?_
   refine r_op oM ?_
   refine r_end ?_
   refine t_le ?_ (ih0 (m + 1) (by (try dsimp only); omega) (by (try dsimp only); omega))
   exact ⟨⟨rfl, ⟨rfl, ⟨rfl, ⟨rfl, ⟨(eqI (wr64 (by omega) (by omega))), trivial⟩⟩⟩⟩⟩, ⟨(eqR (by rw [varsL_step (m := m) hz3]; congr 2; exact List.take_of_length_le (by omega))), trivial⟩, rfl⟩
 ·
  have h1' := of_decide_eq_false h1
  refine t_exit rfl ?_
  refine tsr ?_
  refine r_op oM ?_
  refine r_op (o_callH [⟨0, none, 3, 1, _, encI, varsL (l.take m), sortI (varsL (l.take m))⟩] (Go.Proofs.enters_of Tryz.func124 (by kernel_rfl) rfl) (fun U => c_slices_Sort___int_int_ U 3 (varsL (l.take m)) (by (simp only [varsL_end (by omega : l.length ≤ m)]; omega))) rfl ⟨rfl, trivial⟩ rfl rfl (.cons rfl (.own rfl) .nil) rfl) ?_
  refine etr ?_
  refine r_op oM ?_
  refine r_op (o_callC 0 (l' := compactI (sortI (varsL (l.take m)))) (Go.Proofs.enters_of Tryz.func125 (by kernel_rfl) rfl) (fun U => c_slices_Compact___int_int_ U 3 (sortI (varsL (l.take m))) (by (rw [sortI_len]; simp only [varsL_end (by omega : l.length ≤ m)]; omega))) rfl rfl (.cons rfl (.own rfl) .nil)) ?_
  refine r_op oA ?_
  refine r_end ?_
  refine t_ret Tryz.func65 (.tmp rfl .nil) rfl fun E S w u hI hd => ?_
  refine post_mk hI hd ?_ ⟨eqR ?_, trivial⟩ rfl rfl rfl <;> clear hI hd <;> (try clear ih0) <;> (try clear ih1)
  all_goals first | rfl | ((rw [varsL_end (by omega), compact_sort]))
set_option maxHeartbeats 1000000 in
set_option maxRecDepth 10000 in
theorem c_slices_Index___int_int_ (l : List Int) (v : Int) (hl : l.length ≤ 9223372036854775807) : Pu Tryz.prog 126 [.c (.t none (.sl 1 encI (l))), .c (.t none (.v (.int .i64 (v))))] [] 0 (.c (.t none (.v (.int .i64 (idxI (eqP v) l))))) := by
 refine pu_enter Tryz.func126 rfl (Nat.le_of_ble_eq_true rfl) fun w S => ?_
 refine tsr ?_
 refine r_op oA ?_
 refine r_end ?_
 refine t_seq ?_
 refine tsr ?_
 refine r_op oM ?_
 refine r_op (o_len rfl rfl rfl) ?_
 refine r_op oM ?_
 refine r_end ?_
 refine t_block ?_
 refine t_loopL (fun m => ⟨[(0, some (.c (.t none (.sl 1 encI (l))))), (1, some (.c (.t none (.v (.int .i64 (v)))))), (7, some (.c (.t none (.v (.int .i64 (((l).length : Int))))))), (8, some (.c (.t none (.v (.int .i64 ((m : Int)))))))], [], 0⟩ : Nat → St) (fun m => m ≤ l.length ∧ ∀ j z, j < m → l[j]? = some z → eqP v z = false) (fun m => l.length - m) 0 ⟨⟨rfl, ⟨rfl, ⟨rfl, ⟨rfl, trivial⟩⟩⟩⟩, trivial, rfl⟩ (by exact ⟨Nat.zero_le _, fun j z h => by omega⟩) ?_
 rintro m hI ih0
 try dsimp only at hI ih0
 obtain ⟨i1, i2⟩ := hI
 refine tsr ?_
 refine r_op oB ?_
 refine r_end ?_
 refine t_seq ?_
 refine t_cond rfl (fun h1 => ?_) (fun h1 => ?_)
 ·
  have h1' := of_decide_eq_true h1
  refine t_skip ?_
  refine t_seq ?_
  refine t_block ?_
  refine tsr ?_
  refine r_op oM ?_
  refine r_op oA ?_
  refine etr ?_
  refine r_op oM ?_
  refine r_op oM ?_
  refine r_op oM ?_
  obtain ⟨z2, hz3, b4⟩ := at_get (xs := l) (n := (m : Int)) (by omega) (by omega)
  refine r_op (o_index rfl (by kernel_rfl) rfl rfl b4 hz3) ?_
  refine r_op (o_load1 rfl (by kernel_rfl) rfl rfl) ?_
  refine r_op oB ?_
  refine r_end ?_
  refine t_cond rfl (fun h5 => ?_) (fun h5 => ?_)
  ·
   have h5' := of_decide_eq_true h5
   refine tsr ?_
   refine r_op oM ?_
   refine r_op oA ?_
   refine r_end ?_
   refine t_ret Tryz.func126 (.tmp rfl .nil) rfl fun E S w u hI hd => ?_
   refine post_mk hI hd ?_ trivial rfl rfl rfl <;> clear hI hd <;> (try clear ih0)
   all_goals (rw [idx_hit i2 (by assumption) (decide_eq_true (by omega))])
  ·
   have h5' := of_decide_eq_false h5
   refine t_skip ?_
   refine t_endblock ?_
   refine t_region ?_
   refine r_op oB ?_
   refine r_op oM ?_
   refine r_end ?_
   refine t_le ?_ (ih0 (m + 1) (by (try dsimp only); omega) (by (try dsimp only); exact ⟨by omega, no_step i2 (by assumption) rfl (decide_eq_false (by omega))⟩))
   exact ⟨⟨rfl, ⟨rfl, ⟨rfl, ⟨(eqI (wr64 (by omega) (by omega))), trivial⟩⟩⟩⟩, trivial, rfl⟩
 ·
  have h1' := of_decide_eq_false h1
  refine t_exit rfl ?_
  refine tsr ?_
  refine r_op oA ?_
  refine r_end ?_
  refine t_ret Tryz.func126 (.tmp rfl .nil) rfl fun E S w u hI hd => ?_
  refine post_mk hI hd ?_ trivial rfl rfl rfl <;> clear hI hd <;> (try clear ih0)
  all_goals (rw [idx_none i2 (by omega)])
set_option maxHeartbeats 1000000 in
set_option maxRecDepth 10000 in
theorem c_slices_Contains___int_int_ (l : List Int) (v : Int) (hl : l.length ≤ 9223372036854775807) : Pu Tryz.prog 66 [.c (.t none (.sl 1 encI (l))), .c (.t none (.v (.int .i64 (v))))] [] 0 (.c (.t none (.v (.bool (hasI l v))))) := by
 refine pu_enter Tryz.func66 rfl (Nat.le_of_ble_eq_true rfl) fun w S => ?_
 refine tsr ?_
 refine r_op oA ?_
 refine etr ?_
 refine r_op oM ?_
 refine r_op oM ?_
 refine r_op (o_call 0 0 false (Go.Proofs.enters_of Tryz.func126 (by kernel_rfl) rfl) (c_slices_Index___int_int_ (l) (v) (by omega)) rfl (.cons rfl (.c .t0) (.cons rfl (.c .t0) .nil)) rfl rfl rfl) ?_
 refine r_op oB ?_
 refine r_op oA ?_
 refine r_end ?_
 refine t_ret Tryz.func66 (.tmp rfl .nil) rfl fun E S w u hI hd => ?_
 refine post_mk hI hd ?_ trivial rfl rfl rfl <;> clear hI hd
 all_goals (exact scB idxI_has)
set_option maxHeartbeats 1000000 in
set_option maxRecDepth 10000 in
theorem c_impl_IsValidDependency_1 (r : Int) (ts : List Int) (rs : Rels) (hr : 0 ≤ r ∧ r < rs.length) : Pu Tryz.prog 123 [.agg [.t none (.v (.int .i64 (r))), .t none (.sl 1 encI (ts))], .c (.pel none ((enSl 3 (enS3 encS encI encB)) (rs)) 1)] [] 0 (.c (.t none (.v (.bool (srcA rs (r, ts)))))) := by
 refine pu_enter Tryz.func123 rfl (Nat.le_of_ble_eq_true rfl) fun w S => ?_
 refine tsr ?_
 refine r_op (o_box 0 rfl rfl rfl rfl) ?_
 refine r_op oA ?_
 refine etr ?_
 refine r_op (o_load1 rfl (by kernel_rfl) rfl rfl) ?_
 refine r_op (oF 0) ?_
 refine r_op oL ?_
 obtain ⟨z1, hz2, b3⟩ := at_get (xs := rs) (n := r) (by omega) (by omega)
 refine r_op (o_index rfl (by kernel_rfl) rfl rfl b3 hz2) ?_
 refine r_op (o_field rfl (off := 2) (by kernel_rfl) rfl) ?_
 refine r_op (o_load1 rfl (by kernel_rfl) rfl rfl) ?_
 refine r_op oA ?_
 refine r_end ?_
 refine t_ret Tryz.func123 (.tmp rfl .nil) rfl fun E S w u hI hd => ?_
 refine post_mk hI hd ?_ trivial rfl rfl rfl <;> clear hI hd
 all_goals (refine scB ?_; rw [srcA_at (by assumption)])
set_option maxHeartbeats 1000000 in
set_option maxRecDepth 10000 in
theorem c_impl_IsValidDependency (rs : Rels) (a0 : List (Int × (List (Int)))) (a1 : List (Int × (List (Int)))) (a2 : Bool) (a3 : Int) (a4 : Int) (hrs : rs.length ≤ 4611686018427387904) (hs : szS (fun (x : Int × (List (Int))) => (x.2).length) a0 + szS (fun (x : Int × (List (Int))) => (x.2).length) a1 ≤ 1048576) : Pu Tryz.prog 64 [.c (.t none (.sl 3 (enS3 encS encI encB) (rs))), .agg [.t none (.sl 2 (enS2 encI (enSl 1 encI)) (a0)), .t none (.sl 2 (enS2 encI (enSl 1 encI)) (a1)), .t none (.v (.bool (a2))), .t none (.v (.int .i64 (a3))), .t none (.v (.int .i64 (a4)))]] [] 0 (.c (.t none (.v (.bool (depOk rs a0 a1 a2 a3 a4))))) := by
 refine pu_enter Tryz.func64 rfl (Nat.le_of_ble_eq_true rfl) fun w S => ?_
 have g0 := sz_len (f := (fun (x : Int × (List (Int))) => (x.2).length)) (l := a0); have g1 := sz_len (f := (fun (x : Int × (List (Int))) => (x.2).length)) (l := a1); have v0 := setI_len (varsL a0); have v1 := varsL_size a0
 refine tsr ?_
 refine r_op (o_box 0 rfl rfl rfl rfl) ?_
 refine r_op (o_box 1 rfl rfl rfl rfl) ?_
 refine r_op oA ?_
 refine etr ?_
 refine r_op (oC 5) ?_
 refine r_op (o_alloc 2 (zs := [.slice none 0 0, .slice none 0 0, .bool (false), .int .i64 (0), .int .i64 (0)]) rfl rfl (by kernel_rfl) rfl) ?_
 refine r_op (oS 5) ?_
 refine r_end ?_
 refine t_seq ?_
 refine tsr ?_
 refine r_op oL ?_
 refine r_op (oF 0) ?_
 refine r_op oL ?_
 refine r_op (o_call 3 3 false (Go.Proofs.enters_of Tryz.func109 (by kernel_rfl) rfl) (c_impl_areAtoms (rs) (a0) (2) (by omega) (by omega)) rfl (.cons rfl (.c .t0) (.cons rfl (.c .t0) (.cons rfl (.c .t0) .nil))) rfl rfl rfl) ?_
 refine r_op (o_not rfl rfl) ?_
 refine r_end ?_
 refine t_cond rfl (fun h1 => ?_) (fun h1 => ?_)
 ·
  have h1' := (bnt h1)
  refine tsr ?_
  refine r_op oA ?_
  refine r_end ?_
  refine t_ret Tryz.func64 (.tmp rfl .nil) rfl fun E S w u hI hd => ?_
  refine post_mk hI hd ?_ trivial rfl rfl rfl <;> clear hI hd
  all_goals (refine scB ?_; clear hs g0 g1 v0 v1; unfold depOk; grind)
 ·
  have h1' := (bnf h1)
  refine t_skip ?_
  refine t_seq ?_
  refine tsr ?_
  refine r_op (oF 2) ?_
  refine r_op oL ?_
  refine r_end ?_
  refine t_cond rfl (fun h2 => ?_) (fun h2 => ?_)
  ·
   have h2' := h2
   refine tsr ?_
   refine r_op (oF 0) ?_
   refine r_op oL ?_
   refine r_op (o_call 3 4 false (Go.Proofs.enters_of Tryz.func65 (by kernel_rfl) rfl) (c_impl_Variables (a0) (by omega)) rfl (.cons rfl (.c .t0) .nil) rfl rfl rfl) ?_
   refine r_op oA ?_
   refine etr ?_
   refine r_op (oF 1) ?_
   refine r_op oL ?_
   refine r_op (o_len rfl rfl rfl) ?_
   refine r_op oB ?_
   refine r_op oM ?_
   refine r_guard rfl rfl rfl (fun g3 => ?_) (fun g3 => ?_)
   ·
    have g3' := of_decide_eq_true g3
    refine r_op (oF 3) ?_
    refine r_guard rfl rfl rfl (fun _ => ?_) (nc g3)
    refine r_op oL ?_
    refine r_guard rfl rfl rfl (fun _ => ?_) (nc g3)
    refine r_op (oF 4) ?_
    refine r_guard rfl rfl rfl (fun _ => ?_) (nc g3)
    refine r_op oL ?_
    refine r_guard rfl rfl rfl (fun _ => ?_) (nc g3)
    refine r_op oB ?_
    refine r_op (o_pickT rfl rfl g3 rfl) ?_
    refine r_op oM ?_
    refine r_guard rfl rfl rfl (fun g4 => ?_) (fun g4 => ?_)
    ·
     have g4' := of_decide_eq_true g4
     refine r_op oM ?_
     refine r_guard rfl rfl rfl (fun _ => ?_) (nc g4)
     refine r_op (oF 3) ?_
     refine r_guard rfl rfl rfl (fun _ => ?_) (nc g4)
     refine r_op oL ?_
     refine r_guard rfl rfl rfl (fun _ => ?_) (nc g4)
     refine r_op (o_call 4 4 false (Go.Proofs.enters_of Tryz.func66 (by kernel_rfl) rfl) (c_slices_Contains___int_int_ (setI (varsL (a0))) (a3) (by omega)) rfl (.cons rfl (.c (.own rfl)) (.cons rfl (.c .t0) .nil)) rfl rfl rfl) ?_
     refine r_op (o_pickT rfl rfl g4 rfl) ?_
     refine r_op oM ?_
     refine r_guard rfl rfl rfl (fun g5 => ?_) (fun g5 => ?_)
     ·
      have g5' := g5
      refine r_op oM ?_
      refine r_guard rfl rfl rfl (fun _ => ?_) (nc g5)
      refine r_op (oF 4) ?_
      refine r_guard rfl rfl rfl (fun _ => ?_) (nc g5)
      refine r_op oL ?_
      refine r_guard rfl rfl rfl (fun _ => ?_) (nc g5)
      refine r_op (o_call 4 4 false (Go.Proofs.enters_of Tryz.func66 (by kernel_rfl) rfl) (c_slices_Contains___int_int_ (setI (varsL (a0))) (a4) (by omega)) rfl (.cons rfl (.c (.own rfl)) (.cons rfl (.c .t0) .nil)) rfl rfl rfl) ?_
      refine r_op (o_pickT rfl rfl g5 rfl) ?_
      refine r_op oA ?_
      refine r_end ?_
      refine t_ret Tryz.func64 (.tmp rfl .nil) rfl fun E S w u hI hd => ?_
      refine post_mk hI hd ?_ trivial rfl rfl rfl <;> clear hI hd
      all_goals (refine scB ?_; clear hs g0 g1 v0 v1; unfold depOk; grind)
     ·
      have g5' := g5
      refine r_guard rfl rfl rfl (ncf g5) (fun _ => ?_)
      refine r_guard rfl rfl rfl (ncf g5) (fun _ => ?_)
      refine r_guard rfl rfl rfl (ncf g5) (fun _ => ?_)
      refine r_op (o_pickF rfl rfl g5 rfl) ?_
      refine r_op oA ?_
      refine r_end ?_
      refine t_ret Tryz.func64 (.tmp rfl .nil) rfl fun E S w u hI hd => ?_
      refine post_mk hI hd ?_ trivial rfl rfl rfl <;> clear hI hd
      all_goals (refine scB ?_; clear hs g0 g1 v0 v1; unfold depOk; grind)
    ·
     have g4' := of_decide_eq_false g4
     refine r_guard rfl rfl rfl (ncf g4) (fun _ => ?_)
     refine r_guard rfl rfl rfl (ncf g4) (fun _ => ?_)
     refine r_guard rfl rfl rfl (ncf g4) (fun _ => ?_)
     refine r_op (o_pickF rfl rfl g4 rfl) ?_
     refine r_op oM ?_
     refine r_guard rfl rfl rfl (ncf rfl) (fun _ => ?_)
     refine r_guard rfl rfl rfl (ncf rfl) (fun _ => ?_)
     refine r_guard rfl rfl rfl (ncf rfl) (fun _ => ?_)
     refine r_guard rfl rfl rfl (ncf rfl) (fun _ => ?_)
     refine r_op (o_pickF rfl rfl rfl rfl) ?_
     refine r_op oA ?_
     refine r_end ?_
     refine t_ret Tryz.func64 (.tmp rfl .nil) rfl fun E S w u hI hd => ?_
     refine post_mk hI hd ?_ trivial rfl rfl rfl <;> clear hI hd
     all_goals (refine scB ?_; clear hs g0 g1 v0 v1; unfold depOk; grind)
   ·
    have g3' := of_decide_eq_false g3
    refine r_guard rfl rfl rfl (ncf g3) (fun _ => ?_)
    refine r_guard rfl rfl rfl (ncf g3) (fun _ => ?_)
    refine r_guard rfl rfl rfl (ncf g3) (fun _ => ?_)
    refine r_guard rfl rfl rfl (ncf g3) (fun _ => ?_)
    refine r_op (o_pickF rfl rfl g3 rfl) ?_
    refine r_op oM ?_
    refine r_guard rfl rfl rfl (ncf rfl) (fun _ => ?_)
    refine r_guard rfl rfl rfl (ncf rfl) (fun _ => ?_)
    refine r_guard rfl rfl rfl (ncf rfl) (fun _ => ?_)
    refine r_guard rfl rfl rfl (ncf rfl) (fun _ => ?_)
    refine r_op (o_pickF rfl rfl rfl rfl) ?_
    refine r_op oM ?_
    refine r_guard rfl rfl rfl (ncf rfl) (fun _ => ?_)
    refine r_guard rfl rfl rfl (ncf rfl) (fun _ => ?_)
    refine r_guard rfl rfl rfl (ncf rfl) (fun _ => ?_)
    refine r_guard rfl rfl rfl (ncf rfl) (fun _ => ?_)
    refine r_op (o_pickF rfl rfl rfl rfl) ?_
    refine r_op oA ?_
    refine r_end ?_
    refine t_ret Tryz.func64 (.tmp rfl .nil) rfl fun E S w u hI hd => ?_
    refine post_mk hI hd ?_ trivial rfl rfl rfl <;> clear hI hd
    all_goals (refine scB ?_; clear hs g0 g1 v0 v1; unfold depOk; grind)
  ·
   have h2' := h2
   refine t_skip ?_
   refine tsr ?_
   refine r_op oL ?_
   refine r_op (oF 1) ?_
   refine r_op oL ?_
   refine r_op (o_call 3 3 false (Go.Proofs.enters_of Tryz.func109 (by kernel_rfl) rfl) (c_impl_areAtoms (rs) (a1) (2) (by omega) (by omega)) rfl (.cons rfl (.c .t0) (.cons rfl (.c .t0) (.cons rfl (.c .t0) .nil))) rfl rfl rfl) ?_
   refine r_op oM ?_
   refine r_guard rfl rfl rfl (fun g6 => ?_) (fun g6 => ?_)
   ·
    have g6' := g6
    refine r_op (oF 3) ?_
    refine r_guard rfl rfl rfl (fun _ => ?_) (nc g6)
    refine r_op oL ?_
    refine r_guard rfl rfl rfl (fun _ => ?_) (nc g6)
    refine r_op oB ?_
    refine r_op (o_pickT rfl rfl g6 rfl) ?_
    refine r_op oM ?_
    refine r_guard rfl rfl rfl (fun g7 => ?_) (fun g7 => ?_)
    ·
     have g7' := of_decide_eq_true g7
     refine r_op (oF 4) ?_
     refine r_guard rfl rfl rfl (fun _ => ?_) (nc g7)
     refine r_op oL ?_
     refine r_guard rfl rfl rfl (fun _ => ?_) (nc g7)
     refine r_op oB ?_
     refine r_op (o_pickT rfl rfl g7 rfl) ?_
     refine r_op oM ?_
     refine r_guard rfl rfl rfl (fun g8 => ?_) (fun g8 => ?_)
     ·
      have g8' := of_decide_eq_true g8
      refine r_op (oF 1) ?_
      refine r_guard rfl rfl rfl (fun _ => ?_) (nc g8)
      refine r_op oL ?_
      refine r_guard rfl rfl rfl (fun _ => ?_) (nc g8)
      refine r_op (o_makeFunc rfl (.cons rfl .nil)) ?_
      refine r_guard rfl rfl rfl (fun _ => ?_) (nc g8)
      refine r_op (o_call 3 3 false (Go.Proofs.enters_of Tryz.func122 (by kernel_rfl) rfl) (c_slices_ContainsFunc___impl_Atom_impl_Atom_ (a1) (123) ([((enSl 3 (enS3 encS encI encB)) (rs), 1)]) (fun (x0 : Int × (List (Int))) => srcA (rs) ((x0.1), (x0.2))) (by omega) (fun x0 mx0 => ⟨Go.Proofs.enters_of Tryz.func123 (by kernel_rfl) rfl, c_impl_IsValidDependency_1 (x0.1) (x0.2) (rs) (by exact atoms_at (by assumption) (by assumption))⟩)) rfl (.cons rfl (.c .t0) (.cons rfl (.c (.clo (.cons rfl rfl rfl (.cons .t .nil) .nil))) .nil)) rfl rfl rfl) ?_
      refine r_guard rfl rfl rfl (fun _ => ?_) (nc g8)
      refine r_op (o_not rfl rfl) ?_
      refine r_op (o_pickT rfl rfl g8 rfl) ?_
      refine r_op oA ?_
      refine r_end ?_
      refine t_ret Tryz.func64 (.tmp rfl .nil) rfl fun E S w u hI hd => ?_
      refine post_mk hI hd ?_ trivial rfl rfl rfl <;> clear hI hd
      all_goals (refine scB ?_; clear hs g0 g1 v0 v1; unfold depOk; grind)
     ·
      have g8' := of_decide_eq_false g8
      refine r_guard rfl rfl rfl (ncf g8) (fun _ => ?_)
      refine r_guard rfl rfl rfl (ncf g8) (fun _ => ?_)
      refine r_guard rfl rfl rfl (ncf g8) (fun _ => ?_)
      refine r_guard rfl rfl rfl (ncf g8) (fun _ => ?_)
      refine r_op (o_pickF rfl rfl g8 rfl) ?_
      refine r_op oA ?_
      refine r_end ?_
      refine t_ret Tryz.func64 (.tmp rfl .nil) rfl fun E S w u hI hd => ?_
      refine post_mk hI hd ?_ trivial rfl rfl rfl <;> clear hI hd
      all_goals (refine scB ?_; clear hs g0 g1 v0 v1; unfold depOk; grind)
    ·
     have g7' := of_decide_eq_false g7
     refine r_guard rfl rfl rfl (ncf g7) (fun _ => ?_)
     refine r_guard rfl rfl rfl (ncf g7) (fun _ => ?_)
     refine r_op (o_pickF rfl rfl g7 rfl) ?_
     refine r_op oM ?_
     refine r_guard rfl rfl rfl (ncf rfl) (fun _ => ?_)
     refine r_guard rfl rfl rfl (ncf rfl) (fun _ => ?_)
     refine r_guard rfl rfl rfl (ncf rfl) (fun _ => ?_)
     refine r_guard rfl rfl rfl (ncf rfl) (fun _ => ?_)
     refine r_guard rfl rfl rfl (ncf rfl) (fun _ => ?_)
     refine r_op (o_pickF rfl rfl rfl rfl) ?_
     refine r_op oA ?_
     refine r_end ?_
     refine t_ret Tryz.func64 (.tmp rfl .nil) rfl fun E S w u hI hd => ?_
     refine post_mk hI hd ?_ trivial rfl rfl rfl <;> clear hI hd
     all_goals (refine scB ?_; clear hs g0 g1 v0 v1; unfold depOk; grind)
   ·
    have g6' := g6
    refine r_guard rfl rfl rfl (ncf g6) (fun _ => ?_)
    refine r_guard rfl rfl rfl (ncf g6) (fun _ => ?_)
    refine r_op (o_pickF rfl rfl g6 rfl) ?_
    refine r_op oM ?_
    refine r_guard rfl rfl rfl (ncf rfl) (fun _ => ?_)
    refine r_guard rfl rfl rfl (ncf rfl) (fun _ => ?_)
    refine r_guard rfl rfl rfl (ncf rfl) (fun _ => ?_)
    refine r_op (o_pickF rfl rfl rfl rfl) ?_
    refine r_op oM ?_
    refine r_guard rfl rfl rfl (ncf rfl) (fun _ => ?_)
    refine r_guard rfl rfl rfl (ncf rfl) (fun _ => ?_)
    refine r_guard rfl rfl rfl (ncf rfl) (fun _ => ?_)
    refine r_guard rfl rfl rfl (ncf rfl) (fun _ => ?_)
    refine r_guard rfl rfl rfl (ncf rfl) (fun _ => ?_)
    refine r_op (o_pickF rfl rfl rfl rfl) ?_
    refine r_op oA ?_
    refine r_end ?_
    refine t_ret Tryz.func64 (.tmp rfl .nil) rfl fun E S w u hI hd => ?_
    refine post_mk hI hd ?_ trivial rfl rfl rfl <;> clear hI hd
    all_goals (refine scB ?_; clear hs g0 g1 v0 v1; unfold depOk; grind)
set_option maxHeartbeats 1000000 in
set_option maxRecDepth 10000 in
theorem c_impl_AreValidDependencies_1 (a0 : List (Int × (List (Int)))) (a1 : List (Int × (List (Int)))) (a2 : Bool) (a3 : Int) (a4 : Int) (rs : Rels) (hrs : rs.length ≤ 4611686018427387904) (hs : szS (fun (x : Int × (List (Int))) => (x.2).length) a0 + szS (fun (x : Int × (List (Int))) => (x.2).length) a1 ≤ 1048576) : Pu Tryz.prog 130 [.agg [.t none (.sl 2 (enS2 encI (enSl 1 encI)) (a0)), .t none (.sl 2 (enS2 encI (enSl 1 encI)) (a1)), .t none (.v (.bool (a2))), .t none (.v (.int .i64 (a3))), .t none (.v (.int .i64 (a4)))], .c (.pel none ((enSl 3 (enS3 encS encI encB)) (rs)) 1)] [] 0 (.c (.t none (.v (.bool (badD rs (a0, a1, a2, a3, a4)))))) := by
 refine pu_enter Tryz.func130 rfl (Nat.le_of_ble_eq_true rfl) fun w S => ?_
 refine tsr ?_
 refine r_op (o_box 0 rfl rfl rfl rfl) ?_
 refine r_op oA ?_
 refine etr ?_
 refine r_op (o_load1 rfl (by kernel_rfl) rfl rfl) ?_
 refine r_op (oC 5) ?_
 refine r_op (o_call 1 1 false (Go.Proofs.enters_of Tryz.func64 (by kernel_rfl) rfl) (c_impl_IsValidDependency (rs) (a0) (a1) (a2) (a3) (a4) (by omega) (by omega)) rfl (.cons rfl (.c .t0) (.cons rfl (.agg (.cons .t0 (.cons .t0 (.cons .t0 (.cons .t0 (.cons .t0 .nil)))))) .nil)) rfl rfl rfl) ?_
 refine r_op (o_not rfl rfl) ?_
 refine r_op oA ?_
 refine r_end ?_
 refine t_ret Tryz.func130 (.tmp rfl .nil) rfl fun E S w u hI hd => ?_
 refine post_mk hI hd ?_ trivial rfl rfl rfl <;> clear hI hd
 all_goals (rfl)
set_option maxHeartbeats 1000000 in
set_option maxRecDepth 10000 in
theorem c_slices_IndexFunc___impl_Dependency_impl_Dependency_ (l : List ((List (Int × (List (Int)))) × (List (Int × (List (Int)))) × Bool × Int × Int)) (f : Nat) (cs : List ((Nat → T) × Nat)) (p : (List (Int × (List (Int)))) × (List (Int × (List (Int)))) × Bool × Int × Int → Bool) (hl : l.length ≤ 9223372036854775807) (hf : ∀ x ∈ l, Fu Tryz.prog f ([.agg [.t none (.sl 2 (enS2 encI (enSl 1 encI)) (x.1)), .t none (.sl 2 (enS2 encI (enSl 1 encI)) (x.2.1)), .t none (.v (.bool (x.2.2.1))), .t none (.v (.int .i64 (x.2.2.2.1))), .t none (.v (.int .i64 (x.2.2.2.2)))]] ++ pels cs) (.c (.t none (.v (.bool (p x)))))) : Pu Tryz.prog 170 [.c (.t none (.sl 5 (enS5 (enSl 2 (enS2 encI (enSl 1 encI))) (enSl 2 (enS2 encI (enSl 1 encI))) encB encI encI) (l))), .c (.fv f cs)] [] 0 (.c (.t none (.v (.int .i64 (idxI p l))))) := by
 refine pu_enter Tryz.func170 rfl (Nat.le_of_ble_eq_true rfl) fun w S => ?_
 refine tsr ?_
 refine r_op oA ?_
 refine r_end ?_
 refine t_seq ?_
 refine tsr ?_
 refine r_op oM ?_
 refine r_op (o_len rfl rfl rfl) ?_
 refine r_op oM ?_
 refine r_end ?_
 refine t_block ?_
 refine t_loopL (fun m => ⟨[(0, some (.c (.t none (.sl 5 (enS5 (enSl 2 (enS2 encI (enSl 1 encI))) (enSl 2 (enS2 encI (enSl 1 encI))) encB encI encI) (l))))), (1, some (.c (.fv f cs))), (7, some (.c (.t none (.v (.int .i64 (((l).length : Int))))))), (8, some (.c (.t none (.v (.int .i64 ((m : Int)))))))], [], 0⟩ : Nat → St) (fun m => m ≤ l.length ∧ ∀ j z, j < m → l[j]? = some z → p z = false) (fun m => l.length - m) 0 ⟨⟨rfl, ⟨rfl, ⟨rfl, ⟨rfl, trivial⟩⟩⟩⟩, trivial, rfl⟩ (by exact ⟨Nat.zero_le _, fun j z h => by omega⟩) ?_
 rintro m hI ih0
 try dsimp only at hI ih0
 obtain ⟨i1, i2⟩ := hI
 refine tsr ?_
 refine r_op oB ?_
 refine r_end ?_
 refine t_seq ?_
 refine t_cond rfl (fun h1 => ?_) (fun h1 => ?_)
 ·
  have h1' := of_decide_eq_true h1
  refine t_skip ?_
  refine t_seq ?_
  refine t_block ?_
  refine tsr ?_
  refine r_op oM ?_
  refine r_op oA ?_
  refine etr ?_
  refine r_op oM ?_
  refine r_op oM ?_
  refine r_op oM ?_
  obtain ⟨z2, hz3, b4⟩ := at_get (xs := l) (n := (m : Int)) (by omega) (by omega)
  refine r_op (o_index rfl (by kernel_rfl) rfl rfl b4 hz3) ?_
  refine r_op (o_loadA rfl (n := 5) (by kernel_rfl) (by kernel_rfl) rfl rfl) ?_
  refine r_op (o_callv 0 0 false (hf z2 (List.mem_of_getElem? (by assumption))).1 (hf z2 (List.mem_of_getElem? (by assumption))).2 rfl rfl (.c .fv) (.cons rfl (.agg (.cons .t0 (.cons .t0 (.cons .t0 (.cons .t0 (.cons .t0 .nil)))))) .nil) rfl rfl rfl) ?_
  refine r_end ?_
  refine t_cond rfl (fun h5 => ?_) (fun h5 => ?_)
  ·
   have h5' := h5
   refine tsr ?_
   refine r_op oM ?_
   refine r_op oA ?_
   refine r_end ?_
   refine t_ret Tryz.func170 (.tmp rfl .nil) rfl fun E S w u hI hd => ?_
   refine post_mk hI hd ?_ trivial rfl rfl rfl <;> clear hI hd <;> (try clear ih0)
   all_goals (rw [idx_hit i2 (by assumption) (by assumption)])
  ·
   have h5' := h5
   refine t_skip ?_
   refine t_endblock ?_
   refine t_region ?_
   refine r_op oB ?_
   refine r_op oM ?_
   refine r_end ?_
   refine t_le ?_ (ih0 (m + 1) (by (try dsimp only); omega) (by (try dsimp only); exact ⟨by omega, no_step i2 (by assumption) rfl (by assumption)⟩))
   exact ⟨⟨rfl, ⟨rfl, ⟨rfl, ⟨(eqI (wr64 (by omega) (by omega))), trivial⟩⟩⟩⟩, trivial, rfl⟩
 ·
  have h1' := of_decide_eq_false h1
  refine t_exit rfl ?_
  refine tsr ?_
  refine r_op oA ?_
  refine r_end ?_
  refine t_ret Tryz.func170 (.tmp rfl .nil) rfl fun E S w u hI hd => ?_
  refine post_mk hI hd ?_ trivial rfl rfl rfl <;> clear hI hd <;> (try clear ih0)
  all_goals (rw [idx_none i2 (by omega)])
set_option maxHeartbeats 1000000 in
set_option maxRecDepth 10000 in
theorem c_slices_ContainsFunc___impl_Dependency_impl_Dependency_ (l : List ((List (Int × (List (Int)))) × (List (Int × (List (Int)))) × Bool × Int × Int)) (f : Nat) (cs : List ((Nat → T) × Nat)) (p : (List (Int × (List (Int)))) × (List (Int × (List (Int)))) × Bool × Int × Int → Bool) (hl : l.length ≤ 9223372036854775807) (hf : ∀ x ∈ l, Fu Tryz.prog f ([.agg [.t none (.sl 2 (enS2 encI (enSl 1 encI)) (x.1)), .t none (.sl 2 (enS2 encI (enSl 1 encI)) (x.2.1)), .t none (.v (.bool (x.2.2.1))), .t none (.v (.int .i64 (x.2.2.2.1))), .t none (.v (.int .i64 (x.2.2.2.2)))]] ++ pels cs) (.c (.t none (.v (.bool (p x)))))) : Pu Tryz.prog 129 [.c (.t none (.sl 5 (enS5 (enSl 2 (enS2 encI (enSl 1 encI))) (enSl 2 (enS2 encI (enSl 1 encI))) encB encI encI) (l))), .c (.fv f cs)] [] 0 (.c (.t none (.v (.bool (l.any p))))) := by
 refine pu_enter Tryz.func129 rfl (Nat.le_of_ble_eq_true rfl) fun w S => ?_
 refine tsr ?_
 refine r_op oA ?_
 refine etr ?_
 refine r_op oM ?_
 refine r_op oM ?_
 refine r_op (o_call 0 0 false (Go.Proofs.enters_of Tryz.func170 (by kernel_rfl) rfl) (c_slices_IndexFunc___impl_Dependency_impl_Dependency_ (l) (f) (cs) (p) (by omega) (hf)) rfl (.cons rfl (.c .t0) (.cons rfl (.c .fv) .nil)) rfl rfl rfl) ?_
 refine r_op oB ?_
 refine r_op oA ?_
 refine r_end ?_
 refine t_ret Tryz.func129 (.tmp rfl .nil) rfl fun E S w u hI hd => ?_
 refine post_mk hI hd ?_ trivial rfl rfl rfl <;> clear hI hd
 all_goals (exact scB idx_any)
set_option maxHeartbeats 1000000 in
set_option maxRecDepth 10000 in
theorem c_impl_AreValidDependencies (rs : Rels) (l : List Dep) (hrs : rs.length ≤ 4611686018427387904) (hs : szS (fun (x : (List (Int × (List (Int)))) × (List (Int × (List (Int)))) × Bool × Int × Int) => (szS (fun (x : Int × (List (Int))) => (x.2).length) (x.1)) + (szS (fun (x : Int × (List (Int))) => (x.2).length) (x.2.1))) l ≤ 1048576) : Pu Tryz.prog 73 [.c (.t none (.sl 3 (enS3 encS encI encB) (rs))), .c (.t none (.sl 5 (enS5 (enSl 2 (enS2 encI (enSl 1 encI))) (enSl 2 (enS2 encI (enSl 1 encI))) encB encI encI) (l)))] [] 0 (.c (.t none (.v (.bool (depsOk rs l))))) := by
 refine pu_enter Tryz.func73 rfl (Nat.le_of_ble_eq_true rfl) fun w S => ?_
 have gl := sz_len (f := (fun (x : (List (Int × (List (Int)))) × (List (Int × (List (Int)))) × Bool × Int × Int) => (szS (fun (x : Int × (List (Int))) => (x.2).length) (x.1)) + (szS (fun (x : Int × (List (Int))) => (x.2).length) (x.2.1)))) (l := l)
 refine tsr ?_
 refine r_op (o_box 0 rfl rfl rfl rfl) ?_
 refine r_op oA ?_
 refine etr ?_
 refine r_op oL ?_
 refine r_op (o_call 1 1 false (Go.Proofs.enters_of Tryz.func97 (by kernel_rfl) rfl) (c_impl_AreValidRelations (rs) (by omega)) rfl (.cons rfl (.c .t0) .nil) rfl rfl rfl) ?_
 refine r_op oM ?_
 refine r_guard rfl rfl rfl (fun g1 => ?_) (fun g1 => ?_)
 ·
  have g1' := g1
  refine r_op oM ?_
  refine r_guard rfl rfl rfl (fun _ => ?_) (nc g1)
  refine r_op (o_len rfl rfl rfl) ?_
  refine r_guard rfl rfl rfl (fun _ => ?_) (nc g1)
  refine r_op oB ?_
  refine r_op (o_pickT rfl rfl g1 rfl) ?_
  refine r_op oM ?_
  refine r_guard rfl rfl rfl (fun g2 => ?_) (fun g2 => ?_)
  ·
   have g2' := of_decide_eq_true g2
   refine r_op oM ?_
   refine r_guard rfl rfl rfl (fun _ => ?_) (nc g2)
   refine r_op (o_makeFunc rfl (.cons rfl .nil)) ?_
   refine r_guard rfl rfl rfl (fun _ => ?_) (nc g2)
   refine r_op (o_call 1 1 false (Go.Proofs.enters_of Tryz.func129 (by kernel_rfl) rfl) (c_slices_ContainsFunc___impl_Dependency_impl_Dependency_ (l) (130) ([((enSl 3 (enS3 encS encI encB)) (rs), 1)]) (fun (x0 : (List (Int × (List (Int)))) × (List (Int × (List (Int)))) × Bool × Int × Int) => badD (rs) ((x0.1), (x0.2.1), (x0.2.2.1), (x0.2.2.2.1), (x0.2.2.2.2))) (by omega) (fun x0 mx0 => ⟨Go.Proofs.enters_of Tryz.func130 (by kernel_rfl) rfl, c_impl_AreValidDependencies_1 (x0.1) (x0.2.1) (x0.2.2.1) (x0.2.2.2.1) (x0.2.2.2.2) (rs) (by omega) (by (have e1 := sz_mem (f := (fun (x : (List (Int × (List (Int)))) × (List (Int × (List (Int)))) × Bool × Int × Int) => (szS (fun (x : Int × (List (Int))) => (x.2).length) (x.1)) + (szS (fun (x : Int × (List (Int))) => (x.2).length) (x.2.1)))) (l := l) (by assumption); (try dsimp only at e1); omega))⟩)) rfl (.cons rfl (.c .t0) (.cons rfl (.c (.clo (.cons rfl rfl rfl (.cons .t .nil) .nil))) .nil)) rfl rfl rfl) ?_
   refine r_guard rfl rfl rfl (fun _ => ?_) (nc g2)
   refine r_op (o_not rfl rfl) ?_
   refine r_op (o_pickT rfl rfl g2 rfl) ?_
   refine r_op oA ?_
   refine r_end ?_
   refine t_ret Tryz.func73 (.tmp rfl .nil) rfl fun E S w u hI hd => ?_
   refine post_mk hI hd ?_ trivial rfl rfl rfl <;> clear hI hd
   all_goals (refine scB ?_; clear hs gl; unfold depsOk; grind)
  ·
   have g2' := of_decide_eq_false g2
   refine r_guard rfl rfl rfl (ncf g2) (fun _ => ?_)
   refine r_guard rfl rfl rfl (ncf g2) (fun _ => ?_)
   refine r_guard rfl rfl rfl (ncf g2) (fun _ => ?_)
   refine r_op (o_pickF rfl rfl g2 rfl) ?_
   refine r_op oA ?_
   refine r_end ?_
   refine t_ret Tryz.func73 (.tmp rfl .nil) rfl fun E S w u hI hd => ?_
   refine post_mk hI hd ?_ trivial rfl rfl rfl <;> clear hI hd
   all_goals (refine scB ?_; clear hs gl; unfold depsOk; grind)
 ·
  have g1' := g1
  refine r_guard rfl rfl rfl (ncf g1) (fun _ => ?_)
  refine r_guard rfl rfl rfl (ncf g1) (fun _ => ?_)
  refine r_op (o_pickF rfl rfl g1 rfl) ?_
  refine r_op oM ?_
  refine r_guard rfl rfl rfl (ncf rfl) (fun _ => ?_)
  refine r_guard rfl rfl rfl (ncf rfl) (fun _ => ?_)
  refine r_guard rfl rfl rfl (ncf rfl) (fun _ => ?_)
  refine r_guard rfl rfl rfl (ncf rfl) (fun _ => ?_)
  refine r_op (o_pickF rfl rfl rfl rfl) ?_
  refine r_op oA ?_
  refine r_end ?_
  refine t_ret Tryz.func73 (.tmp rfl .nil) rfl fun E S w u hI hd => ?_
  refine post_mk hI hd ?_ trivial rfl rfl rfl <;> clear hI hd
  all_goals (refine scB ?_; clear hs gl; unfold depsOk; grind)
set_option maxHeartbeats 1000000 in
set_option maxRecDepth 10000 in
theorem c_impl_areMatchable (rs : Rels) (fs l : Atoms) (hrs : rs.length ≤ 4611686018427387904) (hfs : szS (fun (x : Int × (List (Int))) => (x.2).length) fs ≤ 1048576) (hll : szS (fun (x : Int × (List (Int))) => (x.2).length) l ≤ 1048576) (ho : ∀ z ∈ fs, ∀ x ∈ z.2, okI x) : Pu Tryz.prog 49 [.agg [.t none (.sl 3 (enS3 encS encI encB) (rs)), .t none (.sl 2 (enS2 encI (enSl 1 encI)) (fs))], .c (.t none (.sl 2 (enS2 encI (enSl 1 encI)) (l)))] [] 0 (.c (.t none (.v (.bool (mtOk rs fs l))))) := by
 refine pu_enter Tryz.func49 rfl (Nat.le_of_ble_eq_true rfl) fun w S => ?_
 have gl := sz_len (f := (fun (x : Int × (List (Int))) => (x.2).length)) (l := l)
 refine tsr ?_
 refine r_op (o_box 0 rfl rfl rfl rfl) ?_
 refine r_op oA ?_
 refine etr ?_
 refine r_op (oC 2) ?_
 refine r_op (o_call 1 1 false (Go.Proofs.enters_of Tryz.func45 (by kernel_rfl) rfl) (c_impl_IsValidInstance (rs) (fs) (by omega) (by omega) (by omega)) rfl (.cons rfl (.agg (.cons .t0 (.cons .t0 .nil))) .nil) rfl rfl rfl) ?_
 refine r_op oM ?_
 refine r_guard rfl rfl rfl (fun g1 => ?_) (fun g1 => ?_)
 ·
  have g1' := g1
  refine r_op oM ?_
  refine r_guard rfl rfl rfl (fun _ => ?_) (nc g1)
  refine r_op (o_len rfl rfl rfl) ?_
  refine r_guard rfl rfl rfl (fun _ => ?_) (nc g1)
  refine r_op oB ?_
  refine r_guard rfl rfl rfl (fun _ => ?_) (nc g1)
  refine r_op oM ?_
  refine r_guard rfl rfl rfl (fun g2 => ?_) (fun g2 => ?_)
  ·
   have g2' := of_decide_eq_false g2
   refine r_op (oF 0) ?_
   refine r_guard rfl rfl rfl (fun _ => ?_) (ncf g2)
   refine r_op oL ?_
   refine r_guard rfl rfl rfl (fun _ => ?_) (ncf g2)
   refine r_op oM ?_
   refine r_guard rfl rfl rfl (fun _ => ?_) (ncf g2)
   refine r_op (o_call 1 1 false (Go.Proofs.enters_of Tryz.func109 (by kernel_rfl) rfl) (c_impl_areAtoms (rs) (l) (3) (by omega) (by omega)) rfl (.cons rfl (.c .t0) (.cons rfl (.c .t0) (.cons rfl (.c .t0) .nil))) rfl rfl rfl) ?_
   refine r_guard rfl rfl rfl (fun _ => ?_) (nc g1)
   refine r_op (o_pickF rfl rfl g2 rfl) ?_
   refine r_op (o_pickT rfl rfl g1 rfl) ?_
   refine r_op oA ?_
   refine r_end ?_
   refine t_ret Tryz.func49 (.tmp rfl .nil) rfl fun E S w u hI hd => ?_
   refine post_mk hI hd ?_ trivial rfl rfl rfl <;> clear hI hd
   all_goals (refine scB ?_; clear hrs hfs hll ho gl; unfold mtOk; (try unfold atomsOk at *); grind)
  ·
   have g2' := of_decide_eq_true g2
   refine r_guard rfl rfl rfl (nc g2) (fun _ => ?_)
   refine r_guard rfl rfl rfl (nc g2) (fun _ => ?_)
   refine r_guard rfl rfl rfl (nc g2) (fun _ => ?_)
   refine r_guard rfl rfl rfl (fun _ => ?_) (nc g1)
   refine r_op (o_pickT rfl rfl g2 rfl) ?_
   refine r_op (o_pickT rfl rfl g1 rfl) ?_
   refine r_op oA ?_
   refine r_end ?_
   refine t_ret Tryz.func49 (.tmp rfl .nil) rfl fun E S w u hI hd => ?_
   refine post_mk hI hd ?_ trivial rfl rfl rfl <;> clear hI hd
   all_goals (refine scB ?_; clear hrs hfs hll ho gl; unfold mtOk; (try unfold atomsOk at *); grind)
 ·
  have g1' := g1
  refine r_guard rfl rfl rfl (ncf g1) (fun _ => ?_)
  refine r_guard rfl rfl rfl (ncf g1) (fun _ => ?_)
  refine r_guard rfl rfl rfl (ncf g1) (fun _ => ?_)
  refine r_skip rfl rfl rfl ?_
  refine r_skip rfl rfl rfl ?_
  refine r_skip rfl rfl rfl ?_
  refine r_skip rfl rfl rfl ?_
  refine r_guard rfl rfl rfl (ncf g1) (fun _ => ?_)
  refine r_op (o_pickF rfl rfl g1 rfl) ?_
  refine r_op oA ?_
  refine r_end ?_
  refine t_ret Tryz.func49 (.tmp rfl .nil) rfl fun E S w u hI hd => ?_
  refine post_mk hI hd ?_ trivial rfl rfl rfl <;> clear hI hd
  all_goals (refine scB ?_; clear hrs hfs hll ho gl; unfold mtOk; (try unfold atomsOk at *); grind)
set_option maxHeartbeats 1000000 in
set_option maxRecDepth 10000 in
theorem c_math_bits_Mul64  : Pu Tryz.prog 185 [.c (.t none (.v (.int .u64 (1)))), .c (.t none (.v (.int .u64 (5))))] [] 0 (.tup [(false, [.t none (.v (.int .u64 (0)))]), (false, [.t none (.v (.int .u64 (5)))])]) := by
 refine pu_enter Tryz.func185 rfl (Nat.le_of_ble_eq_true rfl) fun w S => ?_
 refine tsr ?_
 refine r_op oA ?_
 refine r_op oA ?_
 refine etr ?_
 refine r_op oM ?_
 refine r_op (o_binD rfl rfl rfl (rfl)) ?_
 refine r_op oA ?_
 refine etr ?_
 refine r_op oM ?_
 refine r_op (o_sh rfl rfl rfl (rfl)) ?_
 refine r_op oA ?_
 refine etr ?_
 refine r_op oM ?_
 refine r_op (o_binD rfl rfl rfl (rfl)) ?_
 refine r_op oA ?_
 refine etr ?_
 refine r_op oM ?_
 refine r_op (o_sh rfl rfl rfl (rfl)) ?_
 refine r_op oA ?_
 refine etr ?_
 refine r_op oM ?_
 refine r_op oM ?_
 refine r_op oB ?_
 refine r_op oA ?_
 refine etr ?_
 refine r_op oM ?_
 refine r_op oM ?_
 refine r_op oB ?_
 refine r_op oM ?_
 refine r_op (o_sh rfl rfl rfl (rfl)) ?_
 refine r_op oB ?_
 refine r_op oA ?_
 refine etr ?_
 refine r_op oM ?_
 refine r_op (o_binD rfl rfl rfl (rfl)) ?_
 refine r_op oA ?_
 refine etr ?_
 refine r_op oM ?_
 refine r_op (o_sh rfl rfl rfl (rfl)) ?_
 refine r_op oA ?_
 refine etr ?_
 refine r_op oM ?_
 refine r_op oM ?_
 refine r_op oM ?_
 refine r_op oB ?_
 refine r_op oB ?_
 refine r_op oA ?_
 refine etr ?_
 refine r_op oM ?_
 refine r_op oM ?_
 refine r_op oB ?_
 refine r_op oM ?_
 refine r_op oB ?_
 refine r_op oM ?_
 refine r_op (o_sh rfl rfl rfl (rfl)) ?_
 refine r_op oB ?_
 refine r_op oA ?_
 refine etr ?_
 refine r_op oM ?_
 refine r_op oM ?_
 refine r_op oB ?_
 refine r_op oA ?_
 refine r_end ?_
 refine t_ret Tryz.func185 (.tmp rfl (.tmp rfl .nil)) rfl fun E S w u hI hd => ?_
 refine post_mk hI hd ?_ trivial rfl rfl rfl <;> clear hI hd
 all_goals (rfl)
set_option maxHeartbeats 1000000 in
set_option maxRecDepth 10000 in
theorem c_math_bits_Mul  : Pu Tryz.prog 165 [.c (.t none (.v (.int .u64 (1)))), .c (.t none (.v (.int .u64 (5))))] [] 0 (.tup [(false, [.t none (.v (.int .u64 (0)))]), (false, [.t none (.v (.int .u64 (5)))])]) := by
 refine pu_enter Tryz.func165 rfl (Nat.le_of_ble_eq_true rfl) fun w S => ?_
 refine tsr ?_
 refine r_op oA ?_
 refine r_op oA ?_
 refine r_end ?_
 refine t_seq ?_
 refine t_cond rfl (fun h' => Bool.noConfusion h') (fun _ => ?_)
 refine t_skip ?_
 refine tsr ?_
 refine r_op oM ?_
 refine r_op oM ?_
 refine r_op (o_call 0 0 false (Go.Proofs.enters_of Tryz.func185 (by kernel_rfl) rfl) (c_math_bits_Mul64 ) rfl (.cons rfl (.c .t0) (.cons rfl (.c .t0) .nil)) rfl rfl rfl) ?_
 refine r_op oM ?_
 refine r_op (o_extract rfl rfl rfl rfl) ?_
 refine r_op (o_extract rfl rfl rfl rfl) ?_
 refine r_op oA ?_
 refine r_op oA ?_
 refine etr ?_
 refine r_op oM ?_
 refine r_op oM ?_
 refine r_op oA ?_
 refine r_op oA ?_
 refine r_end ?_
 refine t_ret Tryz.func165 (.tmp rfl (.tmp rfl .nil)) rfl fun E S w u hI hd => ?_
 refine post_mk hI hd ?_ trivial rfl rfl rfl <;> clear hI hd
 all_goals (rfl)
end Go.Eng
