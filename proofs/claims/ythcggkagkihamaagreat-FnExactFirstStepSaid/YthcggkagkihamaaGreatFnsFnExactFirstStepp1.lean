/- What the functions that FnExactFirstStep reaches answer. -/
import Derived.Test.YthcggkagkihamaaGreatFnsFnExactFirstStepp0
import Derived.Test.YthcggkagkihamaaGreatEngZN
import Derived.Test.YthcggkagkihamaaGreatChecked
set_option linter.unusedVariables false
set_option linter.unusedSimpArgs false
namespace Go.Eng
open Go Go.RowKit Go.Proofs
set_option maxHeartbeats 1000000
set_option maxRecDepth 10000
theorem c_spec_ActiveTriggers (rs : Rels) (fs : Atoms) (a0 : List (Int × (List (Int)))) (a1 : List (Int × (List (Int)))) (a2 : Bool) (a3 : Int) (a4 : Int) (hrs : rs.length ≤ 4611686018427387904) (hfs : szS (fun (x : Int × (List (Int))) => (x.2).length) fs ≤ 1048576) (ho : ∀ z ∈ fs, ∀ x ∈ z.2, okI x) (hs : szS (fun (x : Int × (List (Int))) => (x.2).length) a0 + szS (fun (x : Int × (List (Int))) => (x.2).length) a1 ≤ 1048576) (hoa : ∀ z ∈ a0, ∀ x ∈ z.2, okI x) : Pu Tryz.prog 72 [.agg [.t none (.sl 3 (enS3 encS encI encB) (rs)), .t none (.sl 2 (enS2 encI (enSl 1 encI)) (fs))], .agg [.t none (.sl 2 (enS2 encI (enSl 1 encI)) (a0)), .t none (.sl 2 (enS2 encI (enSl 1 encI)) (a1)), .t none (.v (.bool (a2))), .t none (.v (.int .i64 (a3))), .t none (.v (.int .i64 (a4)))]] [(2, some (.row none 29 true 1 (enSl 1 encI) (actL rs fs a0 a1 a2 a3 a4)))] 3 (.c (.own 2)) := by
 refine pu_enter Tryz.func72 rfl (Nat.le_of_ble_eq_true rfl) fun w S => ?_
 have g0 := sz_len (f := (fun (x : Int × (List (Int))) => (x.2).length)) (l := a0); have g1 := findL_len rs fs a0
 refine tsr ?_
 refine r_op (o_box 0 rfl rfl rfl rfl) ?_
 refine r_op (o_box 1 rfl rfl rfl rfl) ?_
 refine rA<|etr ?_
 refine r_op (o_lit0 2 (e := 29) (sz := 1) (zs := [.slice none 0 0]) (enSl 1 encI) rfl rfl (by kernel_rfl) rfl) ?_
 refine rA<|r_end<|t_seq<|tsr ?_
 refine rF 0 ?_
 refine rL ?_
 refine rC 5 ?_
 refine r_op (o_call 3 3 false (en Tryz.func129) (c_spec_IsValidDependency (rs) (a0) (a1) (a2) (a3) (a4) (by omega) (by omega)) rfl (.cons rfl (.c .t0) (.cons rfl (.agg (.cons .t0 (.cons .t0 (.cons .t0 (.cons .t0 (.cons .t0 .nil)))))) .nil)) rfl rfl rfl) ?_
 refine r_op (o_not rfl rfl) ?_
 refine r_end ?_
 refine t_cond rfl (fun h1 => ?_) (fun h1 => ?_)
 ·
  have h1' := (bnt h1)
  refine tsr<|rM ?_
  refine rA<|r_end ?_
  refine tk Tryz.func72 (.tmp rfl .nil) ?_ (hL := ⟨eqR ?_, trivial⟩) <;> (try clear ih0)
  all_goals first | rfl | ((exact actL_no (by simp_all; done)))
 ·
  have h1' := (bnf h1)
  refine t_skip<|tsr<|rC 2 ?_
  refine rF 0 ?_
  refine rL ?_
  refine r_op (o_call 3 5 false (en Tryz.func130) (c_spec_FindMatches (rs) (fs) (a0) (by omega) (by omega) (by omega) (by omega)) rfl (.cons rfl (.agg (.cons .t0 (.cons .t0 .nil))) (.cons rfl (.c .t0) .nil)) rfl rfl rfl) ?_
  refine rA<|r_end<|t_seq<|tsr ?_
  refine rA<|r_end<|t_block ?_
  refine gt_sum 4 rfl ?_
  refine t_loopL (fun (vs, m) => ⟨[(2, some (.c (.ptr 0 0))), (3, some (.c (.ptr 1 0))), (4, some (.c (.t none (.v (.slice none 0 0))))), (5, some (.c (.own 2))), (6, some (.c (.own 4))), (7, some (.c (.t none (.v (.int .i64 ((m : Int)))))))], [(0, some (.box [.t none (.sl 3 (enS3 encS encI encB) (rs)), .t none (.sl 2 (enS2 encI (enSl 1 encI)) (fs))])), (1, some (.box [.t none (.sl 2 (enS2 encI (enSl 1 encI)) (a0)), .t none (.sl 2 (enS2 encI (enSl 1 encI)) (a1)), .t none (.v (.bool (a2))), .t none (.v (.int .i64 (a3))), .t none (.v (.int .i64 (a4)))])), (2, some (.row none 29 true 1 (enSl 1 encI) (((findL rs fs a0).take m).filter (actOk rs fs a0 a1 a2 a3 a4)))), (4, some (.row none 29 true 1 (encK (enSl 1 encI)) (tkL vs (findL rs fs a0))))], 5⟩ : List Value × Nat → St) (fun (vs, m) => vs.length = m ∧ m ≤ (findL rs fs a0).length) (fun (vs, m) => (findL rs fs a0).length - m) ([], 0) ⟨⟨rfl, ⟨rfl, ⟨rfl, ⟨rfl, ⟨rfl, ⟨rfl, trivial⟩⟩⟩⟩⟩⟩, ⟨rfl, ⟨rfl, ⟨rfl, ⟨rfl, trivial⟩⟩⟩⟩, rfl⟩ (by exact ⟨rfl, Nat.zero_le _⟩) ?_
  rintro ⟨vs, m⟩ hI ih0
  try dsimp only at hI ih0
  obtain ⟨i0, i1⟩ := hI; have tl := tkL_len (vs := vs) (L := findL rs fs a0) (by omega); have fr := filt_room (p := actOk rs fs a0 a1 a2 a3 a4) (L := findL rs fs a0) (m := m) g1
  refine t_seq<|tsr<|rM ?_
  refine rM ?_
  refine r_op (o_leno rfl rfl rfl rfl) ?_
  refine rB<|r_end ?_
  refine t_cond rfl (fun h2 => ?_) (fun h2 => ?_)
  ·
   have h2' := of_decide_eq_true h2
   refine t_skip<|t_seq<|t_block<|t_seq ?_
   obtain ⟨z3, hz4, b5⟩ := at_get (xs := findL rs fs a0) (n := (m : Int)) (by omega) (by omega)
   refine gt_take0 5 4 rfl rfl (tkL_at (by omega) hz4) fun e6 v7 => ?_
   refine t_draw (fun _ => true) (by kernel_rfl) ?_
   refine dT 0 rfl (pC 2) ?_
   refine dT 1 rfl (pC 5) ?_
   refine dT 2 rfl pM ?_
   refine dT 3 rfl pM ?_
   obtain ⟨z8, hz9, b10⟩ := at_get (xs := (tkL vs (findL rs fs a0)).set (m : Int).toNat (.inl v7)) (n := (m : Int)) (by omega) (by (rw [List.length_set]; omega))
   refine dT 4 rfl (p_indexo (by kernel_rfl) rfl rfl rfl b10 (at_lt b10 hz9)) ?_
   refine dT 5 rfl (p_loadpin (k := 5) (o := 0) (by kernel_rfl) rfl rfl (tk_got (by omega) (by omega)) rfl) ?_
   refine dO 6 rfl (o_call 6 6 false (en Tryz.func32) (c_spec_IsActiveTrigger (rs) (fs) (a0) (a1) (a2) (a3) (a4) (z3) (by omega) (by omega) (by omega) (by omega) (by omega) (by exact findL_ok (fun f hf => ho f hf) (List.mem_of_getElem? (by assumption))) (by (have e5 := findL_five (List.mem_of_getElem? (by assumption)); omega))) rfl (.cons rfl (.agg (.cons .t0 (.cons .t0 .nil))) (.cons rfl (.agg (.cons .t0 (.cons .t0 (.cons .t0 (.cons .t0 (.cons .t0 .nil)))))) (.cons rfl (.c (.own rfl)) .nil))) rfl rfl rfl) ?_
   refine d_end (by kernel_rfl) ?_
   refine t_cond rfl (fun h11 => ?_) (fun h11 => ?_)
   ·
    have h11' := h11
    refine t_region<|rM ?_
    refine rM ?_
    refine rM ?_
    refine r_op (o_indexo rfl (by kernel_rfl) rfl rfl rfl b10 (at_lt b10 hz9)) ?_
    refine r_op (o_loadpin rfl (k := 5) (o := 0) (by kernel_rfl) rfl rfl (tk_got (by omega) (by omega)) rfl) ?_
    refine r_op (o_litS 6 (e := 29) (sz := 1) (zs := [.slice none 0 0]) rfl rfl (by kernel_rfl) rfl rfl rfl rfl rfl) ?_
    refine r_op (o_append 2 (e := 29) (sz := 1) (by' := 24) (z3) rfl (by kernel_rfl) rfl rfl rfl rfl rfl rfl (.take (.own rfl) rfl .nil) rfl (by omega) (by omega)) ?_
    refine rA<|r_end<|t_endblock<|t_region ?_
    refine rM ?_
    refine rB ?_
    refine rA<|r_end ?_
    refine t_le ?_ (ih0 (vs ++ [v7], m + 1) (by (try dsimp only); omega) (by (try dsimp only); exact ⟨by simp; omega, by omega⟩))
    exact ⟨⟨rfl, ⟨rfl, ⟨rfl, ⟨rfl, ⟨rfl, ⟨(eqI (wr64 (by omega) (by omega))), trivial⟩⟩⟩⟩⟩⟩, ⟨rfl, ⟨rfl, ⟨(eqR (by exact filt_hit hz4 rfl (by assumption))), ⟨(eqR (tkL_set i0 (by omega))), trivial⟩⟩⟩⟩, rfl⟩
   ·
    have h11' := h11
    refine t_skip<|t_endblock<|t_region<|rM ?_
    refine rB ?_
    refine rA<|r_end ?_
    refine t_le ?_ (ih0 (vs ++ [v7], m + 1) (by (try dsimp only); omega) (by (try dsimp only); exact ⟨by simp; omega, by omega⟩))
    exact ⟨⟨rfl, ⟨rfl, ⟨rfl, ⟨rfl, ⟨rfl, ⟨(eqI (wr64 (by omega) (by omega))), trivial⟩⟩⟩⟩⟩⟩, ⟨rfl, ⟨rfl, ⟨(eqR (by exact filt_miss hz4 rfl (by assumption))), ⟨(eqR (tkL_set i0 (by omega))), trivial⟩⟩⟩⟩, rfl⟩
  ·
   have h2' := of_decide_eq_false h2
   refine t_exit rfl<|tsr<|rM ?_
   refine rA<|r_end ?_
   refine tk Tryz.func72 (.tmp rfl .nil) ?_ (hL := ⟨eqR ?_, trivial⟩) <;> (try clear ih0)
   all_goals first | rfl | ((exact actL_yes (by assumption) (by omega)))
theorem c_spec_FirstViolation (rs : Rels) (fs : Atoms) (ds : List Dep) (hrs : rs.length ≤ 4611686018427387904) (hfs : szS (fun (x : Int × (List (Int))) => (x.2).length) fs ≤ 1048576) (hds : szS (fun (x : (List (Int × (List (Int)))) × (List (Int × (List (Int)))) × Bool × Int × Int) => (szS (fun (x : Int × (List (Int))) => (x.2).length) (x.1)) + (szS (fun (x : Int × (List (Int))) => (x.2).length) (x.2.1))) ds ≤ 1048576) (ho : ∀ z ∈ fs, ∀ x ∈ z.2, okI x) (hod : ∀ d ∈ ds, ∀ z ∈ d.1, ∀ x ∈ z.2, okI x) : PuE Tryz.prog 68 [.agg [.t none (.sl 3 (enS3 encS encI encB) (rs)), .t none (.sl 2 (enS2 encI (enSl 1 encI)) (fs))], .c (.t none (.sl 5 (enS5 (enSl 2 (enS2 encI (enSl 1 encI))) (enSl 2 (enS2 encI (enSl 1 encI))) encB encI encI) (ds)))] (fun et => [(0, some (.row none et true 1 encI (vioB rs fs ds)))]) 1 (.tup [(false, [.t none (.v (.int .i64 (vioI rs fs ds)))]), (false, [.own 0]), (false, [.t none (.v (.bool (vioOk rs fs ds)))])]) := by
 refine pu_enterE Tryz.func68 rfl (Nat.le_of_ble_eq_true rfl) fun w S => ?_
 have gl := sz_len (f := (fun (x : (List (Int × (List (Int)))) × (List (Int × (List (Int)))) × Bool × Int × Int) => (szS (fun (x : Int × (List (Int))) => (x.2).length) (x.1)) + (szS (fun (x : Int × (List (Int))) => (x.2).length) (x.2.1)))) (l := ds)
 refine tsr ?_
 refine r_op (o_box 0 rfl rfl rfl rfl) ?_
 refine rA ?_
 refine rA ?_
 refine rA<|r_end<|t_seq<|tsr ?_
 refine rA<|r_end<|t_block ?_
 refine t_loopL (fun m => ⟨[(1, some (.c (.t none (.sl 5 (enS5 (enSl 2 (enS2 encI (enSl 1 encI))) (enSl 2 (enS2 encI (enSl 1 encI))) encB encI encI) (ds))))), (2, some (.c (.ptr 0 0))), (7, some (.c (.t none (.v (.int .i64 ((m : Int)))))))], [(0, some (.box [.t none (.sl 3 (enS3 encS encI encB) (rs)), .t none (.sl 2 (enS2 encI (enSl 1 encI)) (fs))]))], 1⟩ : Nat → St) (fun m => m ≤ ds.length ∧ ∀ j z, j < m → ds[j]? = some z → hotD rs fs z = false) (fun m => ds.length - m) 0 ⟨⟨rfl, ⟨rfl, ⟨rfl, trivial⟩⟩⟩, ⟨rfl, trivial⟩, rfl⟩ (by exact ⟨Nat.zero_le _, fun j z h => by omega⟩) ?_
 rintro m hI ih0
 try dsimp only at hI ih0
 obtain ⟨i1, i2⟩ := hI
 refine t_seq<|tsr<|rM ?_
 refine rM ?_
 refine r_op (o_len rfl rfl rfl) ?_
 refine rB ?_
 refine rM ?_
 refine rG (fun g1 => ?_) (fun g1 => ?_)
 ·
  have g1' := of_decide_eq_true g1
  refine rF 0 ?_
  refine rG (fun _ => ?_) (nc g1)
  refine rL ?_
  refine rG (fun _ => ?_) (nc g1)
  refine rM ?_
  refine rG (fun _ => ?_) (nc g1)
  refine r_op (o_call 1 1 false (en Tryz.func121) (c_spec_AreValidDependencies (rs) (ds) (by omega) (by omega)) rfl (.cons rfl (.c .t0) (.cons rfl (.c .t0) .nil)) rfl rfl rfl) ?_
  refine r_op (o_pickT rfl rfl g1 rfl) ?_
  refine rM ?_
  refine rG (fun g2 => ?_) (fun g2 => ?_)
  ·
   have g2' := g2
   refine rC 2 ?_
   refine rG (fun _ => ?_) (nc g2)
   refine r_op (o_call 1 1 false (en Tryz.func98) (c_spec_IsValidInstance (rs) (fs) (by omega) (by omega) (by omega)) rfl (.cons rfl (.agg (.cons .t0 (.cons .t0 .nil))) .nil) rfl rfl rfl) ?_
   refine r_op (o_pickT rfl rfl g2 rfl) ?_
   refine r_end ?_
   refine t_cond rfl (fun h3 => ?_) (fun h3 => ?_)
   ·
    have h3' := h3
    refine t_skip<|t_seq<|t_block<|t_seq ?_
    refine t_draw (fun _ => true) (by kernel_rfl) ?_
    refine dT 0 rfl (pC 2) ?_
    refine dT 1 rfl pM ?_
    refine dT 2 rfl pM ?_
    obtain ⟨z4, hz5, b6⟩ := at_get (xs := ds) (n := (m : Int)) (by omega) (by omega)
    refine dT 3 rfl (p_index (by kernel_rfl) rfl rfl b6 hz5) ?_
    refine dT 4 rfl (p_loadA (n := 5) (by kernel_rfl) (by kernel_rfl) rfl rfl) ?_
    refine dO 5 rfl (o_call 1 4 false (en Tryz.func72) (c_spec_ActiveTriggers (rs) (fs) (z4.1) (z4.2.1) (z4.2.2.1) (z4.2.2.2.1) (z4.2.2.2.2) (by omega) (by omega) (by omega) (by (have e1 := sz_at (f := (fun (x : (List (Int × (List (Int)))) × (List (Int × (List (Int)))) × Bool × Int × Int) => (szS (fun (x : Int × (List (Int))) => (x.2).length) (x.1)) + (szS (fun (x : Int × (List (Int))) => (x.2).length) (x.2.1)))) (l := ds) (m := m) (by assumption); (try dsimp only at e1); omega)) (by exact hod _ (List.mem_of_getElem? (by assumption)))) rfl (.cons rfl (.agg (.cons .t0 (.cons .t0 .nil))) (.cons rfl (.agg (.cons .t0 (.cons .t0 (.cons .t0 (.cons .t0 (.cons .t0 .nil)))))) .nil)) rfl rfl rfl) ?_
    refine dT 6 rfl pA ?_
    refine d_end (by kernel_rfl) ?_
    refine tsr<|rM ?_
    refine r_op (o_leno rfl rfl rfl rfl) ?_
    refine rB<|r_end ?_
    refine t_cond rfl (fun h7 => ?_) (fun h7 => ?_)
    ·
     have h7' := of_decide_eq_true h7
     refine t_seq ?_
     refine gt_sum 3 rfl ?_
     obtain ⟨z8, hz9, b10⟩ := at_get (xs := actL rs fs z4.1 z4.2.1 z4.2.2.1 z4.2.2.2.1 z4.2.2.2.2) (n := (0 : Int)) (by omega) (by omega)
     refine gt_take0 4 3 rfl rfl (tkL_at (by rfl) hz9) fun e11 v12 => ?_
     refine t_draw (fun _ => true) (by kernel_rfl) ?_
     refine dT 0 rfl pM ?_
     refine dT 1 rfl pM ?_
     obtain ⟨z13, hz14, b15⟩ := at_get (xs := (tkL [] (actL rs fs z4.1 z4.2.1 z4.2.2.1 z4.2.2.2.1 z4.2.2.2.2)).set (0 : Int).toNat (.inl v12)) (n := 0) (by omega) (by (rw [tk_len2 (Nat.zero_le _)]; omega))
     refine dT 2 rfl (p_indexo (by kernel_rfl) rfl rfl rfl b15 (at_lt b15 hz14)) ?_
     refine dT 3 rfl (p_loadpin (k := 4) (o := 0) (by kernel_rfl) rfl rfl (tk_got (by rfl) (by omega)) rfl) ?_
     refine dT 4 rfl pA ?_
     refine dT 5 rfl pA ?_
     refine dT 6 rfl pA ?_
     refine d_end (by kernel_rfl) ?_
     refine gt_as [4] rfl ?_ rfl
     refine t_ret Tryz.func68 (.tmp rfl (.tmp rfl (.tmp rfl .nil))) rfl fun E S w u hI hd => ?_
     refine ⟨_, post_mk hI hd ?_ ⟨eqR ?_, trivial⟩ rfl rfl rfl⟩ <;> clear hI hd <;> (try clear ih0)
     all_goals ((have v1 := vio_hit (rs := rs) (fs := fs) (by assumption) (by assumption) i2 hz5 (hotD_pos (by assumption)) hz9; first | exact v1.2.2.symm | exact tup3V v1.2.1.symm v1.1.symm))
    ·
     have h7' := of_decide_eq_false h7
     refine t_skip<|t_endblock<|t_region<|rM ?_
     refine rB ?_
     refine rA<|r_end ?_
     refine t_le ?_ (ih0 (m + 1) (by (try dsimp only); omega) (by (try dsimp only); exact ⟨by omega, no_step i2 hz5 rfl (hotD_not (by assumption))⟩))
     exact ⟨⟨rfl, ⟨rfl, ⟨(eqI (wr64 (by omega) (by omega))), trivial⟩⟩⟩, ⟨rfl, trivial⟩, rfl⟩
   ·
    have h3' := h3
    refine t_exit rfl<|tsr ?_
    refine r_op (o_lit0 1 (e := 3) (sz := 1) (zs := [.int .i64 (0)]) encI rfl rfl (by kernel_rfl) rfl) ?_
    refine rA ?_
    refine rA ?_
    refine rA<|r_end ?_
    refine gt_as [1] rfl ?_ rfl
    refine t_ret Tryz.func68 (.tmp rfl (.tmp rfl (.tmp rfl .nil))) rfl fun E S w u hI hd => ?_
    refine ⟨_, post_mk hI hd ?_ ⟨eqR ?_, trivial⟩ rfl rfl rfl⟩ <;> clear hI hd <;> (try clear ih0)
    all_goals (((have v0 : vioOk rs fs ds = false := (by exact vio_bad1 (by assumption))); have v1 := vio_off v0; first | exact v1.2.symm | exact tup3V v1.1.symm v0.symm))
  ·
   have g2' := g2
   refine rG (ncf g2) (fun _ => ?_)
   refine r_op (o_pickF rfl rfl g2 rfl) ?_
   refine r_end ?_
   refine t_cond rfl (ncf rfl) (fun _ => ?_)
   refine t_exit rfl<|tsr ?_
   refine r_op (o_lit0 1 (e := 3) (sz := 1) (zs := [.int .i64 (0)]) encI rfl rfl (by kernel_rfl) rfl) ?_
   refine rA ?_
   refine rA ?_
   refine rA<|r_end ?_
   refine gt_as [1] rfl ?_ rfl
   refine t_ret Tryz.func68 (.tmp rfl (.tmp rfl (.tmp rfl .nil))) rfl fun E S w u hI hd => ?_
   refine ⟨_, post_mk hI hd ?_ ⟨eqR ?_, trivial⟩ rfl rfl rfl⟩ <;> clear hI hd <;> (try clear ih0)
   all_goals (((have v0 : vioOk rs fs ds = false := (by exact vio_bad2 (by assumption))); have v1 := vio_off v0; first | exact v1.2.symm | exact tup3V v1.1.symm v0.symm))
 ·
  have g1' := of_decide_eq_false g1
  refine rG (ncf g1) (fun _ => ?_)
  refine rG (ncf g1) (fun _ => ?_)
  refine rG (ncf g1) (fun _ => ?_)
  refine r_op (o_pickF rfl rfl g1 rfl) ?_
  refine rM ?_
  refine rG (ncf rfl) (fun _ => ?_)
  refine rG (ncf rfl) (fun _ => ?_)
  refine r_op (o_pickF rfl rfl rfl rfl) ?_
  refine r_end ?_
  refine t_cond rfl (ncf rfl) (fun _ => ?_)
  refine t_exit rfl<|tsr ?_
  refine r_op (o_lit0 1 (e := 3) (sz := 1) (zs := [.int .i64 (0)]) encI rfl rfl (by kernel_rfl) rfl) ?_
  refine rA ?_
  refine rA ?_
  refine rA<|r_end ?_
  refine gt_as [1] rfl ?_ rfl
  refine t_ret Tryz.func68 (.tmp rfl (.tmp rfl (.tmp rfl .nil))) rfl fun E S w u hI hd => ?_
  refine ⟨_, post_mk hI hd ?_ ⟨eqR ?_, trivial⟩ rfl rfl rfl⟩ <;> clear hI hd <;> (try clear ih0)
  all_goals (((have v0 : vioOk rs fs ds = false := (by exact vio_none i2 (by omega))); have v1 := vio_off v0; first | exact v1.2.symm | exact tup3V v1.1.symm v0.symm))
theorem c_spec_l5Fact (r : Int) (ts : List Int) (hl : ts.length ≤ 1048576) : Pu Tryz.prog 95 [.agg [.t none (.v (.int .i64 (r))), .t none (.sl 1 encI (ts))]] [(2, some (.row none 3 true 1 encI (ts)))] 3 (.agg [.t none (.v (.int .i64 (r))), .own 2]) := by
 refine pu_enter Tryz.func95 rfl (Nat.le_of_ble_eq_true rfl) fun w S => ?_
 refine tsr ?_
 refine r_op (o_box 0 rfl rfl rfl rfl) ?_
 refine r_op (o_alloc 1 (zs := [.int .i64 (0), .slice none 0 0]) rfl rfl (by kernel_rfl) rfl) ?_
 refine r_end<|t_seq ?_
 refine t_draw (fun i => !(Nat.beq i 5 || Nat.beq i 7)) (by kernel_rfl) ?_
 refine dT 3 rfl (pF 1) ?_
 refine dT 4 rfl pL ?_
 refine d_two 0 2 rfl rfl (by kernel_rfl) rfl rfl (oF 0) (o_lit0 2 (e := 3) (sz := 1) (zs := [.int .i64 (0)]) encI rfl rfl (by kernel_rfl) rfl) ?_ ?_
 ·
  refine d_two 1 2 rfl rfl (by kernel_rfl) rfl rfl oL (o_lit0 2 (e := 3) (sz := 1) (zs := [.int .i64 (0)]) encI rfl rfl (by kernel_rfl) rfl) ?_ ?_
  ·
   refine dO 2 rfl (o_lit0 2 (e := 3) (sz := 1) (zs := [.int .i64 (0)]) encI rfl rfl (by kernel_rfl) rfl) ?_
   refine dO 5 rfl (o_appendS 2 (e := 3) (sz := 1) (by' := 8) rfl (by kernel_rfl) rfl rfl rfl rfl (fun _ _ => ⟨_, rfl⟩) (by (simp; omega)) (by (simp; omega))) ?_
   refine dT 6 rfl (p_build (pl := [(0, 1), (1, 1)]) (zs := [.int .i64 (0), .slice none 0 0]) (by kernel_rfl) (by kernel_rfl) rfl rfl rfl) ?_
   refine dO 7 rfl (oS 2) ?_
   refine d_end (by kernel_rfl) ?_
   refine tk Tryz.func95 (.cells (n := 2) (by kernel_rfl) (by kernel_rfl) rfl rfl rfl .nil) ?_ (hL := ⟨eqR ?_, trivial⟩)
   all_goals (rfl)
  ·
   refine d_two 1 5 rfl rfl (by kernel_rfl) rfl rfl oL (o_appendS 2 (e := 3) (sz := 1) (by' := 8) rfl (by kernel_rfl) rfl rfl rfl rfl (fun _ _ => ⟨_, rfl⟩) (by (simp; omega)) (by (simp; omega))) ?_ ?_
   ·
    refine dO 5 rfl (o_appendS 2 (e := 3) (sz := 1) (by' := 8) rfl (by kernel_rfl) rfl rfl rfl rfl (fun _ _ => ⟨_, rfl⟩) (by (simp; omega)) (by (simp; omega))) ?_
    refine dT 6 rfl (p_build (pl := [(0, 1), (1, 1)]) (zs := [.int .i64 (0), .slice none 0 0]) (by kernel_rfl) (by kernel_rfl) rfl rfl rfl) ?_
    refine dO 7 rfl (oS 2) ?_
    refine d_end (by kernel_rfl) ?_
    refine tk Tryz.func95 (.cells (n := 2) (by kernel_rfl) (by kernel_rfl) rfl rfl rfl .nil) ?_ (hL := ⟨eqR ?_, trivial⟩)
    all_goals (rfl)
   ·
    refine dT 1 rfl pL ?_
    refine dT 6 rfl (p_build (pl := [(0, 1), (1, 1)]) (zs := [.int .i64 (0), .slice none 0 0]) (by kernel_rfl) (by kernel_rfl) rfl rfl rfl) ?_
    refine dO 7 rfl (oS 2) ?_
    refine d_end (by kernel_rfl) ?_
    refine tk Tryz.func95 (.cells (n := 2) (by kernel_rfl) (by kernel_rfl) rfl rfl rfl .nil) ?_ (hL := ⟨eqR ?_, trivial⟩)
    all_goals (rfl)
 ·
  refine d_two 0 5 rfl rfl (by kernel_rfl) rfl rfl (oF 0) (o_appendS 2 (e := 3) (sz := 1) (by' := 8) rfl (by kernel_rfl) rfl rfl rfl rfl (fun _ _ => ⟨_, rfl⟩) (by (simp; omega)) (by (simp; omega))) ?_ ?_
  ·
   refine d_two 1 5 rfl rfl (by kernel_rfl) rfl rfl oL (o_appendS 2 (e := 3) (sz := 1) (by' := 8) rfl (by kernel_rfl) rfl rfl rfl rfl (fun _ _ => ⟨_, rfl⟩) (by (simp; omega)) (by (simp; omega))) ?_ ?_
   ·
    refine dO 5 rfl (o_appendS 2 (e := 3) (sz := 1) (by' := 8) rfl (by kernel_rfl) rfl rfl rfl rfl (fun _ _ => ⟨_, rfl⟩) (by (simp; omega)) (by (simp; omega))) ?_
    refine dT 6 rfl (p_build (pl := [(0, 1), (1, 1)]) (zs := [.int .i64 (0), .slice none 0 0]) (by kernel_rfl) (by kernel_rfl) rfl rfl rfl) ?_
    refine dO 7 rfl (oS 2) ?_
    refine d_end (by kernel_rfl) ?_
    refine tk Tryz.func95 (.cells (n := 2) (by kernel_rfl) (by kernel_rfl) rfl rfl rfl .nil) ?_ (hL := ⟨eqR ?_, trivial⟩)
    all_goals (rfl)
   ·
    refine dT 1 rfl pL ?_
    refine dT 6 rfl (p_build (pl := [(0, 1), (1, 1)]) (zs := [.int .i64 (0), .slice none 0 0]) (by kernel_rfl) (by kernel_rfl) rfl rfl rfl) ?_
    refine dO 7 rfl (oS 2) ?_
    refine d_end (by kernel_rfl) ?_
    refine tk Tryz.func95 (.cells (n := 2) (by kernel_rfl) (by kernel_rfl) rfl rfl rfl .nil) ?_ (hL := ⟨eqR ?_, trivial⟩)
    all_goals (rfl)
  ·
   refine dT 0 rfl (pF 0) ?_
   refine dT 1 rfl pL ?_
   refine dT 6 rfl (p_build (pl := [(0, 1), (1, 1)]) (zs := [.int .i64 (0), .slice none 0 0]) (by kernel_rfl) (by kernel_rfl) rfl rfl rfl) ?_
   refine dO 7 rfl (oS 2) ?_
   refine d_end (by kernel_rfl) ?_
   refine tk Tryz.func95 (.cells (n := 2) (by kernel_rfl) (by kernel_rfl) rfl rfl rfl .nil) ?_ (hL := ⟨eqR ?_, trivial⟩)
   all_goals (rfl)
theorem c_spec_l5Copy (rs : Rels) (fs : Atoms) (hrs : rs.length ≤ 1048576) (hfs : szS (fun (x : Int × (List (Int))) => (x.2).length) fs ≤ 1048576) : Pu Tryz.prog 42 [.agg [.t none (.sl 3 (enS3 encS encI encB) (rs)), .t none (.sl 2 (enS2 encI (enSl 1 encI)) (fs))]] [(2, some (.row none 119 true 3 (enS3 encS encI encB) (rs))), (4, some (.row none 85 true 2 (enS2 encI (enSl 1 encI)) (fs)))] 5 (.agg [.own 2, .own 4]) := by
 refine pu_enter Tryz.func42 rfl (Nat.le_of_ble_eq_true rfl) fun w S => ?_
 have gl := sz_len (f := (fun (x : Int × (List (Int))) => (x.2).length)) (l := fs)
 refine tsr ?_
 refine r_op (o_box 0 rfl rfl rfl rfl) ?_
 refine r_op (o_alloc 1 (zs := [.slice none 0 0, .slice none 0 0]) rfl rfl (by kernel_rfl) rfl) ?_
 refine etr ?_
 refine r_op (o_lit0 2 (e := 119) (sz := 3) (zs := [.string (mkS ([])), .int .i64 (0), .bool (false)]) (enS3 encS encI encB) rfl rfl (by kernel_rfl) rfl) ?_
 refine rF 0 ?_
 refine rL ?_
 refine r_op (o_appendS 2 (e := 119) (sz := 3) (by' := 32) rfl (by kernel_rfl) rfl rfl rfl rfl (fun _ j => by rcases j with _ | _ | j <;> exact ⟨_, rfl⟩) (by (simp; omega)) (by (simp; omega))) ?_
 refine r_op (o_build rfl (pl := [(0, 1), (1, 1)]) (zs := [.slice none 0 0, .slice none 0 0]) (by kernel_rfl) (by kernel_rfl) rfl rfl rfl) ?_
 refine r_op (o_alloc 3 (zs := [.slice none 0 0, .slice none 0 0]) rfl rfl (by kernel_rfl) rfl) ?_
 refine rS 2<|r_end<|t_seq<|tsr ?_
 refine rA<|r_end<|t_block ?_
 refine gt_nilb 4 (b := 3) (o := 1) (et := 85) (sz := 2) true (enS2 encI (enSl 1 encI)) rfl rfl rfl ?_
 refine t_loopL (fun m => ⟨[(1, some (.c (.ptr 0 0))), (2, some (.c (.ptr 1 0))), (3, some (.c (.ptr 3 0))), (4, some (.c (.t none (.v (.int .i64 ((m : Int)))))))], [(0, some (.box [.t none (.sl 3 (enS3 encS encI encB) (rs)), .t none (.sl 2 (enS2 encI (enSl 1 encI)) (fs))])), (1, some (.box [.t none (.v (.slice none 0 0)), .t none (.v (.slice none 0 0))])), (2, some (.row none 119 true 3 (enS3 encS encI encB) ([] ++ rs))), (3, some (.box [.own 2, .own 4])), (4, some (.row none 85 true 2 (enS2 encI (enSl 1 encI)) (fs.take m)))], 5⟩ : Nat → St) (fun m => m ≤ fs.length) (fun m => fs.length - m) 0 ⟨⟨rfl, ⟨rfl, ⟨rfl, ⟨rfl, trivial⟩⟩⟩⟩, ⟨rfl, ⟨rfl, ⟨rfl, ⟨rfl, ⟨rfl, trivial⟩⟩⟩⟩⟩, rfl⟩ (by exact Nat.zero_le _) ?_
 rintro m hI ih0
 try dsimp only at hI ih0
 have i1 := hI
 refine t_seq<|tsr<|rM ?_
 refine rF 1 ?_
 refine rL ?_
 refine r_op (o_len rfl rfl rfl) ?_
 refine rB<|r_end ?_
 refine t_cond rfl (fun h1 => ?_) (fun h1 => ?_)
 ·
  have h1' := of_decide_eq_true h1
  refine t_skip<|t_seq<|t_block ?_
  refine t_draw (fun i => !(Nat.beq i 9 || Nat.beq i 11)) (by kernel_rfl) ?_
  refine dT 0 rfl (pF 1) ?_
  refine dT 1 rfl pL ?_
  refine dT 2 rfl (pF 1) ?_
  refine dT 3 rfl pL ?_
  refine dT 4 rfl pM ?_
  obtain ⟨z2, hz3, b4⟩ := at_get (xs := fs) (n := (m : Int)) (by omega) (by omega)
  refine dT 5 rfl (p_index (by kernel_rfl) rfl rfl b4 hz3) ?_
  refine dT 6 rfl (p_loadA (n := 2) (by kernel_rfl) (by kernel_rfl) rfl rfl) ?_
  refine dO 7 rfl (o_call 5 8 false (en Tryz.func95) (c_spec_l5Fact (z2.1) (z2.2) (by (have e1 := sz_at (f := (fun (x : Int × (List (Int))) => (x.2).length)) (l := fs) (m := m) (by assumption); (try dsimp only at e1); omega))) rfl (.cons rfl (.agg (.cons .t0 (.cons .t0 .nil))) .nil) rfl rfl rfl) ?_
  refine dO 8 rfl (o_litS 8 (e := 85) (sz := 2) (zs := [.int .i64 (0), .slice none 0 0]) rfl rfl (by kernel_rfl) rfl rfl rfl rfl rfl) ?_
  refine dO 9 rfl (o_append 4 (e := 85) (sz := 2) (by' := 32) (((z2.1), (z2.2))) rfl (by kernel_rfl) rfl rfl rfl rfl rfl rfl (.cons .sc (.take (.own rfl) rfl .nil)) rfl (by (simp; omega)) (by (simp; omega))) ?_
  refine dT 10 rfl (pF 1) ?_
  refine dO 11 rfl (oS 1) ?_
  refine d_end (by kernel_rfl) ?_
  refine t_endblock<|t_region<|rM ?_
  refine rB ?_
  refine rA<|r_end ?_
  refine t_le ?_ (ih0 (m + 1) (by (try dsimp only); omega) (by (try dsimp only); omega))
  exact ⟨⟨rfl, ⟨rfl, ⟨rfl, ⟨(eqI (wr64 (by omega) (by omega))), trivial⟩⟩⟩⟩, ⟨rfl, ⟨rfl, ⟨rfl, ⟨rfl, ⟨(eqR (take_snoc hz3)), trivial⟩⟩⟩⟩⟩, rfl⟩
 ·
  have h1' := of_decide_eq_false h1
  refine t_exit rfl<|tsr<|rC 2 ?_
  refine rS 2<|r_end ?_
  refine tk Tryz.func42 (.cells (n := 2) (by kernel_rfl) (by kernel_rfl) rfl rfl rfl .nil) ?_ (hL := ⟨eqR ?_, ⟨eqR ?_, trivial⟩⟩) <;> (try clear ih0)
  all_goals first | rfl | ((rw [List.take_of_length_le (by omega)]))
theorem c_spec_IsValidSubstitution (ns vs : List Int) (hn : ns.length ≤ 4611686018427387904) (hv : vs.length ≤ 4611686018427387904) (on : ∀ x ∈ ns, okI x) (ov : ∀ x ∈ vs, okI x) : Pu Tryz.prog 97 [.agg [.t none (.sl 1 encI (ns)), .t none (.sl 1 encI (vs))]] [] 0 (.c (.t none (.v (.bool (subOk ns vs))))) := by
 refine pu_enter Tryz.func97 rfl (Nat.le_of_ble_eq_true rfl) fun w S => ?_
 refine tsr ?_
 refine r_op (o_box 0 rfl rfl rfl rfl) ?_
 refine rA<|r_end<|t_seq<|tsr ?_
 refine rF 0 ?_
 refine rL ?_
 refine r_op (o_len rfl rfl rfl) ?_
 refine rF 1 ?_
 refine rL ?_
 refine r_op (o_len rfl rfl rfl) ?_
 refine rB<|r_end ?_
 refine t_cond rfl (fun h1 => ?_) (fun h1 => ?_)
 ·
  have h1' := of_decide_eq_true h1
  refine tsr<|rA<|r_end ?_
  refine tk Tryz.func97 (.tmp rfl .nil) ?_ <;> (try clear ih0)
  all_goals (refine scB ?_; (rw [subOk_len (by omega)]; done))
 ·
  have h1' := of_decide_eq_false h1
  refine t_skip<|t_seq<|tsr<|rA<|r_end<|t_block ?_
  refine t_loopL (fun m => ⟨[(1, some (.c (.ptr 0 0))), (3, some (.c (.t none (.v (.int .i64 ((m : Int)))))))], [(0, some (.box [.t none (.sl 1 encI (ns)), .t none (.sl 1 encI (vs))]))], 1⟩ : Nat → St) (fun m => m ≤ ns.length ∧ ns.length = vs.length ∧ ∀ j, j < m → subStep ns vs j = true) (fun m => ns.length - m) 0 ⟨⟨rfl, ⟨rfl, trivial⟩⟩, ⟨rfl, trivial⟩, rfl⟩ (by exact ⟨Nat.zero_le _, by omega, fun j h => by omega⟩) ?_
  rintro m hI ih0
  try dsimp only at hI ih0
  obtain ⟨i1, i2, i3⟩ := hI
  refine t_seq<|tsr<|rM ?_
  refine rF 0 ?_
  refine rL ?_
  refine r_op (o_len rfl rfl rfl) ?_
  refine rB<|r_end ?_
  refine t_cond rfl (fun h2 => ?_) (fun h2 => ?_)
  ·
   have h2' := of_decide_eq_true h2
   refine t_skip<|t_seq<|t_block<|t_seq ?_
   refine t_draw (fun _ => true) (by kernel_rfl) ?_
   refine dT 0 rfl (pF 0) ?_
   refine dT 1 rfl pL ?_
   refine dT 2 rfl pM ?_
   obtain ⟨z3, hz4, b5⟩ := at_get (xs := ns) (n := (m : Int)) (by omega) (by omega)
   refine dT 3 rfl (p_index (by kernel_rfl) rfl rfl b5 hz4) ?_
   refine dT 4 rfl (p_load1 (by kernel_rfl) rfl rfl) ?_
   refine dO 5 rfl (o_call 1 1 false (en Tryz.func96) (c_spec_l1In (z3) (0) (39)) rfl (.cons rfl (.c .t0) (.cons rfl (.c .t0) (.cons rfl (.c .t0) .nil))) rfl rfl rfl) ?_
   refine dT 6 rfl (p_not rfl) ?_
   refine dT 7 rfl pM ?_
   refine dH 8 rfl (fun _ => pM) (fun g6 => ?_) (fun g6 => ?_)
   ·
    have g6' := of_decide_eq_true (bnf g6)
    refine dH 9 rfl (fun _ => pB) (fun _ => ?_) (ncf g6)
    refine dH 10 rfl (fun _ => pM) (fun _ => ?_) (ncf g6)
    refine dH 11 rfl (fun _ => pF 0) (fun g7 => ?_) (fun g7 => ?_)
    ·
     have g7' := of_decide_eq_true g7
     refine dH 12 rfl (fun _ => pL) (fun _ => ?_) (nc g7)
     refine dH 13 rfl (fun _ => pM) (fun _ => ?_) (nc g7)
     refine dH 14 rfl (fun _ => p_index (by kernel_rfl) rfl rfl b5 hz4) (fun _ => ?_) (nc g7)
     refine dH 15 rfl (fun _ => p_load1 (by kernel_rfl) rfl rfl) (fun _ => ?_) (nc g7)
     refine dH 16 rfl (fun _ => pF 0) (fun _ => ?_) (nc g7)
     refine dH 17 rfl (fun _ => pL) (fun _ => ?_) (nc g7)
     refine dH 18 rfl (fun _ => pM) (fun _ => ?_) (nc g7)
     refine dH 19 rfl (fun _ => pB) (fun _ => ?_) (nc g7)
     obtain ⟨z8, hz9, b10⟩ := at_get (xs := ns) (n := IntKind.i64.wrap ((m : Int) - 1)) (by (simp only [IntKind.wrap_i64] at *; omega)) (by (simp only [IntKind.wrap_i64] at *; omega))
     refine dH 20 rfl (fun _ => p_index (by kernel_rfl) rfl rfl b10 hz9) (fun _ => ?_) (nc g7)
     refine dH 21 rfl (fun _ => p_load1 (by kernel_rfl) rfl rfl) (fun _ => ?_) (nc g7)
     refine dH 22 rfl (fun _ => pB) (fun _ => ?_) (nc g7)
     refine dH 23 rfl (fun _ => p_pickT rfl g7 rfl) (fun _ => ?_) (ncf g6)
     refine dT 24 rfl (p_pickF rfl g6 rfl) ?_
     refine dT 25 rfl pM ?_
     refine dH 26 rfl (fun _ => pF 1) (fun g11 => ?_) (fun g11 => ?_)
     ·
      have g11' := of_decide_eq_false g11
      refine dH 27 rfl (fun _ => pL) (fun _ => ?_) (ncf g11)
      refine dH 28 rfl (fun _ => pM) (fun _ => ?_) (ncf g11)
      obtain ⟨z12, hz13, b14⟩ := at_get (xs := vs) (n := (m : Int)) (by omega) (by omega)
      refine dH 29 rfl (fun _ => p_index (by kernel_rfl) rfl rfl b14 hz13) (fun _ => ?_) (ncf g11)
      refine dH 30 rfl (fun _ => p_load1 (by kernel_rfl) rfl rfl) (fun _ => ?_) (ncf g11)
      refine d_onlyG 31 rfl rfl (by kernel_rfl) rfl rfl rfl (fun _ => (o_call 1 1 false (en Tryz.func103) (c_spec_IsValidValue (z12) (by exact (ov _ (List.mem_of_getElem? (by assumption))).1) (by exact (ov _ (List.mem_of_getElem? (by assumption))).2)) rfl (.cons rfl (.c .t0) .nil) rfl rfl rfl)) (fun _ => ?_) (ncf g11)
      refine dH 32 rfl (fun _ => p_not rfl) (fun _ => ?_) (ncf g11)
      refine dT 33 rfl (p_pickF rfl g11 rfl) ?_
      refine d_end (by kernel_rfl) ?_
      refine t_cond rfl (fun h15 => ?_) (fun h15 => ?_)
      ·
       have h15' := of_decide_eq_false (bnt h15)
       refine tsr<|rA<|r_end ?_
       refine tk Tryz.func97 (.tmp rfl .nil) ?_ <;> (try clear ih0)
       all_goals (refine scB ?_; (rw [subOk_not (m := m) (by omega) (by exact subStep_v (by assumption) (by omega))]; done))
      ·
       have h15' := of_decide_eq_true (bnf h15)
       refine t_skip<|t_endblock<|t_region<|rM ?_
       refine rB ?_
       refine rA<|r_end ?_
       refine t_le ?_ (ih0 (m + 1) (by (try dsimp only); omega) (by (try dsimp only); exact ⟨by omega, i2, step_all i3 (by (rw [subStep_n (m := m) (by assumption) (by assumption) (by omega) (by assumption) (by (try simp only [IntKind.wrap_i64]); omega), decide_eq_true (by omega), decide_eq_true (by omega), decide_eq_true (by omega)]; rfl))⟩))
       exact ⟨⟨rfl, ⟨(eqI (wr64 (by omega) (by omega))), trivial⟩⟩, ⟨rfl, trivial⟩, rfl⟩
     ·
      have g11' := of_decide_eq_true g11
      refine dG 27 (nc g11) (fun _ => ?_)
      refine dG 28 (nc g11) (fun _ => ?_)
      refine dG 29 (nc g11) (fun _ => ?_)
      refine dG 30 (nc g11) (fun _ => ?_)
      refine dG 31 (nc g11) (fun _ => ?_)
      refine dG 32 (nc g11) (fun _ => ?_)
      refine dT 33 rfl (p_pickT rfl g11 rfl) ?_
      refine d_end (by kernel_rfl) ?_
      refine t_cond rfl (fun _ => ?_) (nc rfl)
      refine tsr<|rA<|r_end ?_
      refine tk Tryz.func97 (.tmp rfl .nil) ?_ <;> (try clear ih0)
      all_goals (refine scB ?_; (rw [subOk_not (m := m) (by omega) (by exact subStep_p (m := m) (by assumption) (by omega) (by assumption) (by (try simp only [IntKind.wrap_i64]); omega) (by omega))]; done))
    ·
     have g7' := of_decide_eq_false g7
     refine dG 12 (ncf g7) (fun _ => ?_)
     refine dG 13 (ncf g7) (fun _ => ?_)
     refine dG 14 (ncf g7) (fun _ => ?_)
     refine dG 15 (ncf g7) (fun _ => ?_)
     refine dG 16 (ncf g7) (fun _ => ?_)
     refine dG 17 (ncf g7) (fun _ => ?_)
     refine dG 18 (ncf g7) (fun _ => ?_)
     refine dG 19 (ncf g7) (fun _ => ?_)
     refine dG 20 (ncf g7) (fun _ => ?_)
     refine dG 21 (ncf g7) (fun _ => ?_)
     refine dG 22 (ncf g7) (fun _ => ?_)
     refine dH 23 rfl (fun _ => p_pickF rfl g7 rfl) (fun _ => ?_) (ncf g6)
     refine dT 24 rfl (p_pickF rfl g6 rfl) ?_
     refine dT 25 rfl pM ?_
     refine dH 26 rfl (fun _ => pF 1) (fun _ => ?_) (ncf rfl)
     refine dH 27 rfl (fun _ => pL) (fun _ => ?_) (ncf rfl)
     refine dH 28 rfl (fun _ => pM) (fun _ => ?_) (ncf rfl)
     obtain ⟨z16, hz17, b18⟩ := at_get (xs := vs) (n := (m : Int)) (by omega) (by omega)
     refine dH 29 rfl (fun _ => p_index (by kernel_rfl) rfl rfl b18 hz17) (fun _ => ?_) (ncf rfl)
     refine dH 30 rfl (fun _ => p_load1 (by kernel_rfl) rfl rfl) (fun _ => ?_) (ncf rfl)
     refine d_onlyG 31 rfl rfl (by kernel_rfl) rfl rfl rfl (fun _ => (o_call 1 1 false (en Tryz.func103) (c_spec_IsValidValue (z16) (by exact (ov _ (List.mem_of_getElem? (by assumption))).1) (by exact (ov _ (List.mem_of_getElem? (by assumption))).2)) rfl (.cons rfl (.c .t0) .nil) rfl rfl rfl)) (fun _ => ?_) (ncf rfl)
     refine dH 32 rfl (fun _ => p_not rfl) (fun _ => ?_) (ncf rfl)
     refine dT 33 rfl (p_pickF rfl rfl rfl) ?_
     refine d_end (by kernel_rfl) ?_
     refine t_cond rfl (fun h19 => ?_) (fun h19 => ?_)
     ·
      have h19' := of_decide_eq_false (bnt h19)
      refine tsr<|rA<|r_end ?_
      refine tk Tryz.func97 (.tmp rfl .nil) ?_ <;> (try clear ih0)
      all_goals (refine scB ?_; (rw [subOk_not (m := m) (by omega) (by exact subStep_v (by assumption) (by omega))]; done))
     ·
      have h19' := of_decide_eq_true (bnf h19)
      refine t_skip<|t_endblock<|t_region<|rM ?_
      refine rB ?_
      refine rA<|r_end ?_
      refine t_le ?_ (ih0 (m + 1) (by (try dsimp only); omega) (by (try dsimp only); exact ⟨by omega, i2, step_all i3 (by (rw [subStep_0 (m := m) (by assumption) (by assumption) (by omega), decide_eq_true (by omega), decide_eq_true (by omega)]; rfl))⟩))
      exact ⟨⟨rfl, ⟨(eqI (wr64 (by omega) (by omega))), trivial⟩⟩, ⟨rfl, trivial⟩, rfl⟩
   ·
    have g6' := of_decide_eq_false (bnt g6)
    refine dG 9 (nc g6) (fun _ => ?_)
    refine dG 10 (nc g6) (fun _ => ?_)
    refine dK 11 ?_
    refine dK 12 ?_
    refine dK 13 ?_
    refine dK 14 ?_
    refine dK 15 ?_
    refine dK 16 ?_
    refine dK 17 ?_
    refine dK 18 ?_
    refine dK 19 ?_
    refine dK 20 ?_
    refine dK 21 ?_
    refine dK 22 ?_
    refine dG 23 (nc g6) (fun _ => ?_)
    refine dT 24 rfl (p_pickT rfl g6 rfl) ?_
    refine dT 25 rfl pM ?_
    refine dG 26 (nc rfl) (fun _ => ?_)
    refine dG 27 (nc rfl) (fun _ => ?_)
    refine dG 28 (nc rfl) (fun _ => ?_)
    refine dG 29 (nc rfl) (fun _ => ?_)
    refine dG 30 (nc rfl) (fun _ => ?_)
    refine dG 31 (nc rfl) (fun _ => ?_)
    refine dG 32 (nc rfl) (fun _ => ?_)
    refine dT 33 rfl (p_pickT rfl rfl rfl) ?_
    refine d_end (by kernel_rfl) ?_
    refine t_cond rfl (fun _ => ?_) (nc rfl)
    refine tsr<|rA<|r_end ?_
    refine tk Tryz.func97 (.tmp rfl .nil) ?_ <;> (try clear ih0)
    all_goals (refine scB ?_; (rw [subOk_not (m := m) (by omega) (by exact subStep_k (by assumption) (by omega))]; done))
  ·
   have h2' := of_decide_eq_false h2
   refine t_exit rfl<|tsr<|rA<|r_end ?_
   refine tk Tryz.func97 (.tmp rfl .nil) ?_ <;> (try clear ih0)
   all_goals (refine scB ?_; (rw [subOk_end i2 i3 (by omega)]; done))
theorem c_spec_NullValue (k : Int) (hk : -4611686018427387904 ≤ k ∧ k ≤ 4611686018427387904) : Pu Tryz.prog 47 [.c (.t none (.v (.int .i64 (k))))] [] 0 (.c (.t none (.v (.int .i64 (-1 - k))))) := by
 refine pu_enter Tryz.func47 rfl (Nat.le_of_ble_eq_true rfl) fun w S => ?_
 refine tsr<|rA<|etr ?_
 refine rM ?_
 refine rB ?_
 refine rA<|r_end ?_
 refine tk Tryz.func47 (.tmp rfl .nil) ?_
 all_goals (refine scI ?_; exact wr64 (by omega) (by omega))
theorem c_spec_ApplyToValue (ns vs : List Int) (v : Int) (hn : ns.length ≤ 4611686018427387904) (hv : vs.length ≤ 4611686018427387904) (on : ∀ x ∈ ns, okI x) (ov : ∀ x ∈ vs, okI x) (hv1 : -9223372036854775808 ≤ v) (hv2 : v ≤ 9223372036854775807) : Pu Tryz.prog 158 [.agg [.t none (.sl 1 encI (ns)), .t none (.sl 1 encI (vs))], .c (.t none (.v (.int .i64 (v))))] [] 0 (.c (.t none (.v (.int .i64 (appV ns vs v))))) := by
 refine pu_enter Tryz.func158 rfl (Nat.le_of_ble_eq_true rfl) fun w S => ?_
 have sl : subOk ns vs = true → ns.length = vs.length := (fun h => by unfold subOk at h; rw [Bool.and_eq_true] at h; exact of_decide_eq_true h.1); have s39 : subOk ns vs = true → ∀ (k : Nat) y, ns[k]? = some y → 0 ≤ y ∧ y ≤ 39 := (fun h k y hy => sub_39 h hy)
 refine tsr ?_
 refine r_op (o_box 0 rfl rfl rfl rfl) ?_
 refine rA<|r_end<|t_seq<|tsr ?_
 refine rA<|r_end<|t_block ?_
 refine t_loopL (fun m => ⟨[(1, some (.c (.t none (.v (.int .i64 (v)))))), (2, some (.c (.ptr 0 0))), (5, some (.c (.t none (.v (.int .i64 ((m : Int)))))))], [(0, some (.box [.t none (.sl 1 encI (ns)), .t none (.sl 1 encI (vs))]))], 1⟩ : Nat → St) (fun m => m ≤ ns.length ∧ ∀ j y, j < m → ns[j]? = some y → y ≠ -1 - v) (fun m => ns.length - m) 0 ⟨⟨rfl, ⟨rfl, ⟨rfl, trivial⟩⟩⟩, ⟨rfl, trivial⟩, rfl⟩ (by exact ⟨Nat.zero_le _, fun j y h => by omega⟩) ?_
 rintro m hI ih0
 try dsimp only at hI ih0
 obtain ⟨i1, i2⟩ := hI
 refine t_seq<|tsr<|rM ?_
 refine rF 0 ?_
 refine rL ?_
 refine r_op (o_len rfl rfl rfl) ?_
 refine rB ?_
 refine rM ?_
 refine rG (fun g1 => ?_) (fun g1 => ?_)
 ·
  have g1' := of_decide_eq_true g1
  refine rC 2 ?_
  refine rG (fun _ => ?_) (nc g1)
  refine r_op (o_call 1 1 false (en Tryz.func97) (c_spec_IsValidSubstitution (ns) (vs) (by omega) (by omega) (by omega) (by omega)) rfl (.cons rfl (.agg (.cons .t0 (.cons .t0 .nil))) .nil) rfl rfl rfl) ?_
  refine r_op (o_pickT rfl rfl g1 rfl) ?_
  refine r_end ?_
  refine t_cond rfl (fun h2 => ?_) (fun h2 => ?_)
  ·
   have h2' := h2
   refine t_skip<|t_seq<|t_block<|tsr<|rF 0 ?_
   refine rL ?_
   refine rM ?_
   obtain ⟨z3, hz4, b5⟩ := at_get (xs := ns) (n := (m : Int)) (by omega) (by omega)
   refine r_op (o_index rfl (by kernel_rfl) rfl rfl b5 hz4) ?_
   refine r_op (o_load1 rfl (by kernel_rfl) rfl rfl) ?_
   refine r_op (o_call 1 1 false (en Tryz.func47) (c_spec_NullValue (z3) (by (have e7 := s39 (by assumption) _ _ (by assumption); omega))) rfl (.cons rfl (.c .t0) .nil) rfl rfl rfl) ?_
   refine rM ?_
   refine rB<|r_end ?_
   refine t_cond rfl (fun h6 => ?_) (fun h6 => ?_)
   ·
    have h6' := of_decide_eq_true h6
    refine tsr<|rF 1 ?_
    refine rL ?_
    refine rM ?_
    obtain ⟨z7, hz8, b9⟩ := at_get (xs := vs) (n := (m : Int)) (by omega) (by (have e7 := sl (by assumption); omega))
    refine r_op (o_index rfl (by kernel_rfl) rfl rfl b9 hz8) ?_
    refine r_op (o_load1 rfl (by kernel_rfl) rfl rfl) ?_
    refine rA<|r_end ?_
    refine tk Tryz.func158 (.tmp rfl .nil) ?_ <;> (try clear ih0)
    all_goals (refine scI ?_; (exact appV_hit (by assumption) i2 hz4 (by omega) hz8))
   ·
    have h6' := of_decide_eq_false h6
    refine t_skip<|t_endblock<|t_region<|rM ?_
    refine rB ?_
    refine rA<|r_end ?_
    refine t_le ?_ (ih0 (m + 1) (by (try dsimp only); omega) (by (try dsimp only); exact ⟨by omega, ne_step i2 hz4 rfl (by omega)⟩))
    exact ⟨⟨rfl, ⟨rfl, ⟨(eqI (wr64 (by omega) (by omega))), trivial⟩⟩⟩, ⟨rfl, trivial⟩, rfl⟩
  ·
   have h2' := h2
   refine t_exit rfl<|tsr<|rM ?_
   refine rA<|r_end ?_
   refine tk Tryz.func158 (.tmp rfl .nil) ?_ <;> (try clear ih0)
   all_goals (refine scI ?_; (exact appV_off (by assumption)))
 ·
  have g1' := of_decide_eq_false g1
  refine rG (ncf g1) (fun _ => ?_)
  refine r_op (o_pickF rfl rfl g1 rfl) ?_
  refine r_end ?_
  refine t_cond rfl (ncf rfl) (fun _ => ?_)
  refine t_exit rfl<|tsr<|rM ?_
  refine rA<|r_end ?_
  refine tk Tryz.func158 (.tmp rfl .nil) ?_ <;> (try clear ih0)
  all_goals (refine scI ?_; (exact appV_none i2 (by omega)))
theorem c_spec_ApplyToFact (ns vs : List Int) (r : Int) (ts : List Int) (hn : ns.length ≤ 4611686018427387904) (hv : vs.length ≤ 4611686018427387904) (on : ∀ x ∈ ns, okI x) (ov : ∀ x ∈ vs, okI x) (hts : ts.length ≤ 1048576) (ot : ∀ x ∈ ts, okI x) : Pu Tryz.prog 99 [.agg [.t none (.sl 1 encI (ns)), .t none (.sl 1 encI (vs))], .agg [.t none (.v (.int .i64 (r))), .t none (.sl 1 encI (ts))]] [(4, some (.row none 3 true 1 encI (ts.map (appV ns vs))))] 5 (.agg [.t none (.v (.int .i64 (r))), .own 4]) := by
 refine pu_enter Tryz.func99 rfl (Nat.le_of_ble_eq_true rfl) fun w S => ?_
 refine tsr ?_
 refine r_op (o_box 0 rfl rfl rfl rfl) ?_
 refine r_op (o_box 1 rfl rfl rfl rfl) ?_
 refine r_op (o_alloc 2 (zs := [.int .i64 (0), .slice none 0 0]) rfl rfl (by kernel_rfl) rfl) ?_
 refine etr<|rF 0 ?_
 refine rL ?_
 refine r_op (o_build rfl (pl := [(0, 1), (1, 1)]) (zs := [.int .i64 (0), .slice none 0 0]) (by kernel_rfl) (by kernel_rfl) rfl rfl rfl) ?_
 refine r_op (o_alloc 3 (zs := [.int .i64 (0), .slice none 0 0]) rfl rfl (by kernel_rfl) rfl) ?_
 refine rS 2<|r_end<|t_seq<|tsr ?_
 refine rA<|r_end<|t_block ?_
 refine gt_nilb 4 (b := 3) (o := 1) (et := 3) (sz := 1) true encI rfl rfl rfl ?_
 refine t_loopL (fun m => ⟨[(2, some (.c (.ptr 0 0))), (3, some (.c (.ptr 1 0))), (4, some (.c (.ptr 2 0))), (5, some (.c (.ptr 3 0))), (6, some (.c (.t none (.v (.int .i64 ((m : Int)))))))], [(0, some (.box [.t none (.sl 1 encI (ns)), .t none (.sl 1 encI (vs))])), (1, some (.box [.t none (.v (.int .i64 (r))), .t none (.sl 1 encI (ts))])), (2, some (.box [.t none (.v (.int .i64 (0))), .t none (.v (.slice none 0 0))])), (3, some (.box [.t none (.v (.int .i64 (r))), .own 4])), (4, some (.row none 3 true 1 encI ((ts.take m).map (appV ns vs))))], 5⟩ : Nat → St) (fun m => m ≤ ts.length) (fun m => ts.length - m) 0 ⟨⟨rfl, ⟨rfl, ⟨rfl, ⟨rfl, ⟨rfl, trivial⟩⟩⟩⟩⟩, ⟨rfl, ⟨rfl, ⟨rfl, ⟨rfl, ⟨rfl, trivial⟩⟩⟩⟩⟩, rfl⟩ (by exact Nat.zero_le _) ?_
 rintro m hI ih0
 try dsimp only at hI ih0
 have i1 := hI
 refine t_seq<|tsr<|rM ?_
 refine rF 1 ?_
 refine rL ?_
 refine r_op (o_len rfl rfl rfl) ?_
 refine rB<|r_end ?_
 refine t_cond rfl (fun h1 => ?_) (fun h1 => ?_)
 ·
  have h1' := of_decide_eq_true h1
  refine t_skip<|t_seq<|t_block ?_
  refine t_draw (fun i => !(Nat.beq i 10 || Nat.beq i 12)) (by kernel_rfl) ?_
  refine dT 0 rfl (pF 1) ?_
  refine dT 1 rfl pL ?_
  refine dT 2 rfl (pC 2) ?_
  refine dT 3 rfl (pF 1) ?_
  refine dT 4 rfl pL ?_
  refine dT 5 rfl pM ?_
  obtain ⟨z2, hz3, b4⟩ := at_get (xs := ts) (n := (m : Int)) (by omega) (by omega)
  refine dT 6 rfl (p_index (by kernel_rfl) rfl rfl b4 hz3) ?_
  refine dT 7 rfl (p_load1 (by kernel_rfl) rfl rfl) ?_
  refine dO 8 rfl (o_call 5 5 false (en Tryz.func158) (c_spec_ApplyToValue (ns) (vs) (z2) (by omega) (by omega) (by omega) (by omega) (by exact (ot _ (List.mem_of_getElem? (by assumption))).1) (by exact (ot _ (List.mem_of_getElem? (by assumption))).2)) rfl (.cons rfl (.agg (.cons .t0 (.cons .t0 .nil))) (.cons rfl (.c .t0) .nil)) rfl rfl rfl) ?_
  refine dO 9 rfl (o_litS 5 (e := 3) (sz := 1) (zs := [.int .i64 (0)]) rfl rfl (by kernel_rfl) rfl rfl rfl rfl rfl) ?_
  refine dO 10 rfl (o_append 4 (e := 3) (sz := 1) (by' := 8) (appV (ns) (vs) (z2)) rfl (by kernel_rfl) rfl rfl rfl rfl rfl rfl (.cons .sc .nil) rfl (by (simp; omega)) (by (simp; omega))) ?_
  refine dT 11 rfl (pF 1) ?_
  refine dO 12 rfl (oS 1) ?_
  refine d_end (by kernel_rfl) ?_
  refine t_endblock<|t_region<|rM ?_
  refine rB ?_
  refine rA<|r_end ?_
  refine t_le ?_ (ih0 (m + 1) (by (try dsimp only); omega) (by (try dsimp only); omega))
  exact ⟨⟨rfl, ⟨rfl, ⟨rfl, ⟨rfl, ⟨(eqI (wr64 (by omega) (by omega))), trivial⟩⟩⟩⟩⟩, ⟨rfl, ⟨rfl, ⟨rfl, ⟨rfl, ⟨(eqR (map_snoc hz3)), trivial⟩⟩⟩⟩⟩, rfl⟩
 ·
  have h1' := of_decide_eq_false h1
  refine t_exit rfl<|tsr<|rC 2 ?_
  refine rS 2<|r_end ?_
  refine tk Tryz.func99 (.cells (n := 2) (by kernel_rfl) (by kernel_rfl) rfl rfl rfl .nil) ?_ (hL := ⟨eqR ?_, trivial⟩) <;> (try clear ih0)
  all_goals first | rfl | ((rw [List.take_of_length_le (by omega)]))
theorem c_spec_l5Put (rs : Rels) (fs : Atoms) (r : Int) (ts : List Int) (hfs : szS (fun (x : Int × (List (Int))) => (x.2).length) fs ≤ 1048576) (hts : ts.length ≤ 1048576) : Pu Tryz.prog 49 [.agg [.t none (.sl 3 (enS3 encS encI encB) (rs)), .t none (.sl 2 (enS2 encI (enSl 1 encI)) (fs))], .agg [.t none (.v (.int .i64 (r))), .t none (.sl 1 encI (ts))]] [] 0 (.agg [.t none (.sl 3 (enS3 encS encI encB) (rs)), .t none (.sl 2 (enS2 encI (enSl 1 encI)) (putF fs (r, ts)))]) := by
 refine pu_enter Tryz.func49 rfl (Nat.le_of_ble_eq_true rfl) fun w S => ?_
 have gl := sz_len (f := (fun (x : Int × (List (Int))) => (x.2).length)) (l := fs)
 refine tsr ?_
 refine r_op (o_box 0 rfl rfl rfl rfl) ?_
 refine r_op (o_box 1 rfl rfl rfl rfl) ?_
 refine r_op (o_alloc 2 (zs := [.slice none 0 0, .slice none 0 0]) rfl rfl (by kernel_rfl) rfl) ?_
 refine r_end<|t_seq<|tsr<|rC 2 ?_
 refine rC 2 ?_
 refine r_op (o_call 3 3 false (en Tryz.func104) (c_spec_l5Place (rs) (fs) (r) (ts) (by omega) (by omega)) rfl (.cons rfl (.agg (.cons .t0 (.cons .t0 .nil))) (.cons rfl (.agg (.cons .t0 (.cons .t0 .nil))) .nil)) rfl rfl rfl) ?_
 refine rB<|r_end ?_
 refine t_cond rfl (fun h1 => ?_) (fun h1 => ?_)
 ·
  have h1' := of_decide_eq_true h1
  refine tsr<|rC 2 ?_
  refine rS 2<|r_end ?_
  refine tk Tryz.func49 (.cells (n := 2) (by kernel_rfl) (by kernel_rfl) rfl rfl rfl .nil) ?_ <;> (try clear ih0)
  all_goals (refine instE ?_ ?_ <;> first | rfl | exact (putF_there (by assumption)).symm)
 ·
  have h1' := of_decide_eq_false h1
  refine t_skip<|tsr<|rA<|r_end<|t_seq<|t_block ?_
  refine t_loopL (fun m => ⟨[(2, some (.c (.ptr 0 0))), (3, some (.c (.ptr 1 0))), (4, some (.c (.ptr 2 0))), (5, some (.c (.t none (.v (.int .i64 ((m : Int)))))))], [(0, some (.box [.t none (.sl 3 (enS3 encS encI encB) (rs)), .t none (.sl 2 (enS2 encI (enSl 1 encI)) (fs))])), (1, some (.box [.t none (.v (.int .i64 (r))), .t none (.sl 1 encI (ts))])), (2, some (.box [.t none (.v (.slice none 0 0)), .t none (.v (.slice none 0 0))]))], 3⟩ : Nat → St) (fun m => m ≤ fs.length ∧ ∀ j y, j < m → fs[j]? = some y → cmpF y (r, ts) < 0) (fun m => fs.length - m) 0 ⟨⟨rfl, ⟨rfl, ⟨rfl, ⟨rfl, trivial⟩⟩⟩⟩, ⟨rfl, ⟨rfl, ⟨rfl, trivial⟩⟩⟩, rfl⟩ (by exact ⟨Nat.zero_le _, fun j y h => by omega⟩) ?_
  rintro m hI ih0
  try dsimp only at hI ih0
  obtain ⟨i1, i2⟩ := hI
  refine t_seq<|t_seq ?_
  refine t_draw (fun _ => true) (by kernel_rfl) ?_
  refine dT 0 rfl pM ?_
  refine dT 1 rfl (pF 1) ?_
  refine dT 2 rfl pL ?_
  refine dT 3 rfl (p_len rfl rfl) ?_
  refine dT 4 rfl pB ?_
  refine dT 5 rfl pM ?_
  refine dH 6 rfl (fun _ => pF 1) (fun g2 => ?_) (fun g2 => ?_)
  ·
   have g2' := of_decide_eq_true g2
   refine dH 7 rfl (fun _ => pL) (fun _ => ?_) (nc g2)
   refine dH 8 rfl (fun _ => pM) (fun _ => ?_) (nc g2)
   obtain ⟨z3, hz4, b5⟩ := at_get (xs := fs) (n := (m : Int)) (by omega) (by omega)
   refine dH 9 rfl (fun _ => p_index (by kernel_rfl) rfl rfl b5 hz4) (fun _ => ?_) (nc g2)
   refine dH 10 rfl (fun _ => p_loadA (n := 2) (by kernel_rfl) (by kernel_rfl) rfl rfl) (fun _ => ?_) (nc g2)
   refine dH 11 rfl (fun _ => pC 2) (fun _ => ?_) (nc g2)
   refine d_onlyG 12 rfl rfl (by kernel_rfl) rfl rfl rfl (fun _ => (o_call 3 3 false (en Tryz.func77) (c_spec_CompareFacts (z3.1) (z3.2) (r) (ts) (by (have e1 := sz_at (f := (fun (x : Int × (List (Int))) => (x.2).length)) (l := fs) (m := m) (by assumption); (try dsimp only at e1); omega)) (by omega)) rfl (.cons rfl (.agg (.cons .t0 (.cons .t0 .nil))) (.cons rfl (.agg (.cons .t0 (.cons .t0 .nil))) .nil)) rfl rfl rfl)) (fun _ => ?_) (nc g2)
   refine dH 13 rfl (fun _ => pB) (fun _ => ?_) (nc g2)
   refine dT 14 rfl (p_pickT rfl g2 rfl) ?_
   refine d_end (by kernel_rfl) ?_
   refine t_cond rfl (fun h6 => ?_) (fun h6 => ?_)
   ·
    have h6' := of_decide_eq_true h6
    refine t_skip<|t_block<|t_region<|rM ?_
    refine rB ?_
    refine rA<|r_end<|t_endblock ?_
    refine t_le ?_ (ih0 (m + 1) (by (try dsimp only); omega) (by (try dsimp only); exact ⟨by omega, ltF_step i2 hz4 rfl (by assumption)⟩))
    exact ⟨⟨rfl, ⟨rfl, ⟨rfl, ⟨(eqI (wr64 (by omega) (by omega))), trivial⟩⟩⟩⟩, ⟨rfl, ⟨rfl, ⟨rfl, trivial⟩⟩⟩, rfl⟩
   ·
    have h6' := of_decide_eq_false h6
    refine t_exit rfl<|t_seq ?_
    refine t_draw (fun i => !(Nat.beq i 7)) (by kernel_rfl) ?_
    refine dT 0 rfl (pC 2) ?_
    refine dT 3 rfl (pF 1) ?_
    refine dT 4 rfl pL ?_
    refine dT 5 rfl pM ?_
    refine dT 6 rfl (p_sub (by kernel_rfl) rfl (.l rfl (by omega) (by omega))) ?_
    refine dO 1 rfl (o_call 3 6 false (en Tryz.func95) (c_spec_l5Fact (r) (ts) (by omega)) rfl (.cons rfl (.agg (.cons .t0 (.cons .t0 .nil))) .nil) rfl rfl rfl) ?_
    refine dO 2 rfl (o_litN 6 (e := 85) (sz := 2) (zs := [.int .i64 (0), .slice none 0 0]) (enc := (enS2 encI (enSl 1 encI))) [((r), (ts))] rfl rfl (by kernel_rfl) rfl rfl rfl rfl rfl rfl rfl rfl (.cons .sc (.take (.own rfl) rfl .nil)) rfl) ?_
    refine d_half 6 rfl (frz_pu rfl) ?_
    refine dO 7 rfl (o_appendR 6 (e := 85) (sz := 2) (by' := 32) rfl (by kernel_rfl) rfl rfl rfl rfl (by (simp only [List.length_append, List.length_take, List.length_drop, List.length_cons, List.length_nil]; omega)) (by (simp only [List.length_append, List.length_take, List.length_drop, List.length_cons, List.length_nil]; omega))) ?_
    refine dT 8 rfl pA ?_
    refine d_end (by kernel_rfl) ?_
    refine t_seq ?_
    refine t_draw (fun i => !(Nat.beq i 7 || Nat.beq i 9 || Nat.beq i 11)) (by kernel_rfl) ?_
    refine d_takeP 0 rfl rfl (by kernel_rfl) (by kernel_rfl) (by kernel_rfl) (pw_fieldb (off := 0) (by kernel_rfl) rfl) ?_
    refine dT 3 rfl (pF 1) ?_
    refine dT 4 rfl pL ?_
    refine dT 5 rfl pM ?_
    refine dT 6 rfl (p_sub (by kernel_rfl) rfl (.h rfl (by omega) (by omega))) ?_
    refine d_takeP 8 rfl rfl (by kernel_rfl) (by kernel_rfl) (by kernel_rfl) (pw_move rfl) ?_
    refine d_two 1 2 rfl rfl (by kernel_rfl) rfl rfl oL (o_lit0 7 (e := 85) (sz := 2) (zs := [.int .i64 (0), .slice none 0 0]) (enS2 encI (enSl 1 encI)) rfl rfl (by kernel_rfl) rfl) ?_ ?_
    ·
     refine dO 2 rfl (o_lit0 7 (e := 85) (sz := 2) (zs := [.int .i64 (0), .slice none 0 0]) (enS2 encI (enSl 1 encI)) rfl rfl (by kernel_rfl) rfl) ?_
     refine d_half 7 rfl (frz_pu rfl) ?_
     refine dO 7 rfl (o_appendR 7 (e := 85) (sz := 2) (by' := 32) rfl (by kernel_rfl) rfl rfl rfl rfl (by (simp only [List.length_append, List.length_take, List.length_drop, List.length_cons, List.length_nil]; omega)) (by (simp only [List.length_append, List.length_take, List.length_drop, List.length_cons, List.length_nil]; omega))) ?_
     refine d_freeze 6 rfl (frz_pu rfl) ?_
     refine dO 9 rfl (o_appendR 7 (e := 85) (sz := 2) (by' := 32) rfl (by kernel_rfl) rfl rfl rfl rfl (by (simp only [List.length_append, List.length_take, List.length_drop, List.length_cons, List.length_nil]; omega)) (by (simp only [List.length_append, List.length_take, List.length_drop, List.length_cons, List.length_nil]; omega))) ?_
     refine dT 10 rfl (p_build (pl := [(0, 1), (1, 1)]) (zs := [.slice none 0 0, .slice none 0 0]) (by kernel_rfl) (by kernel_rfl) rfl rfl rfl) ?_
     refine dO 11 rfl (oS 2) ?_
     refine d_end (by kernel_rfl) ?_
     refine gt_freeze 7 rfl (frz_pu rfl) ?_
     refine tk Tryz.func49 (.cells (n := 2) (by kernel_rfl) (by kernel_rfl) rfl rfl rfl .nil) ?_ <;> (try clear ih0)
     all_goals (refine instE ?_ ?_ <;> first | rfl | (rw [putF_new (m := m) (by assumption) i2 i1 (fun y hy => by (have e7 := Option.some.inj (hy.symm.trans hz4); subst e7; assumption))]; simp))
    ·
     refine d_half 7 rfl (frz_pu rfl) ?_
     refine d_two 1 7 rfl rfl (by kernel_rfl) rfl rfl oL (o_appendR 7 (e := 85) (sz := 2) (by' := 32) rfl (by kernel_rfl) rfl rfl rfl rfl (by (simp only [List.length_append, List.length_take, List.length_drop, List.length_cons, List.length_nil]; omega)) (by (simp only [List.length_append, List.length_take, List.length_drop, List.length_cons, List.length_nil]; omega))) ?_ ?_
     ·
      refine dO 7 rfl (o_appendR 7 (e := 85) (sz := 2) (by' := 32) rfl (by kernel_rfl) rfl rfl rfl rfl (by (simp only [List.length_append, List.length_take, List.length_drop, List.length_cons, List.length_nil]; omega)) (by (simp only [List.length_append, List.length_take, List.length_drop, List.length_cons, List.length_nil]; omega))) ?_
      refine d_freeze 6 rfl (frz_pu rfl) ?_
      refine dO 9 rfl (o_appendR 7 (e := 85) (sz := 2) (by' := 32) rfl (by kernel_rfl) rfl rfl rfl rfl (by (simp only [List.length_append, List.length_take, List.length_drop, List.length_cons, List.length_nil]; omega)) (by (simp only [List.length_append, List.length_take, List.length_drop, List.length_cons, List.length_nil]; omega))) ?_
      refine dT 10 rfl (p_build (pl := [(0, 1), (1, 1)]) (zs := [.slice none 0 0, .slice none 0 0]) (by kernel_rfl) (by kernel_rfl) rfl rfl rfl) ?_
      refine dO 11 rfl (oS 2) ?_
      refine d_end (by kernel_rfl) ?_
      refine gt_freeze 7 rfl (frz_pu rfl) ?_
      refine tk Tryz.func49 (.cells (n := 2) (by kernel_rfl) (by kernel_rfl) rfl rfl rfl .nil) ?_ <;> (try clear ih0)
      all_goals (refine instE ?_ ?_ <;> first | rfl | (rw [putF_new (m := m) (by assumption) i2 i1 (fun y hy => by (have e7 := Option.some.inj (hy.symm.trans hz4); subst e7; assumption))]; simp))
     ·
      refine d_freeze 6 rfl (frz_pu rfl) ?_
      refine d_two 1 9 rfl rfl (by kernel_rfl) rfl rfl oL (o_appendR 7 (e := 85) (sz := 2) (by' := 32) rfl (by kernel_rfl) rfl rfl rfl rfl (by (simp only [List.length_append, List.length_take, List.length_drop, List.length_cons, List.length_nil]; omega)) (by (simp only [List.length_append, List.length_take, List.length_drop, List.length_cons, List.length_nil]; omega))) ?_ ?_
      ·
       refine dO 9 rfl (o_appendR 7 (e := 85) (sz := 2) (by' := 32) rfl (by kernel_rfl) rfl rfl rfl rfl (by (simp only [List.length_append, List.length_take, List.length_drop, List.length_cons, List.length_nil]; omega)) (by (simp only [List.length_append, List.length_take, List.length_drop, List.length_cons, List.length_nil]; omega))) ?_
       refine dT 10 rfl (p_build (pl := [(0, 1), (1, 1)]) (zs := [.slice none 0 0, .slice none 0 0]) (by kernel_rfl) (by kernel_rfl) rfl rfl rfl) ?_
       refine dO 11 rfl (oS 2) ?_
       refine d_end (by kernel_rfl) ?_
       refine gt_freeze 7 rfl (frz_pu rfl) ?_
       refine tk Tryz.func49 (.cells (n := 2) (by kernel_rfl) (by kernel_rfl) rfl rfl rfl .nil) ?_ <;> (try clear ih0)
       all_goals (refine instE ?_ ?_ <;> first | rfl | (rw [putF_new (m := m) (by assumption) i2 i1 (fun y hy => by (have e7 := Option.some.inj (hy.symm.trans hz4); subst e7; assumption))]; simp))
      ·
       refine dT 1 rfl pL ?_
       refine dT 10 rfl (p_build (pl := [(0, 1), (1, 1)]) (zs := [.slice none 0 0, .slice none 0 0]) (by kernel_rfl) (by kernel_rfl) rfl rfl rfl) ?_
       refine dO 11 rfl (oS 2) ?_
       refine d_end (by kernel_rfl) ?_
       refine gt_freeze 7 rfl (frz_pu rfl) ?_
       refine tk Tryz.func49 (.cells (n := 2) (by kernel_rfl) (by kernel_rfl) rfl rfl rfl .nil) ?_ <;> (try clear ih0)
       all_goals (refine instE ?_ ?_ <;> first | rfl | (rw [putF_new (m := m) (by assumption) i2 i1 (fun y hy => by (have e7 := Option.some.inj (hy.symm.trans hz4); subst e7; assumption))]; simp))
  ·
   have g2' := of_decide_eq_false g2
   refine dG 7 (ncf g2) (fun _ => ?_)
   refine dG 8 (ncf g2) (fun _ => ?_)
   refine dG 9 (ncf g2) (fun _ => ?_)
   refine dG 10 (ncf g2) (fun _ => ?_)
   refine dG 11 (ncf g2) (fun _ => ?_)
   refine dG 12 (ncf g2) (fun _ => ?_)
   refine dG 13 (ncf g2) (fun _ => ?_)
   refine dT 14 rfl (p_pickF rfl g2 rfl) ?_
   refine d_end (by kernel_rfl) ?_
   refine t_cond rfl (ncf rfl) (fun _ => ?_)
   refine t_exit rfl<|t_seq ?_
   refine t_draw (fun i => !(Nat.beq i 7)) (by kernel_rfl) ?_
   refine dT 0 rfl (pC 2) ?_
   refine dT 3 rfl (pF 1) ?_
   refine dT 4 rfl pL ?_
   refine dT 5 rfl pM ?_
   refine dT 6 rfl (p_sub (by kernel_rfl) rfl (.l rfl (by omega) (by omega))) ?_
   refine dO 1 rfl (o_call 3 6 false (en Tryz.func95) (c_spec_l5Fact (r) (ts) (by omega)) rfl (.cons rfl (.agg (.cons .t0 (.cons .t0 .nil))) .nil) rfl rfl rfl) ?_
   refine dO 2 rfl (o_litN 6 (e := 85) (sz := 2) (zs := [.int .i64 (0), .slice none 0 0]) (enc := (enS2 encI (enSl 1 encI))) [((r), (ts))] rfl rfl (by kernel_rfl) rfl rfl rfl rfl rfl rfl rfl rfl (.cons .sc (.take (.own rfl) rfl .nil)) rfl) ?_
   refine d_half 6 rfl (frz_pu rfl) ?_
   refine dO 7 rfl (o_appendR 6 (e := 85) (sz := 2) (by' := 32) rfl (by kernel_rfl) rfl rfl rfl rfl (by (simp only [List.length_append, List.length_take, List.length_drop, List.length_cons, List.length_nil]; omega)) (by (simp only [List.length_append, List.length_take, List.length_drop, List.length_cons, List.length_nil]; omega))) ?_
   refine dT 8 rfl pA ?_
   refine d_end (by kernel_rfl) ?_
   refine t_seq ?_
   refine t_draw (fun i => !(Nat.beq i 7 || Nat.beq i 9 || Nat.beq i 11)) (by kernel_rfl) ?_
   refine d_takeP 0 rfl rfl (by kernel_rfl) (by kernel_rfl) (by kernel_rfl) (pw_fieldb (off := 0) (by kernel_rfl) rfl) ?_
   refine dT 3 rfl (pF 1) ?_
   refine dT 4 rfl pL ?_
   refine dT 5 rfl pM ?_
   refine dT 6 rfl (p_sub (by kernel_rfl) rfl (.h rfl (by omega) (by omega))) ?_
   refine d_takeP 8 rfl rfl (by kernel_rfl) (by kernel_rfl) (by kernel_rfl) (pw_move rfl) ?_
   refine d_two 1 2 rfl rfl (by kernel_rfl) rfl rfl oL (o_lit0 7 (e := 85) (sz := 2) (zs := [.int .i64 (0), .slice none 0 0]) (enS2 encI (enSl 1 encI)) rfl rfl (by kernel_rfl) rfl) ?_ ?_
   ·
    refine dO 2 rfl (o_lit0 7 (e := 85) (sz := 2) (zs := [.int .i64 (0), .slice none 0 0]) (enS2 encI (enSl 1 encI)) rfl rfl (by kernel_rfl) rfl) ?_
    refine d_half 7 rfl (frz_pu rfl) ?_
    refine dO 7 rfl (o_appendR 7 (e := 85) (sz := 2) (by' := 32) rfl (by kernel_rfl) rfl rfl rfl rfl (by (simp only [List.length_append, List.length_take, List.length_drop, List.length_cons, List.length_nil]; omega)) (by (simp only [List.length_append, List.length_take, List.length_drop, List.length_cons, List.length_nil]; omega))) ?_
    refine d_freeze 6 rfl (frz_pu rfl) ?_
    refine dO 9 rfl (o_appendR 7 (e := 85) (sz := 2) (by' := 32) rfl (by kernel_rfl) rfl rfl rfl rfl (by (simp only [List.length_append, List.length_take, List.length_drop, List.length_cons, List.length_nil]; omega)) (by (simp only [List.length_append, List.length_take, List.length_drop, List.length_cons, List.length_nil]; omega))) ?_
    refine dT 10 rfl (p_build (pl := [(0, 1), (1, 1)]) (zs := [.slice none 0 0, .slice none 0 0]) (by kernel_rfl) (by kernel_rfl) rfl rfl rfl) ?_
    refine dO 11 rfl (oS 2) ?_
    refine d_end (by kernel_rfl) ?_
    refine gt_freeze 7 rfl (frz_pu rfl) ?_
    refine tk Tryz.func49 (.cells (n := 2) (by kernel_rfl) (by kernel_rfl) rfl rfl rfl .nil) ?_ <;> (try clear ih0)
    all_goals (refine instE ?_ ?_ <;> first | rfl | (rw [putF_new (m := m) (by assumption) i2 i1 (fun y hy => by (have e7 := (List.getElem?_eq_some_iff.1 hy).1; omega))]; simp))
   ·
    refine d_half 7 rfl (frz_pu rfl) ?_
    refine d_two 1 7 rfl rfl (by kernel_rfl) rfl rfl oL (o_appendR 7 (e := 85) (sz := 2) (by' := 32) rfl (by kernel_rfl) rfl rfl rfl rfl (by (simp only [List.length_append, List.length_take, List.length_drop, List.length_cons, List.length_nil]; omega)) (by (simp only [List.length_append, List.length_take, List.length_drop, List.length_cons, List.length_nil]; omega))) ?_ ?_
    ·
     refine dO 7 rfl (o_appendR 7 (e := 85) (sz := 2) (by' := 32) rfl (by kernel_rfl) rfl rfl rfl rfl (by (simp only [List.length_append, List.length_take, List.length_drop, List.length_cons, List.length_nil]; omega)) (by (simp only [List.length_append, List.length_take, List.length_drop, List.length_cons, List.length_nil]; omega))) ?_
     refine d_freeze 6 rfl (frz_pu rfl) ?_
     refine dO 9 rfl (o_appendR 7 (e := 85) (sz := 2) (by' := 32) rfl (by kernel_rfl) rfl rfl rfl rfl (by (simp only [List.length_append, List.length_take, List.length_drop, List.length_cons, List.length_nil]; omega)) (by (simp only [List.length_append, List.length_take, List.length_drop, List.length_cons, List.length_nil]; omega))) ?_
     refine dT 10 rfl (p_build (pl := [(0, 1), (1, 1)]) (zs := [.slice none 0 0, .slice none 0 0]) (by kernel_rfl) (by kernel_rfl) rfl rfl rfl) ?_
     refine dO 11 rfl (oS 2) ?_
     refine d_end (by kernel_rfl) ?_
     refine gt_freeze 7 rfl (frz_pu rfl) ?_
     refine tk Tryz.func49 (.cells (n := 2) (by kernel_rfl) (by kernel_rfl) rfl rfl rfl .nil) ?_ <;> (try clear ih0)
     all_goals (refine instE ?_ ?_ <;> first | rfl | (rw [putF_new (m := m) (by assumption) i2 i1 (fun y hy => by (have e7 := (List.getElem?_eq_some_iff.1 hy).1; omega))]; simp))
    ·
     refine d_freeze 6 rfl (frz_pu rfl) ?_
     refine d_two 1 9 rfl rfl (by kernel_rfl) rfl rfl oL (o_appendR 7 (e := 85) (sz := 2) (by' := 32) rfl (by kernel_rfl) rfl rfl rfl rfl (by (simp only [List.length_append, List.length_take, List.length_drop, List.length_cons, List.length_nil]; omega)) (by (simp only [List.length_append, List.length_take, List.length_drop, List.length_cons, List.length_nil]; omega))) ?_ ?_
     ·
      refine dO 9 rfl (o_appendR 7 (e := 85) (sz := 2) (by' := 32) rfl (by kernel_rfl) rfl rfl rfl rfl (by (simp only [List.length_append, List.length_take, List.length_drop, List.length_cons, List.length_nil]; omega)) (by (simp only [List.length_append, List.length_take, List.length_drop, List.length_cons, List.length_nil]; omega))) ?_
      refine dT 10 rfl (p_build (pl := [(0, 1), (1, 1)]) (zs := [.slice none 0 0, .slice none 0 0]) (by kernel_rfl) (by kernel_rfl) rfl rfl rfl) ?_
      refine dO 11 rfl (oS 2) ?_
      refine d_end (by kernel_rfl) ?_
      refine gt_freeze 7 rfl (frz_pu rfl) ?_
      refine tk Tryz.func49 (.cells (n := 2) (by kernel_rfl) (by kernel_rfl) rfl rfl rfl .nil) ?_ <;> (try clear ih0)
      all_goals (refine instE ?_ ?_ <;> first | rfl | (rw [putF_new (m := m) (by assumption) i2 i1 (fun y hy => by (have e7 := (List.getElem?_eq_some_iff.1 hy).1; omega))]; simp))
     ·
      refine dT 1 rfl pL ?_
      refine dT 10 rfl (p_build (pl := [(0, 1), (1, 1)]) (zs := [.slice none 0 0, .slice none 0 0]) (by kernel_rfl) (by kernel_rfl) rfl rfl rfl) ?_
      refine dO 11 rfl (oS 2) ?_
      refine d_end (by kernel_rfl) ?_
      refine gt_freeze 7 rfl (frz_pu rfl) ?_
      refine tk Tryz.func49 (.cells (n := 2) (by kernel_rfl) (by kernel_rfl) rfl rfl rfl .nil) ?_ <;> (try clear ih0)
      all_goals (refine instE ?_ ?_ <;> first | rfl | (rw [putF_new (m := m) (by assumption) i2 i1 (fun y hy => by (have e7 := (List.getElem?_eq_some_iff.1 hy).1; omega))]; simp))
theorem c_spec_ApplyToInstance (ns vs : List Int) (rs : Rels) (fs : Atoms) (hn : ns.length ≤ 4611686018427387904) (hv : vs.length ≤ 4611686018427387904) (on : ∀ x ∈ ns, okI x) (ov : ∀ x ∈ vs, okI x) (hrs : rs.length ≤ 1048576) (hfs : szS (fun (x : Int × (List (Int))) => (x.2).length) fs ≤ 1048576) (ho : ∀ z ∈ fs, ∀ x ∈ z.2, okI x) : Pu Tryz.prog 44 [.agg [.t none (.sl 1 encI (ns)), .t none (.sl 1 encI (vs))], .agg [.t none (.sl 3 (enS3 encS encI encB) (rs)), .t none (.sl 2 (enS2 encI (enSl 1 encI)) (fs))]] [] 0 (.tup [(true, [.t none (.sl 3 (enS3 encS encI encB) (appR rs fs ns vs)), .t none (.sl 2 (enS2 encI (enSl 1 encI)) (appS rs fs ns vs))]), (false, [.t none (.v (.bool (appOk rs fs ns vs)))])]) := by
 refine pu_enter Tryz.func44 rfl (Nat.le_of_ble_eq_true rfl) fun w S => ?_
 have gl := sz_len (f := (fun (x : Int × (List (Int))) => (x.2).length)) (l := fs)
 refine tsr ?_
 refine r_op (o_box 0 rfl rfl rfl rfl) ?_
 refine r_op (o_box 1 rfl rfl rfl rfl) ?_
 refine r_op (o_alloc 2 (zs := [.slice none 0 0, .slice none 0 0]) rfl rfl (by kernel_rfl) rfl) ?_
 refine rA<|r_end<|t_seq<|tsr ?_
 refine rC 2 ?_
 refine r_op (o_call 3 3 false (en Tryz.func97) (c_spec_IsValidSubstitution (ns) (vs) (by omega) (by omega) (by omega) (by omega)) rfl (.cons rfl (.agg (.cons .t0 (.cons .t0 .nil))) .nil) rfl rfl rfl) ?_
 refine r_op (o_not rfl rfl) ?_
 refine rM ?_
 refine rG (fun g1 => ?_) (fun g1 => ?_)
 ·
  have g1' := (bnf g1)
  refine rC 2 ?_
  refine rG (fun _ => ?_) (ncf g1)
  refine r_op (o_call 3 3 false (en Tryz.func98) (c_spec_IsValidInstance (rs) (fs) (by omega) (by omega) (by omega)) rfl (.cons rfl (.agg (.cons .t0 (.cons .t0 .nil))) .nil) rfl rfl rfl) ?_
  refine rG (fun _ => ?_) (ncf g1)
  refine r_op (o_not rfl rfl) ?_
  refine r_op (o_pickF rfl rfl g1 rfl) ?_
  refine r_end ?_
  refine t_cond rfl (fun h2 => ?_) (fun h2 => ?_)
  ·
   have h2' := (bnt h2)
   refine tsr ?_
   refine r_op (o_build rfl (pl := [(0, 1), (1, 1)]) (zs := [.slice none 0 0, .slice none 0 0]) (by kernel_rfl) (by kernel_rfl) rfl rfl rfl) ?_
   refine rS 2 ?_
   refine rA<|r_end ?_
   refine gt_nilb 3 (b := 2) (o := 0) (et := 119) (sz := 3) true (enS3 encS encI encB) rfl rfl rfl ?_
   refine gt_nilb 4 (b := 2) (o := 1) (et := 85) (sz := 2) true (enS2 encI (enSl 1 encI)) rfl rfl rfl ?_
   refine gt_freeze 3 rfl (frz_pu rfl) ?_
   refine gt_freeze 4 rfl (frz_pu rfl) ?_
   refine tk Tryz.func44 (.cells (n := 2) (by kernel_rfl) (by kernel_rfl) rfl rfl rfl (.tmp rfl .nil)) ?_ <;> (try clear ih0)
   all_goals ((have e8 := app_no2 (rs := rs) (fs := fs) (ns := ns) (vs := vs) (by assumption); (rw [e8.1, e8.2.1, e8.2.2]; rfl)))
  ·
   have h2' := (bnf h2)
   refine t_skip<|tsr ?_
   refine r_op (o_lit0 3 (e := 119) (sz := 3) (zs := [.string (mkS ([])), .int .i64 (0), .bool (false)]) (enS3 encS encI encB) rfl rfl (by kernel_rfl) rfl) ?_
   refine rF 0 ?_
   refine rL ?_
   refine r_op (o_appendS 3 (e := 119) (sz := 3) (by' := 32) rfl (by kernel_rfl) rfl rfl rfl rfl (fun _ j => by rcases j with _ | _ | j <;> exact ⟨_, rfl⟩) (by (simp; omega)) (by (simp; omega))) ?_
   refine r_op (o_build rfl (pl := [(0, 1), (1, 1)]) (zs := [.slice none 0 0, .slice none 0 0]) (by kernel_rfl) (by kernel_rfl) rfl rfl rfl) ?_
   refine r_op (o_alloc 4 (zs := [.slice none 0 0, .slice none 0 0]) rfl rfl (by kernel_rfl) rfl) ?_
   refine rS 2<|r_end<|t_seq<|tsr ?_
   refine rA<|r_end<|t_block ?_
   refine gt_freeze 3 rfl (frz_pu rfl) ?_
   refine gt_nilB 4 1 (sz := 2) (enS2 encI (enSl 1 encI)) rfl rfl ?_
   refine t_loopL (fun (m, gs) => ⟨[(2, some (.c (.ptr 0 0))), (3, some (.c (.ptr 1 0))), (4, some (.c (.ptr 2 0))), (5, some (.c (.t none (.v (.bool (false)))))), (6, some (.c (.ptr 4 0))), (7, some (.c (.t none (.v (.int .i64 ((m : Int)))))))], [(0, some (.box [.t none (.sl 1 encI (ns)), .t none (.sl 1 encI (vs))])), (1, some (.box [.t none (.sl 3 (enS3 encS encI encB) (rs)), .t none (.sl 2 (enS2 encI (enSl 1 encI)) (fs))])), (2, some (.box [.t none (.v (.slice none 0 0)), .t none (.v (.slice none 0 0))])), (4, some (.box [.t none (.sl 3 (enS3 encS encI encB) ([] ++ rs)), .t none (.sl 2 (enS2 encI (enSl 1 encI)) (gs))]))], 5⟩ : Nat × Atoms → St) (fun (m, gs) => m ≤ fs.length ∧ gs = putsF [] ((fs.take m).map (appF ns vs))) (fun (m, gs) => fs.length - m) (0, []) ⟨⟨rfl, ⟨rfl, ⟨rfl, ⟨rfl, ⟨rfl, ⟨rfl, trivial⟩⟩⟩⟩⟩⟩, ⟨rfl, ⟨rfl, ⟨rfl, ⟨rfl, trivial⟩⟩⟩⟩, rfl⟩ (by exact ⟨Nat.zero_le _, rfl⟩) ?_
   rintro ⟨m, gs⟩ hI ih0
   try dsimp only at hI ih0
   obtain ⟨i1, i2⟩ := hI; have ar := app_room i2
   refine t_seq<|tsr<|rM ?_
   refine rF 1 ?_
   refine rL ?_
   refine r_op (o_len rfl rfl rfl) ?_
   refine rB<|r_end ?_
   refine t_cond rfl (fun h3 => ?_) (fun h3 => ?_)
   ·
    have h3' := of_decide_eq_true h3
    refine t_skip<|t_seq<|t_block ?_
    refine t_draw (fun i => !(Nat.beq i 9)) (by kernel_rfl) ?_
    refine dT 0 rfl (pC 2) ?_
    refine dT 1 rfl (pC 2) ?_
    refine dT 2 rfl (pF 1) ?_
    refine dT 3 rfl pL ?_
    refine dT 4 rfl pM ?_
    obtain ⟨z4, hz5, b6⟩ := at_get (xs := fs) (n := (m : Int)) (by omega) (by omega)
    refine dT 5 rfl (p_index (by kernel_rfl) rfl rfl b6 hz5) ?_
    refine dT 6 rfl (p_loadA (n := 2) (by kernel_rfl) (by kernel_rfl) rfl rfl) ?_
    refine dO 7 rfl (o_call 5 10 false (en Tryz.func99) (c_spec_ApplyToFact (ns) (vs) (z4.1) (z4.2) (by omega) (by omega) (by omega) (by omega) (by (have e1 := sz_at (f := (fun (x : Int × (List (Int))) => (x.2).length)) (l := fs) (m := m) (by assumption); (try dsimp only at e1); omega)) (by exact ho _ (List.mem_of_getElem? (by assumption)))) rfl (.cons rfl (.agg (.cons .t0 (.cons .t0 .nil))) (.cons rfl (.agg (.cons .t0 (.cons .t0 .nil))) .nil)) rfl rfl rfl) ?_
    refine d_freeze 9 rfl (frz_pu rfl) ?_
    refine dO 8 rfl (o_call 10 10 true (en Tryz.func49) (c_spec_l5Put ([] ++ rs) (gs) ((z4.1)) ((z4.2).map (appV (ns) (vs))) (by omega) (by (rw [List.length_map]; have e1 := sz_at (f := (fun (x : Int × (List (Int))) => (x.2).length)) (l := fs) (m := m) (by assumption); (try dsimp only at e1); omega))) rfl (.cons rfl (.agg (.cons .t0 (.cons .t0 .nil))) (.cons rfl (.agg (.cons .t0 (.cons .t0 .nil))) .nil)) rfl rfl rfl) ?_
    refine dO 9 rfl (oS 2) ?_
    refine d_end (by kernel_rfl) ?_
    refine t_endblock<|t_region<|rM ?_
    refine rB ?_
    refine rA<|r_end ?_
    refine t_le ?_ (ih0 (m + 1, putF (gs) (((z4.1)), ((z4.2).map (appV (ns) (vs))))) (by (try dsimp only); omega) (by (try dsimp only); exact ⟨by omega, by rw [i2]; exact putsF_step (f := appF ns vs) hz5⟩))
    exact ⟨⟨rfl, ⟨rfl, ⟨rfl, ⟨rfl, ⟨rfl, ⟨(eqI (wr64 (by omega) (by omega))), trivial⟩⟩⟩⟩⟩⟩, ⟨rfl, ⟨rfl, ⟨rfl, ⟨rfl, trivial⟩⟩⟩⟩, rfl⟩
   ·
    have h3' := of_decide_eq_false h3
    refine t_exit rfl<|tsr<|rC 2 ?_
    refine r_op (o_call 5 10 false (en Tryz.func42) (c_spec_l5Copy ([] ++ rs) (gs) (by assumption) (by omega)) rfl (.cons rfl (.agg (.cons .t0 (.cons .t0 .nil))) .nil) rfl rfl rfl) ?_
    refine rS 2 ?_
    refine rA<|r_end ?_
    refine gt_freeze 7 rfl (frz_pu rfl) ?_
    refine gt_freeze 9 rfl (frz_pu rfl) ?_
    refine tk Tryz.func44 (.cells (n := 2) (by kernel_rfl) (by kernel_rfl) rfl rfl rfl (.tmp rfl .nil)) ?_ <;> (try clear ih0)
    all_goals ((have e8 := app_yes (rs := rs) (fs := fs) (ns := ns) (vs := vs) (by assumption) (by assumption); (have e9 := app_end i2 (by omega)); (rw [e8.1, e8.2.1, e8.2.2, ← e9]; rfl)))
 ·
  have g1' := (bnt g1)
  refine rG (nc g1) (fun _ => ?_)
  refine rG (nc g1) (fun _ => ?_)
  refine r_op (o_pickT rfl rfl g1 rfl) ?_
  refine r_end ?_
  refine t_cond rfl (fun _ => ?_) (nc rfl)
  refine tsr ?_
  refine r_op (o_build rfl (pl := [(0, 1), (1, 1)]) (zs := [.slice none 0 0, .slice none 0 0]) (by kernel_rfl) (by kernel_rfl) rfl rfl rfl) ?_
  refine rS 2 ?_
  refine rA<|r_end ?_
  refine gt_nilb 3 (b := 2) (o := 0) (et := 119) (sz := 3) true (enS3 encS encI encB) rfl rfl rfl ?_
  refine gt_nilb 4 (b := 2) (o := 1) (et := 85) (sz := 2) true (enS2 encI (enSl 1 encI)) rfl rfl rfl ?_
  refine gt_freeze 3 rfl (frz_pu rfl) ?_
  refine gt_freeze 4 rfl (frz_pu rfl) ?_
  refine tk Tryz.func44 (.cells (n := 2) (by kernel_rfl) (by kernel_rfl) rfl rfl rfl (.tmp rfl .nil)) ?_ <;> (try clear ih0)
  all_goals ((have e8 := app_no1 (rs := rs) (fs := fs) (ns := ns) (vs := vs) (by assumption); (rw [e8.1, e8.2.1, e8.2.2]; rfl)))
theorem c_spec_ExistentialVariables (a0 : List (Int × (List (Int)))) (a1 : List (Int × (List (Int)))) (a2 : Bool) (a3 : Int) (a4 : Int) (hs : szS (fun (x : Int × (List (Int))) => (x.2).length) a0 + szS (fun (x : Int × (List (Int))) => (x.2).length) a1 ≤ 1048576) : Pu Tryz.prog 45 [.agg [.t none (.sl 2 (enS2 encI (enSl 1 encI)) (a0)), .t none (.sl 2 (enS2 encI (enSl 1 encI)) (a1)), .t none (.v (.bool (a2))), .t none (.v (.int .i64 (a3))), .t none (.v (.int .i64 (a4)))]] [(1, some (.row none 3 true 1 encI (selV false (setI (varsL a0)) (setI (varsL a1)))))] 4 (.c (.own 1)) := by
 refine pu_enter Tryz.func45 rfl (Nat.le_of_ble_eq_true rfl) fun w S => ?_
 have g0 := sz_len (f := (fun (x : Int × (List (Int))) => (x.2).length)) (l := a0); have g1 := sz_len (f := (fun (x : Int × (List (Int))) => (x.2).length)) (l := a1); have v0 := setI_len (varsL a0); have v1 := varsL_size a0; have v2 := setI_len (varsL a1); have v3 := varsL_size a1
 refine tsr ?_
 refine r_op (o_box 0 rfl rfl rfl rfl) ?_
 refine rA<|etr ?_
 refine r_op (o_lit0 1 (e := 3) (sz := 1) (zs := [.int .i64 (0)]) encI rfl rfl (by kernel_rfl) rfl) ?_
 refine rA<|etr ?_
 refine rF 0 ?_
 refine rL ?_
 refine r_op (o_call 2 3 false (en Tryz.func100) (c_spec_Variables (a0) (by omega)) rfl (.cons rfl (.c .t0) .nil) rfl rfl rfl) ?_
 refine rA<|etr ?_
 refine rF 1 ?_
 refine rL ?_
 refine r_op (o_call 3 4 false (en Tryz.func100) (c_spec_Variables (a1) (by omega)) rfl (.cons rfl (.c .t0) .nil) rfl rfl rfl) ?_
 refine rA<|r_end<|t_seq<|tsr ?_
 refine rA<|r_end<|t_block ?_
 refine t_loopL (fun m => ⟨[(2, some (.c (.t none (.v (.slice none 0 0))))), (3, some (.c (.own 1))), (4, some (.c (.own 2))), (5, some (.c (.own 3))), (6, some (.c (.t none (.v (.int .i64 ((m : Int)))))))], [(0, some (.box [.t none (.sl 2 (enS2 encI (enSl 1 encI)) (a0)), .t none (.sl 2 (enS2 encI (enSl 1 encI)) (a1)), .t none (.v (.bool (a2))), .t none (.v (.int .i64 (a3))), .t none (.v (.int .i64 (a4)))])), (1, some (.row none 3 true 1 encI (((setI (varsL a1)).take m).filter (fun x => hasI (setI (varsL a0)) x == false)))), (2, some (.row none 3 true 1 encI (setI (varsL (a0))))), (3, some (.row none 3 true 1 encI (setI (varsL (a1)))))], 4⟩ : Nat → St) (fun m => m ≤ (setI (varsL a1)).length) (fun m => (setI (varsL a1)).length - m) 0 ⟨⟨rfl, ⟨rfl, ⟨rfl, ⟨rfl, ⟨rfl, trivial⟩⟩⟩⟩⟩, ⟨rfl, ⟨rfl, ⟨rfl, ⟨rfl, trivial⟩⟩⟩⟩, rfl⟩ (by exact Nat.zero_le _) ?_
 rintro m hI ih0
 try dsimp only at hI ih0
 have i1 := hI; have fl := filt_len (p := (fun x => hasI (setI (varsL a0)) x == false)) (l := setI (varsL a1)) (m := m)
 refine t_seq<|tsr<|rM ?_
 refine rM ?_
 refine r_op (o_leno rfl rfl rfl rfl) ?_
 refine rB<|r_end ?_
 refine t_cond rfl (fun h1 => ?_) (fun h1 => ?_)
 ·
  have h1' := of_decide_eq_true h1
  refine t_skip<|t_seq<|t_block<|tsr<|rM ?_
  refine rM ?_
  refine rM ?_
  obtain ⟨z2, hz3, b4⟩ := at_get (xs := setI (varsL (a1))) (n := (m : Int)) (by omega) (by omega)
  refine r_op (o_indexo rfl (by kernel_rfl) rfl rfl rfl b4 (at_lt b4 hz3)) ?_
  refine r_op (o_load1o rfl (by kernel_rfl) rfl rfl rfl hz3) ?_
  refine r_op (o_call 4 4 false (en Tryz.func101) (c_spec_l4Has (setI (varsL (a0))) (z2) (by omega)) rfl (.cons rfl (.c (.own rfl)) (.cons rfl (.c .t0) .nil)) rfl rfl rfl) ?_
  refine r_op (o_not rfl rfl) ?_
  refine r_end ?_
  refine t_cond rfl (fun h5 => ?_) (fun h5 => ?_)
  ·
   have h5' := (bnt h5)
   refine t_region<|rM ?_
   refine rM ?_
   refine rM ?_
   refine r_op (o_indexo rfl (by kernel_rfl) rfl rfl rfl b4 (at_lt b4 hz3)) ?_
   refine r_op (o_load1o rfl (by kernel_rfl) rfl rfl rfl hz3) ?_
   refine r_op (o_litS 4 (e := 3) (sz := 1) (zs := [.int .i64 (0)]) rfl rfl (by kernel_rfl) rfl rfl rfl rfl rfl) ?_
   refine r_op (o_append 1 (e := 3) (sz := 1) (by' := 8) (z2) rfl (by kernel_rfl) rfl rfl rfl rfl rfl rfl (.cons .sc .nil) rfl (by omega) (by omega)) ?_
   refine rA<|r_end<|t_endblock<|t_region ?_
   refine rM ?_
   refine rB ?_
   refine rA<|r_end ?_
   refine t_le ?_ (ih0 (m + 1) (by (try dsimp only); omega) (by (try dsimp only); omega))
   exact ⟨⟨rfl, ⟨rfl, ⟨rfl, ⟨rfl, ⟨(eqI (wr64 (by omega) (by omega))), trivial⟩⟩⟩⟩⟩, ⟨rfl, ⟨(eqR (by (rw [filt_more (by assumption) (by simp_all)]; done))), ⟨rfl, ⟨rfl, trivial⟩⟩⟩⟩, rfl⟩
  ·
   have h5' := (bnf h5)
   refine t_skip<|t_endblock<|t_region<|rM ?_
   refine rB ?_
   refine rA<|r_end ?_
   refine t_le ?_ (ih0 (m + 1) (by (try dsimp only); omega) (by (try dsimp only); omega))
   exact ⟨⟨rfl, ⟨rfl, ⟨rfl, ⟨rfl, ⟨(eqI (wr64 (by omega) (by omega))), trivial⟩⟩⟩⟩⟩, ⟨rfl, ⟨(eqR (by (rw [filt_same (by assumption) (by simp_all)]; done))), ⟨rfl, ⟨rfl, trivial⟩⟩⟩⟩, rfl⟩
 ·
  have h1' := of_decide_eq_false h1
  refine t_exit rfl<|tsr<|rM ?_
  refine rA<|r_end ?_
  refine tk Tryz.func45 (.tmp rfl .nil) ?_ (hL := ⟨eqR ?_, trivial⟩) <;> (try clear ih0)
  all_goals first | rfl | ((rw [filt_end (by omega)]; rfl))
theorem c_spec_NullsOfInstance (rs : Rels) (l : Atoms) (hl : szS (fun (x : Int × (List (Int))) => (x.2).length) l ≤ 1048576) (ho : ∀ z ∈ l, ∀ x ∈ z.2, okI x) : Pu Tryz.prog 102 [.agg [.t none (.sl 3 (enS3 encS encI encB) (rs)), .t none (.sl 2 (enS2 encI (enSl 1 encI)) (l))]] [(1, some (.row none 3 true 1 encI (setI (nulV (flatT l)))))] 2 (.c (.own 1)) := by
 refine pu_enter Tryz.func102 rfl (Nat.le_of_ble_eq_true rfl) fun w S => ?_
 have gl := sz_len (f := (fun (x : Int × (List (Int))) => (x.2).length)) (l := l); have gv := flatT_size l
 refine tsr ?_
 refine r_op (o_box 0 rfl rfl rfl rfl) ?_
 refine rA<|etr ?_
 refine r_op (o_lit0 1 (e := 3) (sz := 1) (zs := [.int .i64 (0)]) encI rfl rfl (by kernel_rfl) rfl) ?_
 refine rA<|r_end<|t_seq<|tsr ?_
 refine rA<|r_end<|t_block ?_
 refine t_loopL (fun m => ⟨[(1, some (.c (.ptr 0 0))), (2, some (.c (.t none (.v (.slice none 0 0))))), (3, some (.c (.own 1))), (4, some (.c (.t none (.v (.int .i64 ((m : Int)))))))], [(0, some (.box [.t none (.sl 3 (enS3 encS encI encB) (rs)), .t none (.sl 2 (enS2 encI (enSl 1 encI)) (l))])), (1, some (.row none 3 true 1 encI (setI (nulV (flatT (l.take m))))))], 2⟩ : Nat → St) (fun m => m ≤ l.length) (fun m => l.length - m) 0 ⟨⟨rfl, ⟨rfl, ⟨rfl, ⟨rfl, trivial⟩⟩⟩⟩, ⟨rfl, ⟨rfl, trivial⟩⟩, rfl⟩ (by exact Nat.zero_le _) ?_
 rintro m hI ih0
 try dsimp only at hI ih0
 have i1 := hI
 refine t_seq<|tsr<|rM ?_
 refine rF 1 ?_
 refine rL ?_
 refine r_op (o_len rfl rfl rfl) ?_
 refine rB<|r_end ?_
 refine t_cond rfl (fun h1 => ?_) (fun h1 => ?_)
 ·
  have h1' := of_decide_eq_true h1
  refine t_skip<|t_seq<|t_block<|tsr<|rF 1 ?_
  refine rL ?_
  refine rM ?_
  obtain ⟨z2, hz3, b4⟩ := at_get (xs := l) (n := (m : Int)) (by omega) (by omega)
  refine r_op (o_index rfl (by kernel_rfl) rfl rfl b4 hz3) ?_
  refine r_op (o_loadA rfl (n := 2) (by kernel_rfl) (by kernel_rfl) rfl rfl) ?_
  refine r_op (o_call 2 4 false (en Tryz.func156) (c_spec_NullsOfFact (z2.1) (z2.2) (by (have e1 := sz_at (f := (fun (x : Int × (List (Int))) => (x.2).length)) (l := l) (m := m) (by assumption); (try dsimp only at e1); omega)) (by exact ho _ (List.mem_of_getElem? (by assumption)))) rfl (.cons rfl (.agg (.cons .t0 (.cons .t0 .nil))) .nil) rfl rfl rfl) ?_
  refine rA<|etr ?_
  refine rA<|r_end<|t_block ?_
  refine t_loopL (fun n => ⟨[(1, some (.c (.ptr 0 0))), (2, some (.c (.t none (.v (.slice none 0 0))))), (3, some (.c (.own 1))), (4, some (.c (.t none (.v (.int .i64 ((m : Int))))))), (5, some (.c (.own 3))), (6, some (.c (.t none (.v (.int .i64 ((n : Int)))))))], [(0, some (.box [.t none (.sl 3 (enS3 encS encI encB) (rs)), .t none (.sl 2 (enS2 encI (enSl 1 encI)) (l))])), (1, some (.row none 3 true 1 encI (setI (nulV (flatT (l.take m)) ++ (setI (nulV z2.2)).take n)))), (3, some (.row none 3 true 1 encI (setI (nulV (z2.2)))))], 4⟩ : Nat → St) (fun n => n ≤ (setI (nulV z2.2)).length) (fun n => (setI (nulV z2.2)).length - n) 0 ⟨⟨rfl, ⟨rfl, ⟨rfl, ⟨rfl, ⟨rfl, ⟨rfl, trivial⟩⟩⟩⟩⟩⟩, ⟨rfl, ⟨(eqR (by rw [List.take_zero, List.append_nil])), ⟨rfl, trivial⟩⟩⟩, rfl⟩ (by exact Nat.zero_le _) ?_
  rintro n hI ih1
  try dsimp only at hI ih1
  have j1 := hI; have vp := flatT_part (m := m) hz3; have vq := nulV_len (flatT (l.take m)); have vr := nulV_len z2.2; have vs := setI_len (nulV z2.2); have vt := setI_len (nulV (flatT (l.take m)) ++ (setI (nulV z2.2)).take n); rw [List.length_append, List.length_take] at vt
  refine t_seq<|tsr<|rM ?_
  refine rM ?_
  refine r_op (o_leno rfl rfl rfl rfl) ?_
  refine rB<|r_end ?_
  refine t_cond rfl (fun h5 => ?_) (fun h5 => ?_)
  ·
   have h5' := of_decide_eq_true h5
   refine t_skip<|t_seq<|t_block<|t_region<|rM ?_
   refine rM ?_
   refine rM ?_
   obtain ⟨z6, hz7, b8⟩ := at_get (xs := setI (nulV (z2.2))) (n := (n : Int)) (by omega) (by omega)
   refine r_op (o_indexo rfl (by kernel_rfl) rfl rfl rfl b8 (at_lt b8 hz7)) ?_
   refine r_op (o_load1o rfl (by kernel_rfl) rfl rfl rfl hz7) ?_
   refine r_op (o_callC 1 (l' := putI (setI (nulV (flatT (l.take m)) ++ (setI (nulV z2.2)).take n)) (z6)) (en Tryz.func159) (fun U => c_spec_l4Put U  (setI (nulV (flatT (l.take m)) ++ (setI (nulV z2.2)).take n)) (z6) (by omega)) rfl rfl (.cons rfl (.own rfl) (.cons rfl .t0 .nil))) ?_
   refine rA<|r_end<|t_endblock<|t_region ?_
   refine rM ?_
   refine rB ?_
   refine rA<|r_end ?_
   refine t_le ?_ (ih1 (n + 1) (by (try dsimp only); omega) (by (try dsimp only); omega))
   exact ⟨⟨rfl, ⟨rfl, ⟨rfl, ⟨rfl, ⟨rfl, ⟨(eqI (wr64 (by omega) (by omega))), trivial⟩⟩⟩⟩⟩⟩, ⟨rfl, ⟨(eqR (by rw [snoc_at (n := n) _ hz7, setI_snoc])), ⟨rfl, trivial⟩⟩⟩, rfl⟩
  ·
   have h5' := of_decide_eq_false h5
   refine t_exit rfl<|t_endblock<|t_region<|rM ?_
   refine rB ?_
   refine rA<|r_end ?_
   refine t_le ?_ (ih0 (m + 1) (by (try dsimp only); omega) (by (try dsimp only); omega))
   exact ⟨⟨rfl, ⟨rfl, ⟨rfl, ⟨(eqI (wr64 (by omega) (by omega))), trivial⟩⟩⟩⟩, ⟨rfl, ⟨(eqR (by rw [flatT_step (m := m) hz3, nulV_app, List.take_of_length_le (i := n) (l := setI (nulV z2.2)) (by omega), setI_app])), trivial⟩⟩, rfl⟩
 ·
  have h1' := of_decide_eq_false h1
  refine t_exit rfl<|tsr<|rM ?_
  refine rA<|r_end ?_
  refine tk Tryz.func102 (.tmp rfl .nil) ?_ (hL := ⟨eqR ?_, trivial⟩) <;> (try clear ih0) <;> (try clear ih1)
  all_goals first | rfl | ((rw [flatT_end (by omega)]))
theorem c_spec_NextNull (rs : Rels) (l : Atoms) (hl : szS (fun (x : Int × (List (Int))) => (x.2).length) l ≤ 1048576) (ho : ∀ z ∈ l, ∀ x ∈ z.2, okI x) : Pu Tryz.prog 46 [.agg [.t none (.sl 3 (enS3 encS encI encB) (rs)), .t none (.sl 2 (enS2 encI (enSl 1 encI)) (l))]] [] 0 (.c (.t none (.v (.int .i64 (nextN (setI (nulV (flatT l)))))))) := by
 refine pu_enter Tryz.func46 rfl (Nat.le_of_ble_eq_true rfl) fun w S => ?_
 have gl := sz_len (f := (fun (x : Int × (List (Int))) => (x.2).length)) (l := l); have gv := flatT_size l; have q1 := setI_len (nulV (flatT l)); have q2 := nulV_len (flatT l)
 refine tsr ?_
 refine r_op (o_box 0 rfl rfl rfl rfl) ?_
 refine rA<|etr ?_
 refine rC 2 ?_
 refine r_op (o_call 1 3 false (en Tryz.func102) (c_spec_NullsOfInstance (rs) (l) (by omega) (by omega)) rfl (.cons rfl (.agg (.cons .t0 (.cons .t0 .nil))) .nil) rfl rfl rfl) ?_
 refine rA<|r_end<|t_seq<|tsr ?_
 refine rM ?_
 refine r_op (o_leno rfl rfl rfl rfl) ?_
 refine rB<|r_end ?_
 refine t_cond rfl (fun h1 => ?_) (fun h1 => ?_)
 ·
  have h1' := of_decide_eq_true h1
  refine tsr<|rA<|r_end ?_
  refine tk Tryz.func46 (.tmp rfl .nil) ?_
  all_goals (refine scI ?_; (rw [nextN_none (by omega)]; done))
 ·
  have h1' := of_decide_eq_false h1
  refine t_skip<|tsr<|rM ?_
  refine rM ?_
  refine r_op (o_leno rfl rfl rfl rfl) ?_
  refine rB ?_
  obtain ⟨z2, hz3, b4⟩ := at_get (xs := setI (nulV (flatT (l)))) (n := IntKind.i64.wrap (((setI (nulV (flatT (l)))).length : Int) - 1)) (by (simp only [IntKind.wrap_i64]; omega)) (by (simp only [IntKind.wrap_i64]; omega))
  refine r_op (o_indexo rfl (by kernel_rfl) rfl rfl rfl b4 (at_lt b4 hz3)) ?_
  refine r_op (o_load1o rfl (by kernel_rfl) rfl rfl rfl hz3) ?_
  refine rB ?_
  refine rA<|r_end ?_
  refine tk Tryz.func46 (.tmp rfl .nil) ?_
  all_goals (refine scI ?_; (rw [nextN_at (by assumption) (by simp only [IntKind.wrap_i64]; omega)]; done))
theorem c_spec_ApplyTrigger (rs : Rels) (fs : Atoms) (a0 : List (Int × (List (Int)))) (a1 : List (Int × (List (Int)))) (a2 : Bool) (a3 : Int) (a4 : Int) (b : List Int) (hrs : rs.length ≤ 1048576) (hsz : szS (fun (x : Int × (List (Int))) => (x.2).length) fs + (szS (fun (x : Int × (List (Int))) => (x.2).length) a0 + szS (fun (x : Int × (List (Int))) => (x.2).length) a1) ≤ 1048576) (ho : ∀ z ∈ fs, ∀ x ∈ z.2, okI x) (hoa : ∀ z ∈ a0, ∀ x ∈ z.2, okI x) (hoh : ∀ z ∈ a1, ∀ x ∈ z.2, okI x) (hbl : b.length ≤ 1048576) (hob : ∀ x ∈ b, okI x) : Pu Tryz.prog 8 [.agg [.t none (.sl 3 (enS3 encS encI encB) (rs)), .t none (.sl 2 (enS2 encI (enSl 1 encI)) (fs))], .agg [.t none (.sl 2 (enS2 encI (enSl 1 encI)) (a0)), .t none (.sl 2 (enS2 encI (enSl 1 encI)) (a1)), .t none (.v (.bool (a2))), .t none (.v (.int .i64 (a3))), .t none (.v (.int .i64 (a4)))], .c (.t none (.sl 1 encI (b)))] [] 0 (.tup [(true, [.t none (.sl 3 (enS3 encS encI encB) (trgR rs fs a0 a1 a2 a3 a4 b)), .t none (.sl 2 (enS2 encI (enSl 1 encI)) (trgS rs fs a0 a1 a2 a3 a4 b))]), (false, [.t none (.v (.int .i64 (trgC rs fs a0 a1 a2 a3 a4 b)))])]) := by
 refine pu_enter Tryz.func8 rfl (Nat.le_of_ble_eq_true rfl) fun w S => ?_
 have g0 := sz_len (f := (fun (x : Int × (List (Int))) => (x.2).length)) (l := a0); have g1 := sz_len (f := (fun (x : Int × (List (Int))) => (x.2).length)) (l := a1); have g2 := sz_len (f := (fun (x : Int × (List (Int))) => (x.2).length)) (l := fs); have v1 := selV_len false (setI (varsL a0)) (setI (varsL a1)); have v2 := setI_len (varsL a1); have v3 := varsL_size a1; have nb : 0 ≤ nextN (setI (nulV (flatT fs))) ∧ nextN (setI (nulV (flatT fs))) ≤ 40 := nnI_bd fs; have X5 : actOk rs fs a0 a1 a2 a3 a4 b = true → a2 = false → (selV false (setI (varsL a0)) (setI (varsL a1))).length ≤ 5 := exN_len; have XR : actOk rs fs a0 a1 a2 a3 a4 b = true → a2 = false → ∀ (k : Nat) x, (selV false (setI (varsL a0)) (setI (varsL a1)))[k]? = some x → 0 ≤ x ∧ x < 5 := (fun h h2 k x hx => exN_rng h h2 (List.mem_of_getElem? hx)); have XL : actOk rs fs a0 a1 a2 a3 a4 b = true → b.length = 5 := (fun h => (trg_inst (act_trg h)).2.2); have oW : ∀ x ∈ tgdW fs a0 a1 b, okI x := fillV_ok _ _ _ hob nb.1 (by (have e7 : (exN a0 a1).length = (selV false (setI (varsL a0)) (setI (varsL a1))).length := rfl); have e8 : nnI fs ≤ 40 := nb.2; omega)
 refine tsr ?_
 refine r_op (o_box 0 rfl rfl rfl rfl) ?_
 refine r_op (o_box 1 rfl rfl rfl rfl) ?_
 refine r_op (o_alloc 2 (zs := [.slice none 0 0, .slice none 0 0]) rfl rfl (by kernel_rfl) rfl) ?_
 refine rA<|etr ?_
 refine rC 2 ?_
 refine r_op (o_call 3 8 false (en Tryz.func42) (c_spec_l5Copy (rs) (fs) (by omega) (by omega)) rfl (.cons rfl (.agg (.cons .t0 (.cons .t0 .nil))) .nil) rfl rfl rfl) ?_
 refine r_op (o_alloc 8 (zs := [.slice none 0 0, .slice none 0 0]) rfl rfl (by kernel_rfl) rfl) ?_
 refine rS 2<|r_end<|t_seq<|tsr ?_
 refine rC 2 ?_
 refine rC 5 ?_
 refine rM ?_
 refine r_op (o_call 9 9 false (en Tryz.func32) (c_spec_IsActiveTrigger (rs) (fs) (a0) (a1) (a2) (a3) (a4) (b) (by omega) (by omega) (by omega) (by omega) (by omega) (by omega) (by omega)) rfl (.cons rfl (.agg (.cons .t0 (.cons .t0 .nil))) (.cons rfl (.agg (.cons .t0 (.cons .t0 (.cons .t0 (.cons .t0 (.cons .t0 .nil)))))) (.cons rfl (.c .t0) .nil))) rfl rfl rfl) ?_
 refine r_op (o_not rfl rfl) ?_
 refine r_end ?_
 refine t_cond rfl (fun h1 => ?_) (fun h1 => ?_)
 ·
  have h1' := (bnt h1)
  refine tsr<|rC 2 ?_
  refine rS 2 ?_
  refine rA<|r_end ?_
  refine gt_freeze 5 rfl (frz_pu rfl) ?_
  refine gt_freeze 7 rfl (frz_pu rfl) ?_
  refine tk Tryz.func8 (.cells (n := 2) (by kernel_rfl) (by kernel_rfl) rfl rfl rfl (.tmp rfl .nil)) ?_ <;> (try clear ih0) <;> (try clear ih1)
  all_goals ((have e8 := trg_off (rs := rs) (fs := fs) (a0 := a0) (a1 := a1) (a2 := a2) (a3 := a3) (a4 := a4) (v := b) (by assumption); (rw [e8.1, e8.2.1, e8.2.2]; rfl)))
 ·
  have h1' := (bnf h1)
  refine t_skip<|t_seq<|tsr<|rF 2 ?_
  refine rL<|r_end ?_
  refine t_cond rfl (fun h2 => ?_) (fun h2 => ?_)
  ·
   have h2' := h2
   refine tsr<|rM ?_
   refine rF 3 ?_
   refine rL ?_
   obtain ⟨z3, hz4, b5⟩ := at_get (xs := b) (n := a3) (by exact (trg_idx (act_trg (by assumption)) (by assumption)).1.1) (by exact (trg_idx (act_trg (by assumption)) (by assumption)).1.2)
   refine r_op (o_index rfl (by kernel_rfl) rfl rfl b5 hz4) ?_
   refine r_op (o_load1 rfl (by kernel_rfl) rfl rfl) ?_
   refine rA<|etr ?_
   refine rM ?_
   refine rF 4 ?_
   refine rL ?_
   obtain ⟨z6, hz7, b8⟩ := at_get (xs := b) (n := a4) (by exact (trg_idx (act_trg (by assumption)) (by assumption)).2.1) (by exact (trg_idx (act_trg (by assumption)) (by assumption)).2.2)
   refine r_op (o_index rfl (by kernel_rfl) rfl rfl b8 hz7) ?_
   refine r_op (o_load1 rfl (by kernel_rfl) rfl rfl) ?_
   refine rA<|r_end<|t_seq<|tsr ?_
   refine rM ?_
   refine rB ?_
   refine rM ?_
   refine rG (fun g9 => ?_) (fun g9 => ?_)
   ·
    have g9' := of_decide_eq_true g9
    refine rM ?_
    refine rG (fun _ => ?_) (nc g9)
    refine rB ?_
    refine r_op (o_pickT rfl rfl g9 rfl) ?_
    refine r_end ?_
    refine t_cond rfl (fun h10 => ?_) (fun h10 => ?_)
    ·
     have h10' := of_decide_eq_true h10
     refine tsr<|rC 2 ?_
     refine rS 2 ?_
     refine rA<|r_end ?_
     refine gt_freeze 5 rfl (frz_pu rfl) ?_
     refine gt_freeze 7 rfl (frz_pu rfl) ?_
     refine tk Tryz.func8 (.cells (n := 2) (by kernel_rfl) (by kernel_rfl) rfl rfl rfl (.tmp rfl .nil)) ?_ <;> (try clear ih0) <;> (try clear ih1)
     all_goals ((have e8 := trg_eq (rs := rs) (fs := fs) (a0 := a0) (a1 := a1) (a2 := a2) (a3 := a3) (a4 := a4) (v := b) (by assumption) (by assumption) hz4 hz7; (have e7 := eqd_no (rs := rs) (fs := fs) (a := z3) (b := z6) (by omega) (by omega); (rw [e8.1, e8.2.1, e8.2.2, e7.1, e7.2.1, e7.2.2]; rfl))))
    ·
     have h10' := of_decide_eq_false h10
     refine t_skip<|tsr<|rM ?_
     refine rM ?_
     refine r_op (o_min rfl rfl rfl) ?_
     refine r_op (o_call 9 9 false (en Tryz.func43) (c_spec_NullNumber (if z6 < z3 then z6 else z3) (by (have o3 := hob _ (List.mem_of_getElem? (l := b) (i := a3.toNat) (by assumption)); have o4 := hob _ (List.mem_of_getElem? (l := b) (i := a4.toNat) (by assumption)); unfold okI at o3 o4; (omega))) (by omega)) rfl (.cons rfl (.c .t0) .nil) rfl rfl rfl) ?_
     refine rM ?_
     refine r_op (o_extract rfl rfl rfl rfl) ?_
     refine r_op (o_extract rfl rfl rfl rfl) ?_
     refine rA ?_
     refine rA<|etr ?_
     refine rM ?_
     refine r_op (o_lit1 9 (e := 3) (sz := 1) (zs := [.int .i64 (0)]) (enc := encI) (if -40 ≤ (if z6 < z3 then z6 else z3) ∧ (if z6 < z3 then z6 else z3) ≤ -1 then -1 - (if z6 < z3 then z6 else z3) else 0) rfl rfl (by kernel_rfl) rfl rfl rfl rfl rfl rfl (.cons .sc .nil)) ?_
     refine rM ?_
     refine rM ?_
     refine r_op (o_max rfl rfl rfl) ?_
     refine r_op (o_lit1 10 (e := 3) (sz := 1) (zs := [.int .i64 (0)]) (enc := encI) (if z3 < z6 then z6 else z3) rfl rfl (by kernel_rfl) rfl rfl rfl rfl rfl rfl (.cons .sc .nil)) ?_
     refine r_op (o_build rfl (pl := [(0, 1), (1, 1)]) (zs := [.slice none 0 0, .slice none 0 0]) (by kernel_rfl) (by kernel_rfl) rfl rfl rfl) ?_
     refine rC 2 ?_
     refine r_freeze 9 rfl (frz_pu rfl) ?_
     refine r_freeze 10 rfl (frz_pu rfl) ?_
     refine r_op (o_call 11 11 true (en Tryz.func44) (c_spec_ApplyToInstance ([if -40 ≤ (if z6 < z3 then z6 else z3) ∧ (if z6 < z3 then z6 else z3) ≤ -1 then -1 - (if z6 < z3 then z6 else z3) else 0]) ([if z3 < z6 then z6 else z3]) (rs) (fs) (by (simp only [List.length_cons, List.length_nil]; omega)) (by (simp only [List.length_cons, List.length_nil]; omega)) (by (have o3 := hob _ (List.mem_of_getElem? (l := b) (i := a3.toNat) (by assumption)); have o4 := hob _ (List.mem_of_getElem? (l := b) (i := a4.toNat) (by assumption)); unfold okI at o3 o4; (exact sub1_ok (by unfold okI; omega)))) (by (have o3 := hob _ (List.mem_of_getElem? (l := b) (i := a3.toNat) (by assumption)); have o4 := hob _ (List.mem_of_getElem? (l := b) (i := a4.toNat) (by assumption)); unfold okI at o3 o4; (exact sub1_ok (by unfold okI; omega)))) (by omega) (by omega) (by omega)) rfl (.cons rfl (.agg (.cons .t0 (.cons .t0 .nil))) (.cons rfl (.agg (.cons .t0 (.cons .t0 .nil))) .nil)) rfl rfl rfl) ?_
     refine rM ?_
     refine r_op (o_extract rfl rfl rfl rfl) ?_
     refine r_op (o_extract rfl rfl rfl rfl) ?_
     refine r_op (o_alloc 11 (zs := [.slice none 0 0, .slice none 0 0]) rfl rfl (by kernel_rfl) rfl) ?_
     refine rS 2 ?_
     refine rA<|etr ?_
     refine rC 2 ?_
     refine rS 2 ?_
     refine rA<|r_end ?_
     refine tk Tryz.func8 (.cells (n := 2) (by kernel_rfl) (by kernel_rfl) rfl rfl rfl (.tmp rfl .nil)) ?_ <;> (try clear ih0) <;> (try clear ih1)
     all_goals ((have e8 := trg_eq (rs := rs) (fs := fs) (a0 := a0) (a1 := a1) (a2 := a2) (a3 := a3) (a4 := a4) (v := b) (by assumption) (by assumption) hz4 hz7; (have e7 := eqd_yes (rs := rs) (fs := fs) (a := z3) (b := z6) (by omega); (rw [e8.1, e8.2.1, e8.2.2, e7.1, e7.2.1, e7.2.2]; rfl))))
   ·
    have g9' := of_decide_eq_false g9
    refine rG (ncf g9) (fun _ => ?_)
    refine r_op (o_pickF rfl rfl g9 rfl) ?_
    refine r_end ?_
    refine t_cond rfl (ncf rfl) (fun _ => ?_)
    refine t_skip<|tsr<|rM ?_
    refine rM ?_
    refine r_op (o_min rfl rfl rfl) ?_
    refine r_op (o_call 9 9 false (en Tryz.func43) (c_spec_NullNumber (if z6 < z3 then z6 else z3) (by (have o3 := hob _ (List.mem_of_getElem? (l := b) (i := a3.toNat) (by assumption)); have o4 := hob _ (List.mem_of_getElem? (l := b) (i := a4.toNat) (by assumption)); unfold okI at o3 o4; (omega))) (by omega)) rfl (.cons rfl (.c .t0) .nil) rfl rfl rfl) ?_
    refine rM ?_
    refine r_op (o_extract rfl rfl rfl rfl) ?_
    refine r_op (o_extract rfl rfl rfl rfl) ?_
    refine rA ?_
    refine rA<|etr ?_
    refine rM ?_
    refine r_op (o_lit1 9 (e := 3) (sz := 1) (zs := [.int .i64 (0)]) (enc := encI) (if -40 ≤ (if z6 < z3 then z6 else z3) ∧ (if z6 < z3 then z6 else z3) ≤ -1 then -1 - (if z6 < z3 then z6 else z3) else 0) rfl rfl (by kernel_rfl) rfl rfl rfl rfl rfl rfl (.cons .sc .nil)) ?_
    refine rM ?_
    refine rM ?_
    refine r_op (o_max rfl rfl rfl) ?_
    refine r_op (o_lit1 10 (e := 3) (sz := 1) (zs := [.int .i64 (0)]) (enc := encI) (if z3 < z6 then z6 else z3) rfl rfl (by kernel_rfl) rfl rfl rfl rfl rfl rfl (.cons .sc .nil)) ?_
    refine r_op (o_build rfl (pl := [(0, 1), (1, 1)]) (zs := [.slice none 0 0, .slice none 0 0]) (by kernel_rfl) (by kernel_rfl) rfl rfl rfl) ?_
    refine rC 2 ?_
    refine r_freeze 9 rfl (frz_pu rfl) ?_
    refine r_freeze 10 rfl (frz_pu rfl) ?_
    refine r_op (o_call 11 11 true (en Tryz.func44) (c_spec_ApplyToInstance ([if -40 ≤ (if z6 < z3 then z6 else z3) ∧ (if z6 < z3 then z6 else z3) ≤ -1 then -1 - (if z6 < z3 then z6 else z3) else 0]) ([if z3 < z6 then z6 else z3]) (rs) (fs) (by (simp only [List.length_cons, List.length_nil]; omega)) (by (simp only [List.length_cons, List.length_nil]; omega)) (by (have o3 := hob _ (List.mem_of_getElem? (l := b) (i := a3.toNat) (by assumption)); have o4 := hob _ (List.mem_of_getElem? (l := b) (i := a4.toNat) (by assumption)); unfold okI at o3 o4; (exact sub1_ok (by unfold okI; omega)))) (by (have o3 := hob _ (List.mem_of_getElem? (l := b) (i := a3.toNat) (by assumption)); have o4 := hob _ (List.mem_of_getElem? (l := b) (i := a4.toNat) (by assumption)); unfold okI at o3 o4; (exact sub1_ok (by unfold okI; omega)))) (by omega) (by omega) (by omega)) rfl (.cons rfl (.agg (.cons .t0 (.cons .t0 .nil))) (.cons rfl (.agg (.cons .t0 (.cons .t0 .nil))) .nil)) rfl rfl rfl) ?_
    refine rM ?_
    refine r_op (o_extract rfl rfl rfl rfl) ?_
    refine r_op (o_extract rfl rfl rfl rfl) ?_
    refine r_op (o_alloc 11 (zs := [.slice none 0 0, .slice none 0 0]) rfl rfl (by kernel_rfl) rfl) ?_
    refine rS 2 ?_
    refine rA<|etr ?_
    refine rC 2 ?_
    refine rS 2 ?_
    refine rA<|r_end ?_
    refine tk Tryz.func8 (.cells (n := 2) (by kernel_rfl) (by kernel_rfl) rfl rfl rfl (.tmp rfl .nil)) ?_ <;> (try clear ih0) <;> (try clear ih1)
    all_goals ((have e8 := trg_eq (rs := rs) (fs := fs) (a0 := a0) (a1 := a1) (a2 := a2) (a3 := a3) (a4 := a4) (v := b) (by assumption) (by assumption) hz4 hz7; (have e7 := eqd_yes (rs := rs) (fs := fs) (a := z3) (b := z6) (by omega); (rw [e8.1, e8.2.1, e8.2.2, e7.1, e7.2.1, e7.2.2]; rfl))))
  ·
   have h2' := h2
   refine t_skip<|tsr ?_
   refine r_op (o_lit0 9 (e := 3) (sz := 1) (zs := [.int .i64 (0)]) encI rfl rfl (by kernel_rfl) rfl) ?_
   refine rM ?_
   refine r_op (o_appendS 9 (e := 3) (sz := 1) (by' := 8) rfl (by kernel_rfl) rfl rfl rfl rfl (fun _ _ => ⟨_, rfl⟩) (by (simp only [List.length_cons, List.length_nil]; omega)) (by (simp only [List.length_cons, List.length_nil]; omega))) ?_
   refine rA<|etr ?_
   refine rC 5 ?_
   refine r_op (o_call 10 14 false (en Tryz.func45) (c_spec_ExistentialVariables (a0) (a1) (a2) (a3) (a4) (by omega)) rfl (.cons rfl (.agg (.cons .t0 (.cons .t0 (.cons .t0 (.cons .t0 (.cons .t0 .nil)))))) .nil) rfl rfl rfl) ?_
   refine rA<|r_end<|t_seq<|tsr ?_
   refine rA<|r_end<|t_block ?_
   refine t_loopL (fun m => ⟨[(3, some (.c (.ptr 0 0))), (4, some (.c (.ptr 1 0))), (6, some (.c (.ptr 2 0))), (8, some (.c (.ptr 8 0))), (15, some (.c (.own 9))), (16, some (.c (.own 11))), (17, some (.c (.t none (.v (.int .i64 ((m : Int)))))))], [(0, some (.box [.t none (.sl 3 (enS3 encS encI encB) (rs)), .t none (.sl 2 (enS2 encI (enSl 1 encI)) (fs))])), (1, some (.box [.t none (.sl 2 (enS2 encI (enSl 1 encI)) (a0)), .t none (.sl 2 (enS2 encI (enSl 1 encI)) (a1)), .t none (.v (.bool (a2))), .t none (.v (.int .i64 (a3))), .t none (.v (.int .i64 (a4)))])), (2, some (.box [.t none (.v (.slice none 0 0)), .t none (.v (.slice none 0 0))])), (5, some (.row none 119 true 3 (enS3 encS encI encB) ((rs)))), (7, some (.row none 85 true 2 (enS2 encI (enSl 1 encI)) ((fs)))), (8, some (.box [.own 5, .own 7])), (9, some (.row none 3 true 1 encI (fillV b ((selV false (setI (varsL a0)) (setI (varsL a1))).take m) (nextN (setI (nulV (flatT fs))))))), (11, some (.row none 3 true 1 encI (selV false (setI (varsL (a0))) (setI (varsL (a1))))))], 14⟩ : Nat → St) (fun m => m ≤ (selV false (setI (varsL a0)) (setI (varsL a1))).length ∧ nextN (setI (nulV (flatT fs))) + (m : Int) ≤ 40) (fun m => (selV false (setI (varsL a0)) (setI (varsL a1))).length - m) 0 ⟨⟨rfl, ⟨rfl, ⟨rfl, ⟨rfl, ⟨rfl, ⟨rfl, ⟨rfl, trivial⟩⟩⟩⟩⟩⟩⟩, ⟨rfl, ⟨rfl, ⟨rfl, ⟨rfl, ⟨rfl, ⟨rfl, ⟨rfl, ⟨rfl, trivial⟩⟩⟩⟩⟩⟩⟩⟩, rfl⟩ (by exact ⟨Nat.zero_le _, by omega⟩) ?_
   rintro m hI ih0
   try dsimp only at hI ih0
   obtain ⟨i1, i3⟩ := hI; have ea : actOk rs fs a0 a1 a2 a3 a4 b = true := (by assumption); have eb : a2 = false := (by assumption); have e5 := X5 ea eb; have eL := XL ea; have eR := XR ea eb
   refine t_seq<|tsr<|rM ?_
   refine rM ?_
   refine r_op (o_leno rfl rfl rfl rfl) ?_
   refine rB<|r_end ?_
   refine t_cond rfl (fun h11 => ?_) (fun h11 => ?_)
   ·
    have h11' := of_decide_eq_true h11
    refine t_skip<|t_seq<|t_block<|tsr<|rC 2 ?_
    refine r_op (o_call 14 14 false (en Tryz.func46) (c_spec_NextNull (rs) (fs) (by omega) (by omega)) rfl (.cons rfl (.agg (.cons .t0 (.cons .t0 .nil))) .nil) rfl rfl rfl) ?_
    refine rM ?_
    refine rB ?_
    refine rA<|r_end<|t_seq<|tsr ?_
    refine rM ?_
    refine rB<|r_end ?_
    refine t_cond rfl (fun h12 => ?_) (fun h12 => ?_)
    ·
     have h12' := of_decide_eq_true h12
     refine tsr<|rC 2 ?_
     refine rS 2 ?_
     refine rA<|r_end ?_
     refine gt_freeze 5 rfl (frz_pu rfl) ?_
     refine gt_freeze 7 rfl (frz_pu rfl) ?_
     refine tk Tryz.func8 (.cells (n := 2) (by kernel_rfl) (by kernel_rfl) rfl rfl rfl (.tmp rfl .nil)) ?_ <;> (try clear ih0) <;> (try clear ih1)
     all_goals ((have en : (exN a0 a1).length = (selV false (setI (varsL a0)) (setI (varsL a1))).length := rfl; have eN : nnI fs = nextN (setI (nulV (flatT fs))) := rfl; have e8 := trg_over (rs := rs) (fs := fs) (a0 := a0) (a1 := a1) (a2 := a2) (a3 := a3) (a4 := a4) (v := b) ea eb (tgdO_hi (by (try simp only [IntKind.wrap_i64] at *); omega)); (rw [e8.1, e8.2.1, e8.2.2]; rfl)))
    ·
     have h12' := of_decide_eq_false h12
     refine t_skip ?_
     refine t_draw (fun i => !(Nat.beq i 8)) (by kernel_rfl) ?_
     refine dT 0 rfl pM ?_
     refine dT 1 rfl pM ?_
     refine dT 2 rfl pM ?_
     obtain ⟨z13, hz14, b15⟩ := at_get (xs := selV false (setI (varsL (a0))) (setI (varsL (a1)))) (n := (m : Int)) (by omega) (by omega)
     refine dT 3 rfl (p_indexo (by kernel_rfl) rfl rfl rfl b15 (at_lt b15 hz14)) ?_
     refine dT 4 rfl (p_load1o (by kernel_rfl) rfl rfl rfl hz14) ?_
     refine dT 5 rfl pM ?_
     refine dO 6 rfl (o_call 14 14 false (en Tryz.func47) (c_spec_NullValue (IntKind.i64.wrap ((nextN (setI (nulV (flatT (fs))))) + (m : Int))) (by (simp only [IntKind.wrap_i64]; omega))) rfl (.cons rfl (.c .t0) .nil) rfl rfl rfl) ?_
     obtain ⟨z16, hz17, b18⟩ := at_get (xs := fillV b ((selV false (setI (varsL a0)) (setI (varsL a1))).take m) (nextN (setI (nulV (flatT fs))))) (n := z13) (by (have e2 := eR _ _ (by assumption); (try rw [fillV_len]); omega)) (by (have e2 := eR _ _ (by assumption); (try rw [fillV_len]); omega))
     refine dT 7 rfl (p_indexo (by kernel_rfl) rfl rfl rfl b18 (at_lt b18 hz17)) ?_
     refine dO 8 rfl (o_storeo (-1 - (IntKind.i64.wrap ((nextN (setI (nulV (flatT (fs))))) + (m : Int)))) (n := 1) (by kernel_rfl) rfl rfl hz17 rfl rfl rfl rfl (.cons .sc .nil) rfl (fun j h1 h2 => by (simp at h1 h2; omega))) ?_
     refine d_end (by kernel_rfl) ?_
     refine t_endblock<|t_region<|rM ?_
     refine rB ?_
     refine rA<|r_end ?_
     refine t_le ?_ (ih0 (m + 1) (by (try dsimp only); omega) (by (try dsimp only); (simp only [IntKind.wrap_i64] at *; omega)))
     exact ⟨⟨rfl, ⟨rfl, ⟨rfl, ⟨rfl, ⟨rfl, ⟨rfl, ⟨(eqI (wr64 (by omega) (by omega))), trivial⟩⟩⟩⟩⟩⟩⟩, ⟨rfl, ⟨rfl, ⟨rfl, ⟨rfl, ⟨rfl, ⟨rfl, ⟨(eqR (by rw [wr64 (by omega) (by omega)]; exact fillV_step hz14)), ⟨rfl, trivial⟩⟩⟩⟩⟩⟩⟩⟩, rfl⟩
   ·
    have h11' := of_decide_eq_false h11
    refine t_exit rfl<|tsr<|rC 2 ?_
    refine r_op (o_alloc 14 (zs := [.slice none 0 0, .slice none 0 0]) rfl rfl (by kernel_rfl) rfl) ?_
    refine rS 2<|r_end<|t_seq<|tsr ?_
    refine rA<|r_end<|t_block ?_
    refine gt_freeze 5 rfl (frz_pu rfl) ?_
    refine gt_freeze 7 rfl (frz_pu rfl) ?_
    refine t_loopL (fun (n, gs) => ⟨[(4, some (.c (.ptr 1 0))), (6, some (.c (.ptr 2 0))), (8, some (.c (.ptr 8 0))), (15, some (.c (.own 9))), (19, some (.c (.ptr 14 0))), (20, some (.c (.t none (.v (.int .i64 ((n : Int)))))))], [(0, some (.box [.t none (.sl 3 (enS3 encS encI encB) (rs)), .t none (.sl 2 (enS2 encI (enSl 1 encI)) (fs))])), (1, some (.box [.t none (.sl 2 (enS2 encI (enSl 1 encI)) (a0)), .t none (.sl 2 (enS2 encI (enSl 1 encI)) (a1)), .t none (.v (.bool (a2))), .t none (.v (.int .i64 (a3))), .t none (.v (.int .i64 (a4)))])), (2, some (.box [.t none (.v (.slice none 0 0)), .t none (.v (.slice none 0 0))])), (8, some (.box [.t none (.sl 3 (enS3 encS encI encB) ((rs))), .t none (.sl 2 (enS2 encI (enSl 1 encI)) ((fs)))])), (9, some (.row none 3 true 1 encI (tgdW fs a0 a1 b))), (11, some (.row none 3 true 1 encI (selV false (setI (varsL (a0))) (setI (varsL (a1)))))), (14, some (.box [.t none (.sl 3 (enS3 encS encI encB) (rs)), .t none (.sl 2 (enS2 encI (enSl 1 encI)) (gs))]))], 15⟩ : Nat × Atoms → St) (fun (n, gs) => n ≤ a1.length ∧ gs = putsF fs ((a1.take n).map (hdF (tgdW fs a0 a1 b)))) (fun (n, gs) => a1.length - n) (0, fs) ⟨⟨rfl, ⟨rfl, ⟨rfl, ⟨rfl, ⟨rfl, ⟨rfl, trivial⟩⟩⟩⟩⟩⟩, ⟨rfl, ⟨rfl, ⟨rfl, ⟨rfl, ⟨(eqR (by rw [List.take_of_length_le (by omega)]; rfl)), ⟨rfl, ⟨rfl, trivial⟩⟩⟩⟩⟩⟩⟩, rfl⟩ (by exact ⟨Nat.zero_le _, rfl⟩) ?_
    rintro ⟨n, gs⟩ hI ih1
    try dsimp only at hI ih1
    obtain ⟨j1, i2⟩ := hI
    refine t_seq<|tsr<|rM ?_
    refine rF 1 ?_
    refine rL ?_
    refine r_op (o_len rfl rfl rfl) ?_
    refine rB<|r_end ?_
    refine t_cond rfl (fun h19 => ?_) (fun h19 => ?_)
    ·
     have h19' := of_decide_eq_true h19
     refine t_skip<|t_seq<|t_block<|tsr<|rF 1 ?_
     refine rL ?_
     refine rM ?_
     obtain ⟨z20, hz21, b22⟩ := at_get (xs := a1) (n := (n : Int)) (by omega) (by omega)
     refine r_op (o_index rfl (by kernel_rfl) rfl rfl b22 hz21) ?_
     refine r_op (o_loadA rfl (n := 2) (by kernel_rfl) (by kernel_rfl) rfl rfl) ?_
     refine rM ?_
     rcases hm23 : instV (tgdW fs a0 a1 b) (z20.2) with _ | q25
     ·
      refine r_op (o_call 15 19 false (en Tryz.func48) (c_spec_Instantiate (z20.1) (z20.2) (tgdW fs a0 a1 b) (by (have e1 := sz_at (f := (fun (x : Int × (List (Int))) => (x.2).length)) (l := a1) (m := n) (by assumption); (try dsimp only at e1); omega)) (by exact hoh _ (List.mem_of_getElem? (by assumption))) (by omega) _ hm23) rfl (.cons rfl (.agg (.cons .t0 (.cons .t0 .nil))) (.cons rfl (.c (.own rfl)) .nil)) rfl rfl rfl) ?_
      refine rM ?_
      refine r_op (o_extract rfl rfl rfl rfl) ?_
      refine r_op (o_extract rfl rfl rfl rfl) ?_
      refine r_op (o_alloc 19 (zs := [.int .i64 (0), .slice none 0 0]) rfl rfl (by kernel_rfl) rfl) ?_
      refine rS 2 ?_
      refine rA<|rtr ?_
      refine rC 2 ?_
      refine rC 2 ?_
      refine r_nilA 115 1 (sz := 1) encI rfl rfl ?_
      refine r_op (o_call 20 20 true (en Tryz.func49) (c_spec_l5Put (rs) (gs) (0) ([]) (by (have e2 := hd_room i2; omega)) (by (simp only [List.length_cons, List.length_nil]; omega))) rfl (.cons rfl (.agg (.cons .t0 (.cons .t0 .nil))) (.cons rfl (.agg (.cons .t0 (.cons .t0 .nil))) .nil)) rfl rfl rfl) ?_
      refine rS 2<|r_end<|t_endblock<|t_region ?_
      refine rM ?_
      refine rB ?_
      refine rA<|r_end ?_
      refine t_le ?_ (ih1 (n + 1, putF (gs) ((0), ([]))) (by (try dsimp only); omega) (by (try dsimp only); exact ⟨by omega, by (exact puts_none i2 hz21 (by assumption))⟩))
      exact ⟨⟨rfl, ⟨rfl, ⟨rfl, ⟨rfl, ⟨rfl, ⟨(eqI (wr64 (by omega) (by omega))), trivial⟩⟩⟩⟩⟩⟩, ⟨rfl, ⟨rfl, ⟨rfl, ⟨rfl, ⟨rfl, ⟨rfl, ⟨rfl, trivial⟩⟩⟩⟩⟩⟩⟩, rfl⟩
     ·
      refine r_op (o_call 15 19 false (en Tryz.func48) (c_spec_Instantiate (z20.1) (z20.2) (tgdW fs a0 a1 b) (by (have e1 := sz_at (f := (fun (x : Int × (List (Int))) => (x.2).length)) (l := a1) (m := n) (by assumption); (try dsimp only at e1); omega)) (by exact hoh _ (List.mem_of_getElem? (by assumption))) (by omega) _ hm23) rfl (.cons rfl (.agg (.cons .t0 (.cons .t0 .nil))) (.cons rfl (.c (.own rfl)) .nil)) rfl rfl rfl) ?_
      refine rM ?_
      refine r_op (o_extract rfl rfl rfl rfl) ?_
      refine r_op (o_extract rfl rfl rfl rfl) ?_
      refine r_op (o_alloc 19 (zs := [.int .i64 (0), .slice none 0 0]) rfl rfl (by kernel_rfl) rfl) ?_
      refine rS 2 ?_
      refine rA<|rtr ?_
      refine rC 2 ?_
      refine rC 2 ?_
      refine r_freeze 18 rfl (frz_pu rfl) ?_
      refine r_op (o_call 20 20 true (en Tryz.func49) (c_spec_l5Put (rs) (gs) ((z20.1)) ((q25)) (by (have e2 := hd_room i2; omega)) (by (have e9 := instV_len (by assumption); have e1 := sz_at (f := (fun (x : Int × (List (Int))) => (x.2).length)) (l := a1) (m := n) (by assumption); (try dsimp only at e1); omega))) rfl (.cons rfl (.agg (.cons .t0 (.cons .t0 .nil))) (.cons rfl (.agg (.cons .t0 (.cons .t0 .nil))) .nil)) rfl rfl rfl) ?_
      refine rS 2<|r_end<|t_endblock<|t_region ?_
      refine rM ?_
      refine rB ?_
      refine rA<|r_end ?_
      refine t_le ?_ (ih1 (n + 1, putF (gs) (((z20.1)), ((q25)))) (by (try dsimp only); omega) (by (try dsimp only); exact ⟨by omega, by (exact puts_some i2 hz21 (by assumption))⟩))
      exact ⟨⟨rfl, ⟨rfl, ⟨rfl, ⟨rfl, ⟨rfl, ⟨(eqI (wr64 (by omega) (by omega))), trivial⟩⟩⟩⟩⟩⟩, ⟨rfl, ⟨rfl, ⟨rfl, ⟨rfl, ⟨rfl, ⟨rfl, ⟨rfl, trivial⟩⟩⟩⟩⟩⟩⟩, rfl⟩
    ·
     have h19' := of_decide_eq_false h19
     refine t_exit rfl<|t_seq<|tsr<|rF 1 ?_
     refine rL ?_
     refine r_op (o_len rfl rfl rfl) ?_
     refine rB<|r_end ?_
     refine t_cond rfl (fun h26 => ?_) (fun h26 => ?_)
     ·
      have h26' := of_decide_eq_true h26
      refine tsr<|rC 2 ?_
      refine rS 2 ?_
      refine rA<|r_end ?_
      refine tk Tryz.func8 (.cells (n := 2) (by kernel_rfl) (by kernel_rfl) rfl rfl rfl (.tmp rfl .nil)) ?_ <;> (try clear ih0) <;> (try clear ih1)
      all_goals (((have et : gs = tgdF fs a0 a1 b := (by rw [i2, List.take_of_length_le (by omega), tgdF_puts (trg_inst (act_trg ea)).1])); have en : (exN a0 a1).length = (selV false (setI (varsL a0)) (setI (varsL a1))).length := rfl; have eN : nnI fs = nextN (setI (nulV (flatT fs))) := rfl; (have e8 := trg_over (rs := rs) (fs := fs) (a0 := a0) (a1 := a1) (a2 := a2) (a3 := a3) (a4 := a4) (v := b) ea eb (by exact tgdO_len (by rw [← et]; omega)); (rw [e8.1, e8.2.1, e8.2.2]; rfl))))
     ·
      have h26' := of_decide_eq_false h26
      refine t_skip<|tsr<|rC 2 ?_
      refine r_op (o_call 15 20 false (en Tryz.func42) (c_spec_l5Copy (rs) (gs) (by omega) (by (have e2 := hd_room i2; omega))) rfl (.cons rfl (.agg (.cons .t0 (.cons .t0 .nil))) .nil) rfl rfl rfl) ?_
      refine rS 2 ?_
      refine rA<|r_end ?_
      refine gt_freeze 17 rfl (frz_pu rfl) ?_
      refine gt_freeze 19 rfl (frz_pu rfl) ?_
      refine tk Tryz.func8 (.cells (n := 2) (by kernel_rfl) (by kernel_rfl) rfl rfl rfl (.tmp rfl .nil)) ?_ <;> (try clear ih0) <;> (try clear ih1)
      all_goals (((have et : gs = tgdF fs a0 a1 b := (by rw [i2, List.take_of_length_le (by omega), tgdF_puts (trg_inst (act_trg ea)).1])); have en : (exN a0 a1).length = (selV false (setI (varsL a0)) (setI (varsL a1))).length := rfl; have eN : nnI fs = nextN (setI (nulV (flatT fs))) := rfl; (have e8 := trg_done (rs := rs) (fs := fs) (a0 := a0) (a1 := a1) (a2 := a2) (a3 := a3) (a4 := a4) (v := b) ea eb (tgdO_no (by omega) (by rw [← et]; omega)); (rw [e8.1, e8.2.1, e8.2.2, et]; rfl))))
theorem c_spec_FirstStep (rs : Rels) (fs : Atoms) (ds : List Dep) (hrs : rs.length ≤ 1048576) (hsz : szS (fun (x : Int × (List (Int))) => (x.2).length) fs + szS (fun (x : (List (Int × (List (Int)))) × (List (Int × (List (Int)))) × Bool × Int × Int) => (szS (fun (x : Int × (List (Int))) => (x.2).length) (x.1)) + (szS (fun (x : Int × (List (Int))) => (x.2).length) (x.2.1))) ds ≤ 1048576) (ho : ∀ z ∈ fs, ∀ x ∈ z.2, okI x) (hod : ∀ d ∈ ds, ∀ z ∈ d.1, ∀ x ∈ z.2, okI x) (hoe : ∀ d ∈ ds, ∀ z ∈ d.2.1, ∀ x ∈ z.2, okI x) : Pu Tryz.prog 21 [.agg [.t none (.sl 3 (enS3 encS encI encB) (rs)), .t none (.sl 2 (enS2 encI (enSl 1 encI)) (fs))], .c (.t none (.sl 5 (enS5 (enSl 2 (enS2 encI (enSl 1 encI))) (enSl 2 (enS2 encI (enSl 1 encI))) encB encI encI) (ds)))] [] 0 (.tup [(true, [.t none (.sl 3 (enS3 encS encI encB) (fstR rs fs ds)), .t none (.sl 2 (enS2 encI (enSl 1 encI)) (fstS rs fs ds))]), (true, [.t none (.v (.int .i64 (vioI rs fs ds))), .t none (.sl 1 encI (vioB rs fs ds))]), (false, [.t none (.v (.int .i64 (fstC rs fs ds)))])]) := by
 refine pu_enter Tryz.func21 rfl (Nat.le_of_ble_eq_true rfl) fun w S => ?_
 have gl := sz_len (f := (fun (x : (List (Int × (List (Int)))) × (List (Int × (List (Int)))) × Bool × Int × Int) => (szS (fun (x : Int × (List (Int))) => (x.2).length) (x.1)) + (szS (fun (x : Int × (List (Int))) => (x.2).length) (x.2.1)))) (l := ds); have gv := vioB_len (rs := rs) (fs := fs) (ds := ds); have go := vioB_ok (rs := rs) (ds := ds) ho; have gi : vioOk rs fs ds = true → 0 ≤ vioI rs fs ds ∧ vioI rs fs ds < ds.length := vio_idx
 refine tsr ?_
 refine r_op (o_box 0 rfl rfl rfl rfl) ?_
 refine r_op (o_alloc 1 (zs := [.slice none 0 0, .slice none 0 0]) rfl rfl (by kernel_rfl) rfl) ?_
 refine r_op (o_alloc 2 (zs := [.int .i64 (0), .slice none 0 0]) rfl rfl (by kernel_rfl) rfl) ?_
 refine rA<|etr ?_
 refine rC 2 ?_
 refine rM ?_
 refine r_opE (o_callE 3 4 (en Tryz.func68) (c_spec_FirstViolation (rs) (fs) (ds) (by omega) (by omega) (by omega) (by omega) (by omega)) rfl (.cons rfl (.agg (.cons .t0 (.cons .t0 .nil))) (.cons rfl (.c .t0) .nil)) (fun _ => rfl) rfl rfl) fun e1 => ?_
 refine rM ?_
 refine r_op (o_extract rfl rfl rfl rfl) ?_
 refine r_op (o_extract rfl rfl rfl rfl) ?_
 refine r_op (o_extract rfl rfl rfl rfl) ?_
 refine rA ?_
 refine rA ?_
 refine rA<|r_end<|t_seq<|tsr ?_
 refine rM ?_
 refine r_op (o_not rfl rfl) ?_
 refine r_end ?_
 refine t_cond rfl (fun h2 => ?_) (fun h2 => ?_)
 ·
  have h2' := (bnt h2)
  refine tsr<|rC 2 ?_
  refine r_op (o_call 4 9 false (en Tryz.func42) (c_spec_l5Copy (rs) (fs) (by omega) (by omega)) rfl (.cons rfl (.agg (.cons .t0 (.cons .t0 .nil))) .nil) rfl rfl rfl) ?_
  refine r_op (o_build rfl (pl := [(0, 1), (1, 1)]) (zs := [.int .i64 (0), .slice none 0 0]) (by kernel_rfl) (by kernel_rfl) rfl rfl rfl) ?_
  refine rS 2 ?_
  refine rS 2 ?_
  refine rA<|r_end ?_
  refine gt_nilb 9 (b := 2) (o := 1) (et := 3) (sz := 1) true encI rfl rfl rfl ?_
  refine gt_freeze 6 rfl (frz_pu rfl) ?_
  refine gt_freeze 8 rfl (frz_pu rfl) ?_
  refine gt_freeze 9 rfl (frz_pu rfl) ?_
  refine tk Tryz.func21 (.cells (n := 2) (by kernel_rfl) (by kernel_rfl) rfl rfl rfl (.cells (n := 2) (by kernel_rfl) (by kernel_rfl) rfl rfl rfl (.tmp rfl .nil))) ?_
  all_goals ((have e8 := fst_no (rs := rs) (fs := fs) (ds := ds) (by assumption); (rw [e8.1, e8.2.1, e8.2.2.1, e8.2.2.2.1, e8.2.2.2.2]; rfl)))
 ·
  have h2' := (bnf h2)
  refine t_skip<|t_seq ?_
  refine t_draw (fun i => !(Nat.beq i 11)) (by kernel_rfl) ?_
  refine dT 0 rfl (pC 2) ?_
  refine dT 1 rfl pM ?_
  refine dT 2 rfl pM ?_
  obtain ⟨z3, hz4, b5⟩ := at_get (xs := ds) (n := vioI (rs) (fs) (ds)) (by (have e7 := gi (by assumption); omega)) (by (have e7 := gi (by assumption); omega))
  refine dT 3 rfl (p_index (by kernel_rfl) rfl rfl b5 hz4) ?_
  refine dT 4 rfl (p_loadA (n := 5) (by kernel_rfl) (by kernel_rfl) rfl rfl) ?_
  refine dT 5 rfl pM ?_
  refine d_freeze 3 rfl (frz_pu rfl) ?_
  refine d_two 6 10 rfl rfl (by kernel_rfl) rfl rfl (o_call 4 4 true (en Tryz.func8) (c_spec_ApplyTrigger (rs) (fs) (z3.1) (z3.2.1) (z3.2.2.1) (z3.2.2.2.1) (z3.2.2.2.2) (vioB (rs) (fs) (ds)) (by omega) (by (have e1 := sz_mem (f := (fun (x : (List (Int × (List (Int)))) × (List (Int × (List (Int)))) × Bool × Int × Int) => (szS (fun (x : Int × (List (Int))) => (x.2).length) (x.1)) + (szS (fun (x : Int × (List (Int))) => (x.2).length) (x.2.1)))) (l := ds) (List.mem_of_getElem? (by assumption)); (try dsimp only at e1); omega)) (by omega) (by exact hod _ (List.mem_of_getElem? (by assumption))) (by exact hoe _ (List.mem_of_getElem? (by assumption))) (by omega) (by omega)) rfl (.cons rfl (.agg (.cons .t0 (.cons .t0 .nil))) (.cons rfl (.agg (.cons .t0 (.cons .t0 (.cons .t0 (.cons .t0 (.cons .t0 .nil)))))) (.cons rfl (.c .t0) .nil))) rfl rfl rfl) (o_alloc 4 (zs := [.slice none 0 0, .slice none 0 0]) rfl rfl (by kernel_rfl) rfl) ?_ ?_
  ·
   refine dT 7 rfl pM ?_
   refine dT 8 rfl (p_extract rfl rfl rfl) ?_
   refine d_two 9 10 rfl rfl (by kernel_rfl) rfl rfl (o_extract rfl rfl rfl rfl) (o_alloc 4 (zs := [.slice none 0 0, .slice none 0 0]) rfl rfl (by kernel_rfl) rfl) ?_ ?_
   ·
    refine dO 10 rfl (o_alloc 4 (zs := [.slice none 0 0, .slice none 0 0]) rfl rfl (by kernel_rfl) rfl) ?_
    refine dO 11 rfl (oS 2) ?_
    refine dT 12 rfl pA ?_
    refine d_end (by kernel_rfl) ?_
    refine tsr<|rC 2 ?_
    refine rM ?_
    refine rM ?_
    refine r_op (o_build rfl (pl := [(0, 1), (1, 1)]) (zs := [.int .i64 (0), .slice none 0 0]) (by kernel_rfl) (by kernel_rfl) rfl rfl rfl) ?_
    refine rM ?_
    refine rS 2 ?_
    refine rS 2 ?_
    refine rA<|r_end ?_
    refine tk Tryz.func21 (.cells (n := 2) (by kernel_rfl) (by kernel_rfl) rfl rfl rfl (.cells (n := 2) (by kernel_rfl) (by kernel_rfl) rfl rfl rfl (.tmp rfl .nil))) ?_
    all_goals ((have e8 := fst_yes (rs := rs) (fs := fs) (ds := ds) (by assumption) hz4; (rw [e8.1, e8.2.1, e8.2.2]; rfl)))
   ·
    refine d_two 9 11 rfl rfl (by kernel_rfl) rfl rfl (o_extract rfl rfl rfl rfl) (oS 2) ?_ ?_
    ·
     refine dO 11 rfl (oS 2) ?_
     refine dT 12 rfl pA ?_
     refine d_end (by kernel_rfl) ?_
     refine tsr<|rC 2 ?_
     refine rM ?_
     refine rM ?_
     refine r_op (o_build rfl (pl := [(0, 1), (1, 1)]) (zs := [.int .i64 (0), .slice none 0 0]) (by kernel_rfl) (by kernel_rfl) rfl rfl rfl) ?_
     refine rM ?_
     refine rS 2 ?_
     refine rS 2 ?_
     refine rA<|r_end ?_
     refine tk Tryz.func21 (.cells (n := 2) (by kernel_rfl) (by kernel_rfl) rfl rfl rfl (.cells (n := 2) (by kernel_rfl) (by kernel_rfl) rfl rfl rfl (.tmp rfl .nil))) ?_
     all_goals ((have e8 := fst_yes (rs := rs) (fs := fs) (ds := ds) (by assumption) hz4; (rw [e8.1, e8.2.1, e8.2.2]; rfl)))
    ·
     refine dT 9 rfl (p_extract rfl rfl rfl) ?_
     refine dT 12 rfl pA ?_
     refine d_end (by kernel_rfl) ?_
     refine tsr<|rC 2 ?_
     refine rM ?_
     refine rM ?_
     refine r_op (o_build rfl (pl := [(0, 1), (1, 1)]) (zs := [.int .i64 (0), .slice none 0 0]) (by kernel_rfl) (by kernel_rfl) rfl rfl rfl) ?_
     refine rM ?_
     refine rS 2 ?_
     refine rS 2 ?_
     refine rA<|r_end ?_
     refine tk Tryz.func21 (.cells (n := 2) (by kernel_rfl) (by kernel_rfl) rfl rfl rfl (.cells (n := 2) (by kernel_rfl) (by kernel_rfl) rfl rfl rfl (.tmp rfl .nil))) ?_
     all_goals ((have e8 := fst_yes (rs := rs) (fs := fs) (ds := ds) (by assumption) hz4; (rw [e8.1, e8.2.1, e8.2.2]; rfl)))
  ·
   refine dO 6 rfl (o_call 5 5 true (en Tryz.func8) (c_spec_ApplyTrigger (rs) (fs) (z3.1) (z3.2.1) (z3.2.2.1) (z3.2.2.2.1) (z3.2.2.2.2) (vioB (rs) (fs) (ds)) (by omega) (by (have e1 := sz_mem (f := (fun (x : (List (Int × (List (Int)))) × (List (Int × (List (Int)))) × Bool × Int × Int) => (szS (fun (x : Int × (List (Int))) => (x.2).length) (x.1)) + (szS (fun (x : Int × (List (Int))) => (x.2).length) (x.2.1)))) (l := ds) (List.mem_of_getElem? (by assumption)); (try dsimp only at e1); omega)) (by omega) (by exact hod _ (List.mem_of_getElem? (by assumption))) (by exact hoe _ (List.mem_of_getElem? (by assumption))) (by omega) (by omega)) rfl (.cons rfl (.agg (.cons .t0 (.cons .t0 .nil))) (.cons rfl (.agg (.cons .t0 (.cons .t0 (.cons .t0 (.cons .t0 (.cons .t0 .nil)))))) (.cons rfl (.c .t0) .nil))) rfl rfl rfl) ?_
   refine dT 7 rfl pM ?_
   refine dT 8 rfl (p_extract rfl rfl rfl) ?_
   refine d_two 9 11 rfl rfl (by kernel_rfl) rfl rfl (o_extract rfl rfl rfl rfl) (oS 2) ?_ ?_
   ·
    refine dO 11 rfl (oS 2) ?_
    refine dT 12 rfl pA ?_
    refine d_end (by kernel_rfl) ?_
    refine tsr<|rC 2 ?_
    refine rM ?_
    refine rM ?_
    refine r_op (o_build rfl (pl := [(0, 1), (1, 1)]) (zs := [.int .i64 (0), .slice none 0 0]) (by kernel_rfl) (by kernel_rfl) rfl rfl rfl) ?_
    refine rM ?_
    refine rS 2 ?_
    refine rS 2 ?_
    refine rA<|r_end ?_
    refine tk Tryz.func21 (.cells (n := 2) (by kernel_rfl) (by kernel_rfl) rfl rfl rfl (.cells (n := 2) (by kernel_rfl) (by kernel_rfl) rfl rfl rfl (.tmp rfl .nil))) ?_
    all_goals ((have e8 := fst_yes (rs := rs) (fs := fs) (ds := ds) (by assumption) hz4; (rw [e8.1, e8.2.1, e8.2.2]; rfl)))
   ·
    refine dT 9 rfl (p_extract rfl rfl rfl) ?_
    refine dT 12 rfl pA ?_
    refine d_end (by kernel_rfl) ?_
    refine tsr<|rC 2 ?_
    refine rM ?_
    refine rM ?_
    refine r_op (o_build rfl (pl := [(0, 1), (1, 1)]) (zs := [.int .i64 (0), .slice none 0 0]) (by kernel_rfl) (by kernel_rfl) rfl rfl rfl) ?_
    refine rM ?_
    refine rS 2 ?_
    refine rS 2 ?_
    refine rA<|r_end ?_
    refine tk Tryz.func21 (.cells (n := 2) (by kernel_rfl) (by kernel_rfl) rfl rfl rfl (.cells (n := 2) (by kernel_rfl) (by kernel_rfl) rfl rfl rfl (.tmp rfl .nil))) ?_
    all_goals ((have e8 := fst_yes (rs := rs) (fs := fs) (ds := ds) (by assumption) hz4; (rw [e8.1, e8.2.1, e8.2.2]; rfl)))
theorem c_impl_within (a0 a1 a2 : Int) : Pu Tryz.prog 141 [.c (.t none (.v (.int .i64 (a0)))), .c (.t none (.v (.int .i64 (a1)))), .c (.t none (.v (.int .i64 (a2))))] [] 0 (.c (.t none (.v (.bool (decide (a1 ≤ a0 ∧ a0 ≤ a2)))))) := by
 refine pu_enter Tryz.func141 rfl (Nat.le_of_ble_eq_true rfl) fun w S => ?_
 refine tsr<|rA<|etr ?_
 refine rM ?_
 refine rM ?_
 refine rB ?_
 refine rM ?_
 refine rG (fun g1 => ?_) (fun g1 => ?_)
 ·
  have g1' := of_decide_eq_true g1
  refine rM ?_
  refine rG (fun _ => ?_) (nc g1)
  refine rM ?_
  refine rG (fun _ => ?_) (nc g1)
  refine rB ?_
  refine r_op (o_pickT rfl rfl g1 rfl) ?_
  refine rA<|r_end ?_
  refine tk Tryz.func141 (.tmp rfl .nil) ?_
  all_goals (simp_all <;> omega)
 ·
  have g1' := of_decide_eq_false g1
  refine rG (ncf g1) (fun _ => ?_)
  refine rG (ncf g1) (fun _ => ?_)
  refine r_op (o_pickF rfl rfl g1 rfl) ?_
  refine rA<|r_end ?_
  refine tk Tryz.func141 (.tmp rfl .nil) ?_
  all_goals (simp_all <;> omega)
theorem c_impl_IsValidRelation (n : List UInt8) (a : Int) (s : Bool) : Pu Tryz.prog 140 [.agg [.t none (.v (.string (mkS (n)))), .t none (.v (.int .i64 (a))), .t none (.v (.bool (s)))]] [] 0 (.c (.t none (.v (.bool (relOk (n, a, s)))))) := by
 refine pu_enter Tryz.func140 rfl (Nat.le_of_ble_eq_true rfl) fun w S => ?_
 refine tsr ?_
 refine r_op (o_box 0 rfl rfl rfl rfl) ?_
 refine rA<|etr ?_
 refine rF 0 ?_
 refine rL ?_
 refine r_op (o_lenS rfl Tryz.underlying9 rfl) ?_
 refine rB ?_
 refine rM ?_
 refine rG (fun g1 => ?_) (fun g1 => ?_)
 ·
  have g1' := of_decide_eq_true g1
  refine rF 0 ?_
  refine rG (fun _ => ?_) (nc g1)
  refine rL ?_
  refine rG (fun _ => ?_) (nc g1)
  refine r_op (o_str rfl rfl rfl rfl) ?_
  refine r_op (o_pickT rfl rfl g1 rfl) ?_
  refine rM ?_
  refine rG (fun g2 => ?_) (fun g2 => ?_)
  ·
   have g2' := (bnt g2)
   refine rF 0 ?_
   refine rG (fun _ => ?_) (nc g2)
   refine rL ?_
   refine rG (fun _ => ?_) (nc g2)
   refine r_op (o_str rfl rfl rfl rfl) ?_
   refine r_op (o_pickT rfl rfl g2 rfl) ?_
   refine rM ?_
   refine rG (fun g3 => ?_) (fun g3 => ?_)
   ·
    have g3' := (bnt g3)
    refine rF 1 ?_
    refine rG (fun _ => ?_) (nc g3)
    refine rL ?_
    refine rG (fun _ => ?_) (nc g3)
    refine r_op (o_call 1 1 false (en Tryz.func141) (c_impl_within (a) (1) (3)) rfl (.cons rfl (.c .t0) (.cons rfl (.c .t0) (.cons rfl (.c .t0) .nil))) rfl rfl rfl) ?_
    refine r_op (o_pickT rfl rfl g3 rfl) ?_
    refine rA<|r_end ?_
    refine tk Tryz.func140 (.tmp rfl .nil) ?_
    all_goals (refine scB ?_; (obtain ⟨c, rfl⟩ := one_of (by assumption); simp only [less_lo, less_hi, Bool.not_eq_true', Bool.not_eq_false', decide_eq_true_eq, decide_eq_false_iff_not] at *; simp [relOk, nameOk]; omega))
   ·
    have g3' := (bnf g3)
    refine rG (ncf g3) (fun _ => ?_)
    refine rG (ncf g3) (fun _ => ?_)
    refine r_op (o_pickF rfl rfl g3 rfl) ?_
    refine rA<|r_end ?_
    refine tk Tryz.func140 (.tmp rfl .nil) ?_
    all_goals (refine scB ?_; (obtain ⟨c, rfl⟩ := one_of (by assumption); simp only [less_lo, less_hi, Bool.not_eq_true', Bool.not_eq_false', decide_eq_true_eq, decide_eq_false_iff_not] at *; simp [relOk, nameOk]; omega))
  ·
   have g2' := (bnf g2)
   refine rG (ncf g2) (fun _ => ?_)
   refine rG (ncf g2) (fun _ => ?_)
   refine r_op (o_pickF rfl rfl g2 rfl) ?_
   refine rM ?_
   refine rG (ncf rfl) (fun _ => ?_)
   refine rG (ncf rfl) (fun _ => ?_)
   refine rG (ncf rfl) (fun _ => ?_)
   refine r_op (o_pickF rfl rfl rfl rfl) ?_
   refine rA<|r_end ?_
   refine tk Tryz.func140 (.tmp rfl .nil) ?_
   all_goals (refine scB ?_; (obtain ⟨c, rfl⟩ := one_of (by assumption); simp only [less_lo, less_hi, Bool.not_eq_true', Bool.not_eq_false', decide_eq_true_eq, decide_eq_false_iff_not] at *; simp [relOk, nameOk]; omega))
 ·
  have g1' := of_decide_eq_false g1
  refine rG (ncf g1) (fun _ => ?_)
  refine rG (ncf g1) (fun _ => ?_)
  refine r_op (o_pickF rfl rfl g1 rfl) ?_
  refine rM ?_
  refine rG (ncf rfl) (fun _ => ?_)
  refine rG (ncf rfl) (fun _ => ?_)
  refine rG (ncf rfl) (fun _ => ?_)
  refine r_op (o_pickF rfl rfl rfl rfl) ?_
  refine rM ?_
  refine rG (ncf rfl) (fun _ => ?_)
  refine rG (ncf rfl) (fun _ => ?_)
  refine rG (ncf rfl) (fun _ => ?_)
  refine r_op (o_pickF rfl rfl rfl rfl) ?_
  refine rA<|r_end ?_
  refine tk Tryz.func140 (.tmp rfl .nil) ?_
  all_goals (refine scB ?_; (have e := nameOk_not (by assumption); simp [relOk, e]; done))
theorem c_impl_AreValidRelations (l : List (List UInt8 × Int × Bool)) (hl : l.length ≤ 4611686018427387904) : Pu Tryz.prog 82 [.c (.t none (.sl 3 (enS3 encS encI encB) (l)))] [] 0 (.c (.t none (.v (.bool (relsOk l))))) := by
 refine pu_enter Tryz.func82 rfl (Nat.le_of_ble_eq_true rfl) fun w S => ?_
 refine tsr<|rA<|r_end<|t_seq<|tsr ?_
 refine rM ?_
 refine r_op (o_len rfl rfl rfl) ?_
 refine rM<|r_end<|t_block ?_
 refine t_loopL (fun m => ⟨[(0, some (.c (.t none (.sl 3 (enS3 encS encI encB) (l))))), (5, some (.c (.t none (.sl 3 (enS3 encS encI encB) (l))))), (6, some (.c (.t none (.v (.int .i64 (((l).length : Int))))))), (7, some (.c (.t none (.v (.int .i64 ((m : Int)))))))], [], 0⟩ : Nat → St) (fun m => m ≤ l.length ∧ ∀ j, j < m → relStep l j = true) (fun m => l.length - m) 0 ⟨⟨rfl, ⟨rfl, ⟨rfl, ⟨rfl, trivial⟩⟩⟩⟩, trivial, rfl⟩ (by exact ⟨Nat.zero_le _, fun j h => by omega⟩) ?_
 rintro m hI ih0
 try dsimp only at hI ih0
 obtain ⟨i1, i2⟩ := hI
 refine tsr<|rB<|r_end<|t_seq ?_
 refine t_cond rfl (fun h1 => ?_) (fun h1 => ?_)
 ·
  have h1' := of_decide_eq_true h1
  refine t_skip<|t_seq<|t_block<|tsr<|rM ?_
  obtain ⟨z2, hz3, b4⟩ := at_get (xs := l) (n := (m : Int)) (by omega) (by omega)
  refine r_op (o_index rfl (by kernel_rfl) rfl rfl b4 hz3) ?_
  refine r_op (o_loadA rfl (n := 3) (by kernel_rfl) (by kernel_rfl) rfl rfl) ?_
  refine r_op (o_alloc 0 (zs := [.string (mkS ([])), .int .i64 (0), .bool (false)]) rfl rfl (by kernel_rfl) rfl) ?_
  refine rA ?_
  refine rS 3<|r_end<|t_seq ?_
  refine t_draw (fun _ => true) (by kernel_rfl) ?_
  refine dT 0 rfl (pC 3) ?_
  refine dO 1 rfl (o_call 1 1 false (en Tryz.func140) (c_impl_IsValidRelation (z2.1) (z2.2.1) (z2.2.2)) rfl (.cons rfl (.agg (.cons .t0 (.cons .t0 (.cons .t0 .nil)))) .nil) rfl rfl rfl) ?_
  refine dT 2 rfl (p_not rfl) ?_
  refine dT 3 rfl pM ?_
  refine dH 4 rfl (fun _ => pM) (fun g5 => ?_) (fun g5 => ?_)
  ·
   have g5' := (bnf g5)
   refine dH 5 rfl (fun _ => pB) (fun _ => ?_) (ncf g5)
   refine dH 6 rfl (fun _ => pM) (fun _ => ?_) (ncf g5)
   refine dH 7 rfl (fun _ => pF 0) (fun g6 => ?_) (fun g6 => ?_)
   ·
    have g6' := of_decide_eq_true g6
    refine dH 8 rfl (fun _ => pL) (fun _ => ?_) (nc g6)
    refine dH 9 rfl (fun _ => pM) (fun _ => ?_) (nc g6)
    refine dH 10 rfl (fun _ => pM) (fun _ => ?_) (nc g6)
    refine dH 11 rfl (fun _ => pB) (fun _ => ?_) (nc g6)
    obtain ⟨z7, hz8, b9⟩ := at_get (xs := l) (n := IntKind.i64.wrap ((m : Int) - 1)) (by (simp only [IntKind.wrap_i64]; omega)) (by (simp only [IntKind.wrap_i64]; omega))
    refine dH 12 rfl (fun _ => p_index (by kernel_rfl) rfl rfl b9 hz8) (fun _ => ?_) (nc g6)
    refine dH 13 rfl (fun _ => p_field (off := 0) (by kernel_rfl) rfl) (fun _ => ?_) (nc g6)
    refine dH 14 rfl (fun _ => p_load1 (by kernel_rfl) rfl rfl) (fun _ => ?_) (nc g6)
    refine dH 15 rfl (fun _ => p_str rfl rfl rfl) (fun _ => ?_) (nc g6)
    refine dH 16 rfl (fun _ => p_pickT rfl g6 rfl) (fun _ => ?_) (ncf g5)
    refine dT 17 rfl (p_pickF rfl g5 rfl) ?_
    refine d_end (by kernel_rfl) ?_
    refine t_cond rfl (fun h10 => ?_) (fun h10 => ?_)
    ·
     have h10' := (bnt h10)
     refine tsr<|rA<|r_end ?_
     refine tk Tryz.func82 (.tmp rfl .nil) ?_ <;> (try clear ih0)
     all_goals (rw [relsOk_not (m := m) (by omega) (relStep_pos (n := (IntKind.i64.wrap ((m : Int) - 1)).toNat) (by assumption) (by assumption) (by omega) (by simp only [IntKind.wrap_i64]; omega) (by assumption) (by assumption))])
    ·
     have h10' := (bnf h10)
     refine t_skip<|t_endblock<|t_region<|rB ?_
     refine rM<|r_end ?_
     refine t_le ?_ (ih0 (m + 1) (by (try dsimp only); omega) (by (try dsimp only); exact ⟨by omega, step_all i2 (relStep_pos (n := (IntKind.i64.wrap ((m : Int) - 1)).toNat) (by assumption) (by assumption) (by omega) (by simp only [IntKind.wrap_i64]; omega) (by assumption) (by assumption))⟩))
     exact ⟨⟨rfl, ⟨rfl, ⟨rfl, ⟨(eqI (wr64 (by omega) (by omega))), trivial⟩⟩⟩⟩, trivial, rfl⟩
   ·
    have g6' := of_decide_eq_false g6
    refine dG 8 (ncf g6) (fun _ => ?_)
    refine dG 9 (ncf g6) (fun _ => ?_)
    refine dG 10 (ncf g6) (fun _ => ?_)
    refine dG 11 (ncf g6) (fun _ => ?_)
    refine dG 12 (ncf g6) (fun _ => ?_)
    refine dG 13 (ncf g6) (fun _ => ?_)
    refine dG 14 (ncf g6) (fun _ => ?_)
    refine dG 15 (ncf g6) (fun _ => ?_)
    refine dH 16 rfl (fun _ => p_pickF rfl g6 rfl) (fun _ => ?_) (ncf g5)
    refine dT 17 rfl (p_pickF rfl g5 rfl) ?_
    refine d_end (by kernel_rfl) ?_
    refine t_cond rfl (ncf rfl) (fun _ => ?_)
    refine t_skip<|t_endblock<|t_region<|rB ?_
    refine rM<|r_end ?_
    refine t_le ?_ (ih0 (m + 1) (by (try dsimp only); omega) (by (try dsimp only); exact ⟨by omega, step_all i2 (relStep_zero (by assumption) (by assumption) (by omega))⟩))
    exact ⟨⟨rfl, ⟨rfl, ⟨rfl, ⟨(eqI (wr64 (by omega) (by omega))), trivial⟩⟩⟩⟩, trivial, rfl⟩
  ·
   have g5' := (bnt g5)
   refine dG 5 (nc g5) (fun _ => ?_)
   refine dG 6 (nc g5) (fun _ => ?_)
   refine dK 7 ?_
   refine dK 8 ?_
   refine dK 9 ?_
   refine dK 10 ?_
   refine dK 11 ?_
   refine dK 12 ?_
   refine dK 13 ?_
   refine dK 14 ?_
   refine dK 15 ?_
   refine dG 16 (nc g5) (fun _ => ?_)
   refine dT 17 rfl (p_pickT rfl g5 rfl) ?_
   refine d_end (by kernel_rfl) ?_
   refine t_cond rfl (fun _ => ?_) (nc rfl)
   refine tsr<|rA<|r_end ?_
   refine tk Tryz.func82 (.tmp rfl .nil) ?_ <;> (try clear ih0)
   all_goals (rw [relsOk_not (m := m) (by omega) (relStep_bad (by assumption) (by assumption))])
 ·
  have h1' := of_decide_eq_false h1
  refine t_exit rfl<|tsr<|rM ?_
  refine r_op (o_len rfl rfl rfl) ?_
  refine rB ?_
  refine rA<|r_end ?_
  refine tk Tryz.func82 (.tmp rfl .nil) ?_ <;> (try clear ih0)
  all_goals (rw [relsOk_end (m := m) i2 (by omega)]; exact scD (by omega))
theorem c_slices_IndexFunc___int_int_ (l : List (Int)) (f : Nat) (cs : List ((Nat → T) × Nat)) (p : Int → Bool) (hl : l.length ≤ 9223372036854775807) (hf : ∀ x ∈ l, Fu Tryz.prog f ([.c (.t none (.v (.int .i64 (x))))] ++ pels cs) (.c (.t none (.v (.bool (p x)))))) : Pu Tryz.prog 181 [.c (.t none (.sl 1 encI (l))), .c (.fv f cs)] [] 0 (.c (.t none (.v (.int .i64 (idxI p l))))) := by
 refine pu_enter Tryz.func181 rfl (Nat.le_of_ble_eq_true rfl) fun w S => ?_
 refine tsr<|rA<|r_end<|t_seq<|tsr ?_
 refine rM ?_
 refine r_op (o_len rfl rfl rfl) ?_
 refine rM<|r_end<|t_block ?_
 refine t_loopL (fun m => ⟨[(0, some (.c (.t none (.sl 1 encI (l))))), (1, some (.c (.fv f cs))), (7, some (.c (.t none (.v (.int .i64 (((l).length : Int))))))), (8, some (.c (.t none (.v (.int .i64 ((m : Int)))))))], [], 0⟩ : Nat → St) (fun m => m ≤ l.length ∧ ∀ j z, j < m → l[j]? = some z → p z = false) (fun m => l.length - m) 0 ⟨⟨rfl, ⟨rfl, ⟨rfl, ⟨rfl, trivial⟩⟩⟩⟩, trivial, rfl⟩ (by exact ⟨Nat.zero_le _, fun j z h => by omega⟩) ?_
 rintro m hI ih0
 try dsimp only at hI ih0
 obtain ⟨i1, i2⟩ := hI
 refine tsr<|rB<|r_end<|t_seq ?_
 refine t_cond rfl (fun h1 => ?_) (fun h1 => ?_)
 ·
  have h1' := of_decide_eq_true h1
  refine t_skip<|t_seq<|t_block<|tsr<|rM ?_
  refine rA<|etr ?_
  refine rM ?_
  refine rM ?_
  refine rM ?_
  obtain ⟨z2, hz3, b4⟩ := at_get (xs := l) (n := (m : Int)) (by omega) (by omega)
  refine r_op (o_index rfl (by kernel_rfl) rfl rfl b4 hz3) ?_
  refine r_op (o_load1 rfl (by kernel_rfl) rfl rfl) ?_
  refine r_op (o_callv 0 0 false (hf z2 (List.mem_of_getElem? (by assumption))).1 (hf z2 (List.mem_of_getElem? (by assumption))).2 rfl rfl (.c .fv) (.cons rfl (.c .t0) .nil) rfl rfl rfl) ?_
  refine r_end ?_
  refine t_cond rfl (fun h5 => ?_) (fun h5 => ?_)
  ·
   have h5' := h5
   refine tsr<|rM ?_
   refine rA<|r_end ?_
   refine tk Tryz.func181 (.tmp rfl .nil) ?_ <;> (try clear ih0)
   all_goals (rw [idx_hit i2 (by assumption) (by assumption)])
  ·
   have h5' := h5
   refine t_skip<|t_endblock<|t_region<|rB ?_
   refine rM<|r_end ?_
   refine t_le ?_ (ih0 (m + 1) (by (try dsimp only); omega) (by (try dsimp only); exact ⟨by omega, no_step i2 (by assumption) rfl (by assumption)⟩))
   exact ⟨⟨rfl, ⟨rfl, ⟨rfl, ⟨(eqI (wr64 (by omega) (by omega))), trivial⟩⟩⟩⟩, trivial, rfl⟩
 ·
  have h1' := of_decide_eq_false h1
  refine t_exit rfl<|tsr<|rA<|r_end ?_
  refine tk Tryz.func181 (.tmp rfl .nil) ?_ <;> (try clear ih0)
  all_goals (rw [idx_none i2 (by omega)])
theorem c_slices_ContainsFunc___int_int_ (l : List (Int)) (f : Nat) (cs : List ((Nat → T) × Nat)) (p : Int → Bool) (hl : l.length ≤ 9223372036854775807) (hf : ∀ x ∈ l, Fu Tryz.prog f ([.c (.t none (.v (.int .i64 (x))))] ++ pels cs) (.c (.t none (.v (.bool (p x)))))) : Pu Tryz.prog 142 [.c (.t none (.sl 1 encI (l))), .c (.fv f cs)] [] 0 (.c (.t none (.v (.bool (l.any p))))) := by
 refine pu_enter Tryz.func142 rfl (Nat.le_of_ble_eq_true rfl) fun w S => ?_
 refine tsr<|rA<|etr ?_
 refine rM ?_
 refine rM ?_
 refine r_op (o_call 0 0 false (en Tryz.func181) (c_slices_IndexFunc___int_int_ (l) (f) (cs) (p) (by omega) (hf)) rfl (.cons rfl (.c .t0) (.cons rfl (.c .fv) .nil)) rfl rfl rfl) ?_
 refine rB ?_
 refine rA<|r_end ?_
 refine tk Tryz.func142 (.tmp rfl .nil) ?_
 all_goals (exact scB idx_any)
theorem c_impl_IsValidValue (v : Int) : Pu Tryz.prog 113 [.c (.t none (.v (.int .i64 (v))))] [] 0 (.c (.t none (.v (.bool (decide (-40 ≤ v ∧ v ≤ 9)))))) := by
 refine pu_enter Tryz.func113 rfl (Nat.le_of_ble_eq_true rfl) fun w S => ?_
 refine tsr<|rA<|etr ?_
 refine rM ?_
 refine r_op (o_call 0 0 false (en Tryz.func141) (c_impl_within (v) (-40) (9)) rfl (.cons rfl (.c .t0) (.cons rfl (.c .t0) (.cons rfl (.c .t0) .nil))) rfl rfl rfl) ?_
 refine rA<|r_end ?_
 refine tk Tryz.func113 (.tmp rfl .nil) ?_
 all_goals (rfl)
theorem c_impl_IsValidFact_1 (t : Int) : Pu Tryz.prog 143 [.c (.t none (.v (.int .i64 (t))))] [] 0 (.c (.t none (.v (.bool (!(valOk t)))))) := by
 refine pu_enter Tryz.func143 rfl (Nat.le_of_ble_eq_true rfl) fun w S => ?_
 refine tsr<|rA<|etr ?_
 refine rM ?_
 refine r_op (o_call 0 0 false (en Tryz.func113) (c_impl_IsValidValue (t)) rfl (.cons rfl (.c .t0) .nil) rfl rfl rfl) ?_
 refine r_op (o_not rfl rfl) ?_
 refine rA<|r_end ?_
 refine tk Tryz.func143 (.tmp rfl .nil) ?_
 all_goals (rfl)
theorem c_impl_IsValidFact (rs : List (List UInt8 × Int × Bool)) (r : Int) (ts : List Int) (hrs : rs.length ≤ 4611686018427387904) (hts : ts.length ≤ 4611686018427387904) (ho : ∀ x ∈ ts, okI x) : Pu Tryz.prog 83 [.c (.t none (.sl 3 (enS3 encS encI encB) (rs))), .agg [.t none (.v (.int .i64 (r))), .t none (.sl 1 encI (ts))]] [] 0 (.c (.t none (.v (.bool (factOk rs r ts))))) := by
 refine pu_enter Tryz.func83 rfl (Nat.le_of_ble_eq_true rfl) fun w S => ?_
 refine tsr ?_
 refine r_op (o_box 0 rfl rfl rfl rfl) ?_
 refine rA<|r_end<|t_seq<|t_seq ?_
 refine t_draw (fun _ => true) (by kernel_rfl) ?_
 refine dT 0 rfl pM ?_
 refine dO 1 rfl (o_call 1 1 false (en Tryz.func82) (c_impl_AreValidRelations (rs) (by omega)) rfl (.cons rfl (.c .t0) .nil) rfl rfl rfl) ?_
 refine dT 2 rfl (p_not rfl) ?_
 refine dT 3 rfl pM ?_
 refine dH 4 rfl (fun _ => pF 0) (fun g1 => ?_) (fun g1 => ?_)
 ·
  have g1' := (bnf g1)
  refine dH 5 rfl (fun _ => pL) (fun _ => ?_) (ncf g1)
  refine dH 6 rfl (fun _ => pM) (fun _ => ?_) (ncf g1)
  refine dH 7 rfl (fun _ => p_len rfl rfl) (fun _ => ?_) (ncf g1)
  refine dH 8 rfl (fun _ => pB) (fun _ => ?_) (ncf g1)
  refine d_onlyG 9 rfl rfl (by kernel_rfl) rfl rfl rfl (fun _ => (o_call 1 1 false (en Tryz.func141) (c_impl_within (r) (0) (IntKind.i64.wrap (((rs).length : Int) - 1))) rfl (.cons rfl (.c .t0) (.cons rfl (.c .t0) (.cons rfl (.c .t0) .nil))) rfl rfl rfl)) (fun _ => ?_) (ncf g1)
  refine dH 10 rfl (fun _ => p_not rfl) (fun _ => ?_) (ncf g1)
  refine dT 11 rfl (p_pickF rfl g1 rfl) ?_
  refine dT 12 rfl pM ?_
  refine dH 13 rfl (fun _ => pF 1) (fun g2 => ?_) (fun g2 => ?_)
  ·
   have g2' := of_decide_eq_true (bnf g2)
   refine dH 14 rfl (fun _ => pL) (fun _ => ?_) (ncf g2)
   refine dH 15 rfl (fun _ => p_len rfl rfl) (fun _ => ?_) (ncf g2)
   refine dH 16 rfl (fun _ => pM) (fun _ => ?_) (ncf g2)
   refine dH 17 rfl (fun _ => pF 0) (fun _ => ?_) (ncf g2)
   refine dH 18 rfl (fun _ => pL) (fun _ => ?_) (ncf g2)
   obtain ⟨z3, hz4, b5⟩ := at_get (xs := rs) (n := r) (by omega) (by (simp only [IntKind.wrap_i64] at *; omega))
   refine dH 19 rfl (fun _ => p_index (by kernel_rfl) rfl rfl b5 hz4) (fun _ => ?_) (ncf g2)
   refine dH 20 rfl (fun _ => p_field (off := 1) (by kernel_rfl) rfl) (fun _ => ?_) (ncf g2)
   refine dH 21 rfl (fun _ => p_load1 (by kernel_rfl) rfl rfl) (fun _ => ?_) (ncf g2)
   refine dH 22 rfl (fun _ => pB) (fun _ => ?_) (ncf g2)
   refine dT 23 rfl (p_pickF rfl g2 rfl) ?_
   refine d_end (by kernel_rfl) ?_
   refine t_cond rfl (fun h6 => ?_) (fun h6 => ?_)
   ·
    have h6' := of_decide_eq_true h6
    refine tsr<|rA<|r_end ?_
    refine tk Tryz.func83 (.tmp rfl .nil) ?_
    all_goals (refine scB ?_; (rw [fact_no3 (by assumption) (by assumption)]; done))
   ·
    have h6' := of_decide_eq_false h6
    refine t_skip<|tsr<|rF 1 ?_
    refine rL ?_
    refine r_op (o_call 1 1 false (en Tryz.func142) (c_slices_ContainsFunc___int_int_ (ts) (143) ([]) (fun (x0 : Int) => !(valOk (x0))) (by omega) (fun x0 mx0 => ⟨en Tryz.func143, c_impl_IsValidFact_1 (x0)⟩)) rfl (.cons rfl (.c .t0) (.cons rfl (.c (.clo .nil)) .nil)) rfl rfl rfl) ?_
    refine r_op (o_not rfl rfl) ?_
    refine rA<|r_end ?_
    refine tk Tryz.func83 (.tmp rfl .nil) ?_
    all_goals (refine scB ?_; (rw [fact_yes (by assumption) (by simp only [IntKind.wrap_i64] at *; omega) (by assumption) (by omega)]; done))
  ·
   have g2' := of_decide_eq_false (bnt g2)
   refine dG 14 (nc g2) (fun _ => ?_)
   refine dG 15 (nc g2) (fun _ => ?_)
   refine dG 16 (nc g2) (fun _ => ?_)
   refine dG 17 (nc g2) (fun _ => ?_)
   refine dG 18 (nc g2) (fun _ => ?_)
   refine dG 19 (nc g2) (fun _ => ?_)
   refine dG 20 (nc g2) (fun _ => ?_)
   refine dG 21 (nc g2) (fun _ => ?_)
   refine dG 22 (nc g2) (fun _ => ?_)
   refine dT 23 rfl (p_pickT rfl g2 rfl) ?_
   refine d_end (by kernel_rfl) ?_
   refine t_cond rfl (fun _ => ?_) (nc rfl)
   refine tsr<|rA<|r_end ?_
   refine tk Tryz.func83 (.tmp rfl .nil) ?_
   all_goals (refine scB ?_; (rw [fact_no2 (by simp only [IntKind.wrap_i64] at *; omega)]; done))
 ·
  have g1' := (bnt g1)
  refine dG 5 (nc g1) (fun _ => ?_)
  refine dG 6 (nc g1) (fun _ => ?_)
  refine dG 7 (nc g1) (fun _ => ?_)
  refine dG 8 (nc g1) (fun _ => ?_)
  refine dG 9 (nc g1) (fun _ => ?_)
  refine dG 10 (nc g1) (fun _ => ?_)
  refine dT 11 rfl (p_pickT rfl g1 rfl) ?_
  refine dT 12 rfl pM ?_
  refine dG 13 (nc rfl) (fun _ => ?_)
  refine dG 14 (nc rfl) (fun _ => ?_)
  refine dG 15 (nc rfl) (fun _ => ?_)
  refine dG 16 (nc rfl) (fun _ => ?_)
  refine dG 17 (nc rfl) (fun _ => ?_)
  refine dG 18 (nc rfl) (fun _ => ?_)
  refine dG 19 (nc rfl) (fun _ => ?_)
  refine dG 20 (nc rfl) (fun _ => ?_)
  refine dG 21 (nc rfl) (fun _ => ?_)
  refine dG 22 (nc rfl) (fun _ => ?_)
  refine dT 23 rfl (p_pickT rfl rfl rfl) ?_
  refine d_end (by kernel_rfl) ?_
  refine t_cond rfl (fun _ => ?_) (nc rfl)
  refine tsr<|rA<|r_end ?_
  refine tk Tryz.func83 (.tmp rfl .nil) ?_
  all_goals (refine scB ?_; (rw [fact_no1 (by assumption)]; done))
theorem c_cmp_isNaN_int_ (x : Int) : Pu Tryz.prog 182 [.c (.t none (.v (.int .i64 (x))))] [] 0 (.c (.t none (.v (.bool (false))))) := by
 refine pu_enter Tryz.func182 rfl (Nat.le_of_ble_eq_true rfl) fun w S => ?_
 refine tsr<|rA<|etr ?_
 refine rM ?_
 refine rM ?_
 refine rB ?_
 refine rA<|r_end ?_
 refine tk Tryz.func182 (.tmp rfl .nil) ?_
 all_goals (simp)
theorem c_cmp_Compare_int_ (x y : Int) : Pu Tryz.prog 145 [.c (.t none (.v (.int .i64 (x)))), .c (.t none (.v (.int .i64 (y))))] [] 0 (.c (.t none (.v (.int .i64 (cmpI x y))))) := by
 refine pu_enter Tryz.func145 rfl (Nat.le_of_ble_eq_true rfl) fun w S => ?_
 refine tsr<|rA<|etr ?_
 refine rM ?_
 refine r_op (o_call 0 0 false (en Tryz.func182) (c_cmp_isNaN_int_ (x)) rfl (.cons rfl (.c .t0) .nil) rfl rfl rfl) ?_
 refine rA<|etr ?_
 refine rM ?_
 refine r_op (o_call 0 0 false (en Tryz.func182) (c_cmp_isNaN_int_ (y)) rfl (.cons rfl (.c .t0) .nil) rfl rfl rfl) ?_
 refine rA<|r_end<|t_seq<|tsr ?_
 refine rM<|r_end ?_
 refine t_cond rfl (ncf rfl) (fun _ => ?_)
 refine t_skip<|t_seq<|tsr<|rM<|r_end ?_
 refine t_cond rfl (ncf rfl) (fun _ => ?_)
 refine t_skip<|t_seq<|tsr<|rM ?_
 refine rM ?_
 refine rB<|r_end ?_
 refine t_cond rfl (fun h1 => ?_) (fun h1 => ?_)
 ·
  have h1' := of_decide_eq_true h1
  refine tsr<|rA<|r_end ?_
  refine tk Tryz.func145 (.tmp rfl .nil) ?_
  all_goals (refine scI ?_; unfold cmpI; (rw [if_pos (by assumption)]; done))
 ·
  have h1' := of_decide_eq_false h1
  refine t_skip<|t_seq<|tsr<|rM ?_
  refine rM ?_
  refine rB<|r_end ?_
  refine t_cond rfl (fun h2 => ?_) (fun h2 => ?_)
  ·
   have h2' := of_decide_eq_true h2
   refine tsr<|rA<|r_end ?_
   refine tk Tryz.func145 (.tmp rfl .nil) ?_
   all_goals (refine scI ?_; unfold cmpI; (rw [if_neg (by assumption), if_pos (by omega)]; done))
  ·
   have h2' := of_decide_eq_false h2
   refine t_skip<|tsr<|rA<|r_end ?_
   refine tk Tryz.func145 (.tmp rfl .nil) ?_
   all_goals (refine scI ?_; unfold cmpI; (rw [if_neg (by assumption), if_neg (by omega)]; done))
theorem c_slices_Compare___int_int_ (a b : List Int) (ha : a.length ≤ 4611686018427387904) (hb : b.length ≤ 4611686018427387904) : Pu Tryz.prog 146 [.c (.t none (.sl 1 encI (a))), .c (.t none (.sl 1 encI (b)))] [] 0 (.c (.t none (.v (.int .i64 (cmpL a b))))) := by
 refine pu_enter Tryz.func146 rfl (Nat.le_of_ble_eq_true rfl) fun w S => ?_
 refine tsr<|rA<|r_end<|t_seq<|tsr ?_
 refine rM ?_
 refine r_op (o_len rfl rfl rfl) ?_
 refine rM<|r_end<|t_block ?_
 refine t_loopL (fun m => ⟨[(0, some (.c (.t none (.sl 1 encI (a))))), (1, some (.c (.t none (.sl 1 encI (b))))), (9, some (.c (.t none (.sl 1 encI (a))))), (10, some (.c (.t none (.v (.int .i64 (((a).length : Int))))))), (11, some (.c (.t none (.v (.int .i64 ((m : Int)))))))], [], 0⟩ : Nat → St) (fun m => m ≤ a.length ∧ m ≤ b.length ∧ a.take m = b.take m) (fun m => a.length - m) 0 ⟨⟨rfl, ⟨rfl, ⟨rfl, ⟨rfl, ⟨rfl, trivial⟩⟩⟩⟩⟩, trivial, rfl⟩ (by exact ⟨Nat.zero_le _, Nat.zero_le _, rfl⟩) ?_
 rintro m hI ih0
 try dsimp only at hI ih0
 obtain ⟨i1, i2, i3⟩ := hI
 refine tsr<|rB<|r_end<|t_seq ?_
 refine t_cond rfl (fun h1 => ?_) (fun h1 => ?_)
 ·
  have h1' := of_decide_eq_true h1
  refine t_skip<|t_seq<|t_block<|tsr<|rM ?_
  obtain ⟨z2, hz3, b4⟩ := at_get (xs := a) (n := (m : Int)) (by omega) (by omega)
  refine r_op (o_index rfl (by kernel_rfl) rfl rfl b4 hz3) ?_
  refine r_op (o_load1 rfl (by kernel_rfl) rfl rfl) ?_
  refine rA ?_
  refine rA<|r_end<|t_seq<|tsr ?_
  refine rM ?_
  refine rM ?_
  refine r_op (o_len rfl rfl rfl) ?_
  refine rB<|r_end ?_
  refine t_cond rfl (fun h5 => ?_) (fun h5 => ?_)
  ·
   have h5' := of_decide_eq_true h5
   refine tsr<|rA<|r_end ?_
   refine tk Tryz.func146 (.tmp rfl .nil) ?_ <;> (try clear ih0)
   all_goals (refine scI ?_; (rw [(cmpL_end i3 i1 i2).2.1 (by omega) (by omega)]; done))
  ·
   have h5' := of_decide_eq_false h5
   refine t_skip<|tsr<|rM ?_
   refine rM ?_
   obtain ⟨z6, hz7, b8⟩ := at_get (xs := b) (n := (m : Int)) (by omega) (by omega)
   refine r_op (o_index rfl (by kernel_rfl) rfl rfl b8 hz7) ?_
   refine r_op (o_load1 rfl (by kernel_rfl) rfl rfl) ?_
   refine rA<|etr ?_
   refine rM ?_
   refine rM ?_
   refine r_op (o_call 0 0 false (en Tryz.func145) (c_cmp_Compare_int_ (z2) (z6)) rfl (.cons rfl (.c .t0) (.cons rfl (.c .t0) .nil)) rfl rfl rfl) ?_
   refine rA<|etr ?_
   refine rM ?_
   refine rB<|r_end ?_
   refine t_cond rfl (fun h9 => ?_) (fun h9 => ?_)
   ·
    have h9' := of_decide_eq_true h9
    refine tsr<|rM ?_
    refine rA<|r_end ?_
    refine tk Tryz.func146 (.tmp rfl .nil) ?_ <;> (try clear ih0)
    all_goals (refine scI ?_; (exact cmpL_cmpI i3 (by assumption) (by assumption) (by omega)))
   ·
    have h9' := of_decide_eq_false h9
    refine t_skip<|t_endblock<|t_region<|rB ?_
    refine rM<|r_end ?_
    refine t_le ?_ (ih0 (m + 1) (by (try dsimp only); omega) (by (try dsimp only); exact ⟨by omega, by omega, take_same i3 (same_at (by assumption) (by assumption) (cmpI_eq (by omega)))⟩))
    exact ⟨⟨rfl, ⟨rfl, ⟨rfl, ⟨rfl, ⟨(eqI (wr64 (by omega) (by omega))), trivial⟩⟩⟩⟩⟩, trivial, rfl⟩
 ·
  have h1' := of_decide_eq_false h1
  refine t_exit rfl<|t_seq<|tsr<|rM ?_
  refine r_op (o_len rfl rfl rfl) ?_
  refine rM ?_
  refine r_op (o_len rfl rfl rfl) ?_
  refine rB<|r_end ?_
  refine t_cond rfl (fun h10 => ?_) (fun h10 => ?_)
  ·
   have h10' := of_decide_eq_true h10
   refine tsr<|rA<|r_end ?_
   refine tk Tryz.func146 (.tmp rfl .nil) ?_ <;> (try clear ih0)
   all_goals (refine scI ?_; (rw [(cmpL_end i3 i1 i2).1 (by omega) (by omega)]; done))
  ·
   have h10' := of_decide_eq_false h10
   refine t_skip<|tsr<|rA<|r_end ?_
   refine tk Tryz.func146 (.tmp rfl .nil) ?_ <;> (try clear ih0)
   all_goals (refine scI ?_; (rw [(cmpL_end i3 i1 i2).2.2 (by omega) (by omega)]; done))
theorem c_cmp_Or_int_ (l : List Int) (hl : l.length ≤ 4611686018427387904) : Pu Tryz.prog 144 [.c (.t none (.sl 1 encI (l)))] [] 0 (.c (.t none (.v (.int .i64 (orI l))))) := by
 refine pu_enter Tryz.func144 rfl (Nat.le_of_ble_eq_true rfl) fun w S => ?_
 refine tsr<|rA<|etr ?_
 refine rA<|r_end<|t_seq<|tsr ?_
 refine rM ?_
 refine r_op (o_len rfl rfl rfl) ?_
 refine rM<|r_end<|t_block ?_
 refine t_loopL (fun m => ⟨[(3, some (.c (.t none (.v (.int .i64 (0)))))), (6, some (.c (.t none (.sl 1 encI (l))))), (7, some (.c (.t none (.v (.int .i64 (((l).length : Int))))))), (8, some (.c (.t none (.v (.int .i64 ((m : Int)))))))], [], 0⟩ : Nat → St) (fun m => m ≤ l.length ∧ ∀ j y, j < m → l[j]? = some y → y = 0) (fun m => l.length - m) 0 ⟨⟨rfl, ⟨rfl, ⟨rfl, ⟨rfl, trivial⟩⟩⟩⟩, trivial, rfl⟩ (by exact ⟨Nat.zero_le _, fun j z h => by omega⟩) ?_
 rintro m hI ih0
 try dsimp only at hI ih0
 obtain ⟨i1, i2⟩ := hI
 refine tsr<|rB<|r_end<|t_seq ?_
 refine t_cond rfl (fun h1 => ?_) (fun h1 => ?_)
 ·
  have h1' := of_decide_eq_true h1
  refine t_skip<|t_seq<|t_block<|tsr ?_
  obtain ⟨z2, hz3, b4⟩ := at_get (xs := l) (n := (m : Int)) (by omega) (by omega)
  refine r_op (o_index rfl (by kernel_rfl) rfl rfl b4 hz3) ?_
  refine r_op (o_load1 rfl (by kernel_rfl) rfl rfl) ?_
  refine rA<|etr ?_
  refine rM ?_
  refine rM ?_
  refine rB<|r_end ?_
  refine t_cond rfl (fun h5 => ?_) (fun h5 => ?_)
  ·
   have h5' := of_decide_eq_true h5
   refine tsr<|rM ?_
   refine rA<|r_end ?_
   refine tk Tryz.func144 (.tmp rfl .nil) ?_ <;> (try clear ih0)
   all_goals (refine scI ?_; (rw [orI_at i2 (by assumption) (by omega)]; done))
  ·
   have h5' := of_decide_eq_false h5
   refine t_skip<|t_endblock<|t_region<|rB ?_
   refine rM<|r_end ?_
   refine t_le ?_ (ih0 (m + 1) (by (try dsimp only); omega) (by (try dsimp only); exact ⟨by omega, zero_step i2 (by assumption) rfl (by omega)⟩))
   exact ⟨⟨rfl, ⟨rfl, ⟨rfl, ⟨(eqI (wr64 (by omega) (by omega))), trivial⟩⟩⟩⟩, trivial, rfl⟩
 ·
  have h1' := of_decide_eq_false h1
  refine t_exit rfl<|tsr<|rM ?_
  refine rA<|r_end ?_
  refine tk Tryz.func144 (.tmp rfl .nil) ?_ <;> (try clear ih0)
  all_goals (refine scI ?_; (rw [orI_none fun j y hj hy => i2 j y (by omega) hy]; done))
theorem c_impl_CompareFacts (r : Int) (l : List Int) (r2 : Int) (l2 : List Int) (hl : l.length ≤ 1048576) (hl2 : l2.length ≤ 1048576) : Pu Tryz.prog 84 [.agg [.t none (.v (.int .i64 (r))), .t none (.sl 1 encI (l))], .agg [.t none (.v (.int .i64 (r2))), .t none (.sl 1 encI (l2))]] [] 0 (.c (.t none (.v (.int .i64 (cmpF (r, l) (r2, l2)))))) := by
 refine pu_enter Tryz.func84 rfl (Nat.le_of_ble_eq_true rfl) fun w S => ?_
 refine tsr ?_
 refine r_op (o_box 0 rfl rfl rfl rfl) ?_
 refine r_op (o_box 1 rfl rfl rfl rfl) ?_
 refine rA<|r_end<|t_seq ?_
 refine t_draw (fun _ => true) (by kernel_rfl) ?_
 refine dT 0 rfl (pF 0) ?_
 refine dT 1 rfl pL ?_
 refine dT 2 rfl (pF 0) ?_
 refine dT 3 rfl pL ?_
 refine dT 5 rfl (pF 1) ?_
 refine dT 6 rfl pL ?_
 refine dT 7 rfl (pF 1) ?_
 refine dT 8 rfl pL ?_
 refine dO 4 rfl (o_call 2 2 false (en Tryz.func145) (c_cmp_Compare_int_ (r) (r2)) rfl (.cons rfl (.c .t0) (.cons rfl (.c .t0) .nil)) rfl rfl rfl) ?_
 refine dO 9 rfl (o_call 2 2 false (en Tryz.func146) (c_slices_Compare___int_int_ (l) (l2) (by omega) (by omega)) rfl (.cons rfl (.c .t0) (.cons rfl (.c .t0) .nil)) rfl rfl rfl) ?_
 refine dO 10 rfl (o_litS 2 (e := 3) (sz := 1) (zs := [.int .i64 (0)]) rfl rfl (by kernel_rfl) rfl rfl rfl rfl rfl) ?_
 refine dO 11 rfl (o_call 3 3 false (en Tryz.func144) (c_cmp_Or_int_ ([cmpI (r) (r2), cmpL (l) (l2)]) (by (simp; done))) rfl (.cons rfl (.c (.bsl rfl rfl (.cons .t (.cons .t .nil)))) .nil) rfl rfl rfl) ?_
 refine dT 12 rfl pA ?_
 refine d_end (by kernel_rfl) ?_
 refine tk Tryz.func84 (.tmp rfl .nil) ?_
 all_goals (refine scI ?_; exact cmpF_or (r, l) (r2, l2))
theorem c_impl_NullNumber (v : Int) (hv : -9223372036854775808 ≤ v) (hv2 : v ≤ 9223372036854775807) : Pu Tryz.prog 111 [.c (.t none (.v (.int .i64 (v))))] [] 0 (.tup [(false, [.t none (.v (.int .i64 (if -40 ≤ v ∧ v ≤ -1 then -1 - v else 0)))]), (false, [.t none (.v (.bool (decide (-40 ≤ v ∧ v ≤ -1))))])]) := by
 refine pu_enter Tryz.func111 rfl (Nat.le_of_ble_eq_true rfl) fun w S => ?_
 refine tsr<|rA ?_
 refine rA<|r_end<|t_seq<|tsr ?_
 refine rM ?_
 refine rB ?_
 refine r_op (o_call 0 0 false (en Tryz.func141) (c_impl_within (IntKind.i64.wrap ((-1) - v)) (0) (39)) rfl (.cons rfl (.c .t0) (.cons rfl (.c .t0) (.cons rfl (.c .t0) .nil))) rfl rfl rfl) ?_
 refine r_op (o_not rfl rfl) ?_
 refine r_end ?_
 refine t_cond rfl (fun h1 => ?_) (fun h1 => ?_)
 ·
  have h1' := of_decide_eq_false (bnt h1)
  refine tsr<|rA ?_
  refine rA<|r_end ?_
  refine tk Tryz.func111 (.tmp rfl (.tmp rfl .nil)) ?_
  all_goals (((have hn : ¬(-40 ≤ v ∧ v ≤ -1) := by (simp only [IntKind.wrap_i64] at *; omega)); (simp [hn]; done)))
 ·
  have h1' := of_decide_eq_true (bnf h1)
  refine t_skip<|tsr<|rM ?_
  refine rB ?_
  refine rA ?_
  refine rA<|r_end ?_
  refine tk Tryz.func111 (.tmp rfl (.tmp rfl .nil)) ?_
  all_goals (((have hn : (-40 ≤ v ∧ v ≤ -1) := by (simp only [IntKind.wrap_i64] at *; omega)); (have e : IntKind.i64.wrap (-1 - v) = -1 - v := wr64 (by omega) (by omega)); (simp [hn, e]; done)))
def Tryz.sortL_ren : Go.Shelf.Ren := ⟨fun | 5 => 137 | 8 => 164 | 7 => 177 | 19 => 198 | 20 => 199 | 10 => 206 | 11 => 207 | 12 => 208 | 13 => 209 | 14 => 210 | 15 => 211 | 16 => 212 | 17 => 213 | 18 => 214 | 30 => 232 | 31 => 223 | 32 => 224 | 33 => 233 | 34 => 234 | 35 => 182 | 40 => 242 | n => n, fun | 23 => 29 | 25 => 3 | 3 => 3 | 32 => 174 | 22 => 29 | 0 => 0 | 44 => 204 | 46 => 206 | 4 => 4 | 36 => 198 | 35 => 197 | 41 => 76 | 5 => 5 | 9 => 9 | 53 => 226 | 57 => 230 | 63 => 237 | 64 => 238 | n => n, fun | n => n⟩
theorem Tryz.sortL : Go.Proofs.SlLaysM.n5 Tryz.prog Tryz.sortL_ren := {
 mixed := by kernel_rfl
 f5 := ⟨Tryz.f137.name, by decide, Tryz.func137.trans (congrArg some (by kernel_rfl))⟩
 f7 := ⟨Tryz.f177.name, by decide, Tryz.func177.trans (congrArg some (by kernel_rfl))⟩
 f8 := Tryz.func164.trans (congrArg some (by kernel_rfl))
 f10 := ⟨Tryz.f206.name, by decide, Tryz.func206.trans (congrArg some (by kernel_rfl))⟩
 f11 := ⟨Tryz.f207.name, by decide, Tryz.func207.trans (congrArg some (by kernel_rfl))⟩
 f12 := ⟨Tryz.f208.name, by decide, Tryz.func208.trans (congrArg some (by kernel_rfl))⟩
 f13 := ⟨Tryz.f209.name, by decide, Tryz.func209.trans (congrArg some (by kernel_rfl))⟩
 f14 := ⟨Tryz.f210.name, by decide, Tryz.func210.trans (congrArg some (by kernel_rfl))⟩
 f15 := ⟨Tryz.f211.name, by decide, Tryz.func211.trans (congrArg some (by kernel_rfl))⟩
 f16 := ⟨Tryz.f212.name, by decide, Tryz.func212.trans (congrArg some (by kernel_rfl))⟩
 f17 := ⟨Tryz.f213.name, by decide, Tryz.func213.trans (congrArg some (by kernel_rfl))⟩
 f18 := ⟨Tryz.f214.name, by decide, Tryz.func214.trans (congrArg some (by kernel_rfl))⟩
 f19 := Tryz.func198.trans (congrArg some (by kernel_rfl))
 f20 := Tryz.func199.trans (congrArg some (by kernel_rfl))
 f30 := ⟨Tryz.f232.name, by decide, Tryz.func232.trans (congrArg some (by kernel_rfl))⟩
 f31 := Tryz.func223.trans (congrArg some (by kernel_rfl))
 f32 := Tryz.func224.trans (congrArg some (by kernel_rfl))
 f33 := ⟨Tryz.f233.name, by decide, Tryz.func233.trans (congrArg some (by kernel_rfl))⟩
 f34 := ⟨Tryz.f234.name, by decide, Tryz.func234.trans (congrArg some (by kernel_rfl))⟩
 f35 := ⟨Tryz.f182.name, by decide, Tryz.func182.trans (congrArg some (by kernel_rfl))⟩
 f40 := ⟨Tryz.f242.name, by decide, Tryz.func242.trans (congrArg some (by kernel_rfl))⟩
 t0 := Tryz.underlying0
 a0 := Tryz.isAgg0
 z0 := Tryz.sizeOf0
 v0 := Tryz.zeroValue0
 t3 := Tryz.underlying3
 a3 := Tryz.isAgg3
 z3 := Tryz.sizeOf3
 v3 := Tryz.zeroValue3
 t4 := Tryz.underlying4
 a4 := Tryz.isAgg4
 z4 := Tryz.sizeOf4
 v4 := Tryz.zeroValue4
 t5 := Tryz.underlying5
 a5 := Tryz.isAgg5
 z5 := Tryz.sizeOf5
 v5 := Tryz.zeroValue5
 t9 := Tryz.underlying9
 a9 := Tryz.isAgg9
 z9 := Tryz.sizeOf9
 v9 := Tryz.zeroValue9
 t22 := Tryz.underlying29
 a22 := Tryz.isAgg29
 z22 := Tryz.sizeOf29
 v22 := Tryz.zeroValue29
 t23 := Tryz.underlying29
 a23 := Tryz.isAgg29
 z23 := Tryz.sizeOf29
 v23 := Tryz.zeroValue29
 t25 := Tryz.underlying3
 a25 := Tryz.isAgg3
 z25 := Tryz.sizeOf3
 v25 := Tryz.zeroValue3
 t32 := Tryz.underlying174
 a32 := Tryz.isAgg174
 z32 := Tryz.sizeOf174
 v32 := Tryz.zeroValue174
 t35 := Tryz.underlying197
 a35 := Tryz.isAgg197
 z35 := Tryz.sizeOf197
 v35 := Tryz.zeroValue197
 t36 := Tryz.underlying198
 a36 := Tryz.isAgg198
 z36 := Tryz.sizeOf198
 v36 := Tryz.zeroValue198
 t41 := Tryz.underlying76
 a41 := Tryz.isAgg76
 z41 := Tryz.sizeOf76
 v41 := Tryz.zeroValue76
 t44 := Tryz.underlying204
 a44 := Tryz.isAgg204
 z44 := Tryz.sizeOf204
 v44 := Tryz.zeroValue204
 t46 := Tryz.underlying206
 a46 := Tryz.isAgg206
 z46 := Tryz.sizeOf206
 v46 := Tryz.zeroValue206
 t53 := Tryz.underlying226
 a53 := Tryz.isAgg226
 z53 := Tryz.sizeOf226
 v53 := Tryz.zeroValue226
 t57 := Tryz.underlying230
 a57 := Tryz.isAgg230
 z57 := Tryz.sizeOf230
 v57 := Tryz.zeroValue230
 t63 := Tryz.underlying237
 a63 := Tryz.isAgg237
 z63 := Tryz.sizeOf237
 v63 := Tryz.zeroValue237
 t64 := Tryz.underlying238
 a64 := Tryz.isAgg238
 z64 := Tryz.sizeOf238
 v64 := Tryz.zeroValue238 }
theorem c_slices_Sort___int_int_ (U : Nat → Value) (e0 : Nat) (l : List Int) (hl : l.length ≤ 1099511627776) : Mu Tryz.prog 137 [.c (.own 0)] [(0, some (.row (some (U 0)) e0 true 1 encI (l)))] 1 [(0, some (.row (some (U 0)) e0 true 1 encI (sortI l)))] 1 (.tup []) := by
 exact sort_mu Tryz.sortL U e0 l (by omega)
theorem c_slices_Compact___int_int_ (U : Nat → Value) (e0 : Nat) (l : List Int) (hl : l.length ≤ 4611686018427387904) : Mu Tryz.prog 138 [.c (.own 0)] [(0, some (.row (some (U 0)) e0 true 1 encI (l)))] 1 [(0, some (.row none e0 true 1 encI (compactI l)))] 1 (.c (.own 0)) := by
 refine mu_enter Tryz.func138 rfl (Nat.le_of_ble_eq_true rfl) fun w S M => ?_
 refine tsr<|rA<|r_end<|t_seq<|tsr ?_
 refine rM ?_
 refine r_op (o_leno rfl rfl rfl rfl) ?_
 refine rB<|r_end ?_
 refine t_cond rfl (fun h1 => ?_) (fun h1 => ?_)
 ·
  have h1' := of_decide_eq_true h1
  refine tsr<|rM ?_
  refine rA<|r_end ?_
  refine gt_unpin 0 rfl ?_
  refine tkM Tryz.func138 (.tmp rfl .nil) ?_ (hL := ⟨eqR ?_, trivial⟩) <;> (try clear ih0) <;> (try clear ih1)
  all_goals first | rfl | ((match l with | [] => rfl | [_] => rfl | _ :: _ :: _ => (exfalso; simp at *; omega)))
 ·
  have h1' := of_decide_eq_false h1
  refine t_skip<|t_seq<|tsr<|rA<|r_end<|t_block ?_
  refine t_loopL (fun m => ⟨[(0, some (.c (.own 0))), (3, some (.c (.t none (.v (.int .i64 ((m : Int)))))))], [(0, some (.row (some (U 0)) e0 true 1 encI (l)))], 1⟩ : Nat → St) (fun m => 1 ≤ m ∧ m ≤ l.length ∧ compactI (l.take m) = l.take m) (fun m => l.length - m) 1 ⟨⟨rfl, ⟨(eqI rfl), trivial⟩⟩, ⟨rfl, trivial⟩, rfl⟩ (by exact ⟨Nat.le_refl _, by omega, by (rcases l with _ | ⟨x, l⟩ <;> simp [compactI])⟩) ?_
  rintro m hI ih0
  try dsimp only at hI ih0
  obtain ⟨i1, i2, i3⟩ := hI
  refine t_seq<|tsr<|rM ?_
  refine rM ?_
  refine r_op (o_leno rfl rfl rfl rfl) ?_
  refine rB<|r_end ?_
  refine t_cond rfl (fun h2 => ?_) (fun h2 => ?_)
  ·
   have h2' := of_decide_eq_true h2
   refine t_skip<|t_seq<|t_block<|t_seq ?_
   refine t_draw (fun _ => true) (by kernel_rfl) ?_
   refine dT 0 rfl pM ?_
   refine dT 1 rfl pM ?_
   obtain ⟨z3, hz4, b5⟩ := at_get (xs := l) (n := (m : Int)) (by omega) (by omega)
   refine dT 2 rfl (p_indexo (by kernel_rfl) rfl rfl rfl b5 (at_lt b5 hz4)) ?_
   refine dT 3 rfl (p_load1o (by kernel_rfl) rfl rfl rfl hz4) ?_
   refine dT 4 rfl pM ?_
   refine dT 5 rfl pM ?_
   refine dT 6 rfl pB ?_
   obtain ⟨z6, hz7, b8⟩ := at_get (xs := l) (n := IntKind.i64.wrap ((m : Int) - 1)) (by (simp only [IntKind.wrap_i64]; omega)) (by (simp only [IntKind.wrap_i64]; omega))
   refine dT 7 rfl (p_indexo (by kernel_rfl) rfl rfl rfl b8 (at_lt b8 hz7)) ?_
   refine dT 8 rfl (p_load1o (by kernel_rfl) rfl rfl rfl hz7) ?_
   refine dT 9 rfl pB ?_
   refine d_end (by kernel_rfl) ?_
   refine t_cond rfl (fun h9 => ?_) (fun h9 => ?_)
   ·
    have h9' := of_decide_eq_true h9
    refine tsr<|rM ?_
    refine rM ?_
    refine r_op (o_subvl rfl (by kernel_rfl) rfl rfl rfl (by omega) (by omega)) ?_
    refine rA<|r_end<|t_seq<|tsr ?_
    refine rA<|r_end<|t_block ?_
    refine t_loopL (fun (j, k, q) => ⟨[(0, some (.c (.own 0))), (3, some (.c (.t none (.v (.int .i64 ((k : Int))))))), (4, some (.c (.vw 0 (((m : Int)).toNat) (((l).length - ((m : Int)).toNat)) 1))), (5, some (.c (.t none (.v (.int .i64 ((j : Int)))))))], [(0, some (.row (some (U 0)) e0 true 1 encI (q)))], 1⟩ : Nat × Nat × List Int → St) (fun (j, k, q) => 1 ≤ j ∧ cmpK l q k (m + j)) (fun (j, k, q) => l.length - j) (1, m, l) ⟨⟨rfl, ⟨rfl, ⟨rfl, ⟨(eqI rfl), trivial⟩⟩⟩⟩, ⟨rfl, trivial⟩, rfl⟩ (by exact ⟨Nat.le_refl _, cmpK_start i3 (by assumption) (by assumption) (by simp only [IntKind.wrap_i64]; omega) i1 (by omega)⟩) ?_
    rintro ⟨j, k, q⟩ hI ih1
    try dsimp only at hI ih1
    obtain ⟨j0, j1⟩ := hI; have j2 := j1.1; have j3 := j1.2.1; have j4 := j1.2.2.1
    refine t_seq<|tsr<|rM ?_
    refine rM ?_
    refine r_op (o_lenv rfl rfl rfl) ?_
    refine rB<|r_end ?_
    refine t_cond rfl (fun h10 => ?_) (fun h10 => ?_)
    ·
     have h10' := of_decide_eq_true h10
     refine t_skip<|t_seq<|t_block<|t_seq ?_
     refine t_draw (fun _ => true) (by kernel_rfl) ?_
     refine dT 0 rfl pM ?_
     refine dT 1 rfl pM ?_
     obtain ⟨z11, hz12⟩ := vw_get (xs := q) (n := (((m : Int)).toNat + ((j : Int)).toNat)) (by omega)
     refine dT 2 rfl (p_indexv (by kernel_rfl) rfl rfl (by omega) (by omega)) ?_
     refine dT 3 rfl (p_load1o (by kernel_rfl) rfl rfl rfl hz12) ?_
     refine dT 4 rfl pM ?_
     refine dT 5 rfl pM ?_
     refine dT 6 rfl pB ?_
     obtain ⟨z14, hz15⟩ := vw_get (xs := q) (n := (((m : Int)).toNat + (IntKind.i64.wrap ((j : Int) - 1)).toNat)) (by (simp only [IntKind.wrap_i64]; omega))
     refine dT 7 rfl (p_indexv (by kernel_rfl) rfl rfl (by (simp only [IntKind.wrap_i64]; omega)) (by (simp only [IntKind.wrap_i64]; omega))) ?_
     refine dT 8 rfl (p_load1o (by kernel_rfl) rfl rfl rfl hz15) ?_
     refine dT 9 rfl pB ?_
     refine d_end (by kernel_rfl) ?_
     refine t_cond rfl (fun h17 => ?_) (fun h17 => ?_)
     ·
      have h17' := of_decide_eq_true h17
      refine tsr<|rM ?_
      refine rM ?_
      refine rM ?_
      refine rM ?_
      refine r_op (o_indexv rfl (by kernel_rfl) rfl rfl (by omega) (by omega)) ?_
      refine r_op (o_load1o rfl (by kernel_rfl) rfl rfl rfl hz12) ?_
      obtain ⟨z18, hz19, b20⟩ := at_get (xs := q) (n := (k : Int)) (by omega) (by omega)
      refine r_op (o_indexo rfl (by kernel_rfl) rfl rfl rfl b20 (at_lt b20 hz19)) ?_
      refine r_op (o_storeo (z11) (n := 1) (by kernel_rfl) rfl rfl hz19 rfl rfl rfl rfl (.cons .sc .nil) rfl (fun j h1 h2 => by (simp at h1 h2; omega))) ?_
      refine rtr<|rM ?_
      refine rB ?_
      refine rA<|r_end<|t_endblock<|t_region ?_
      refine rM ?_
      refine rB ?_
      refine rA<|r_end ?_
      refine t_le ?_ (ih1 (j + 1, k + 1, (q).set ((k : Int)).toNat (z11)) (by (try dsimp only); omega) (by (try dsimp only); exact ⟨by omega, cmpK_more (j := m + j) (n := ((m : Int)).toNat + (IntKind.i64.wrap ((j : Int) - 1)).toNat) j1 (by assumption) (by assumption) (by simp only [IntKind.wrap_i64]; omega) (by omega)⟩))
      exact ⟨⟨rfl, ⟨(eqI (wr64 (by omega) (by omega))), ⟨rfl, ⟨(eqI (wr64 (by omega) (by omega))), trivial⟩⟩⟩⟩, ⟨rfl, trivial⟩, rfl⟩
     ·
      have h17' := of_decide_eq_false h17
      refine t_skip<|t_endblock<|t_region<|rM ?_
      refine rB ?_
      refine rA<|r_end ?_
      refine t_le ?_ (ih1 (j + 1, k, q) (by (try dsimp only); omega) (by (try dsimp only); exact ⟨by omega, cmpK_same (j := m + j) (n := ((m : Int)).toNat + (IntKind.i64.wrap ((j : Int) - 1)).toNat) j1 (by assumption) (by assumption) (by simp only [IntKind.wrap_i64]; omega) (by omega)⟩))
      exact ⟨⟨rfl, ⟨rfl, ⟨rfl, ⟨(eqI (wr64 (by omega) (by omega))), trivial⟩⟩⟩⟩, ⟨rfl, trivial⟩, rfl⟩
    ·
     have h10' := of_decide_eq_false h10
     refine t_exit rfl<|tsr<|rM ?_
     refine rM ?_
     refine r_op (o_subvl rfl (by kernel_rfl) rfl rfl rfl (by omega) (by omega)) ?_
     refine r_op (o_clearv (0) rfl rfl Tryz.underlying29 (by kernel_rfl) rfl (.v rfl) (by omega) (by omega)) ?_
     refine etr<|rM ?_
     refine rM ?_
     refine r_op (o_subvh rfl (by kernel_rfl) rfl rfl rfl (by omega) (by (simp only [List.length_append, List.length_take, List.length_replicate, List.length_drop]; omega)) (by (simp only [List.length_append, List.length_take, List.length_replicate, List.length_drop]; omega))) ?_
     refine rA<|r_end ?_
     refine gt_shrink 2 0 rfl rfl (by (simp only [List.length_append, List.length_take, List.length_replicate, List.length_drop]; omega)) (by (simp only [List.length_append, List.length_take, List.length_replicate, List.length_drop]; omega)) ?_
     refine tkM Tryz.func138 (.tmp rfl .nil) ?_ (hL := ⟨eqR ?_, trivial⟩) <;> (try clear ih0) <;> (try clear ih1)
     all_goals first | rfl | (rw [List.append_assoc]; exact cmpK_fin j1 (by omega))
   ·
    have h9' := of_decide_eq_false h9
    refine t_skip<|t_endblock<|t_region<|rM ?_
    refine rB ?_
    refine rA<|r_end ?_
    refine t_le ?_ (ih0 (m + 1) (by (try dsimp only); omega) (by (try dsimp only); exact ⟨by omega, by omega, cmp_first i3 (by assumption) (by assumption) (by simp only [IntKind.wrap_i64]; omega) i1 (by omega)⟩))
    exact ⟨⟨rfl, ⟨(eqI (wr64 (by omega) (by omega))), trivial⟩⟩, ⟨rfl, trivial⟩, rfl⟩
  ·
   have h2' := of_decide_eq_false h2
   refine t_exit rfl<|tsr<|rM ?_
   refine rA<|r_end ?_
   refine gt_unpin 0 rfl ?_
   refine tkM Tryz.func138 (.tmp rfl .nil) ?_ (hL := ⟨eqR ?_, trivial⟩) <;> (try clear ih0) <;> (try clear ih1)
   all_goals first | rfl | (rw [List.take_of_length_le (by omega)] at i3; exact i3.symm)
theorem c_impl_nullsOf (l : List Int) (hl : l.length ≤ 1048576) (ho : ∀ x ∈ l, okI x) : Pu Tryz.prog 80 [.c (.t none (.sl 1 encI (l)))] [(0, some (.row none 3 true 1 encI (setI (nulV l))))] 1 (.c (.own 0)) := by
 refine pu_enter Tryz.func80 rfl (Nat.le_of_ble_eq_true rfl) fun w S => ?_
 refine tsr<|rA<|etr ?_
 refine r_op (o_lit0 0 (e := 3) (sz := 1) (zs := [.int .i64 (0)]) encI rfl rfl (by kernel_rfl) rfl) ?_
 refine rA<|r_end<|t_seq<|tsr ?_
 refine rM ?_
 refine r_op (o_len rfl rfl rfl) ?_
 refine rM<|r_end<|t_block ?_
 refine t_loopL (fun m => ⟨[(2, some (.c (.t none (.v (.slice none 0 0))))), (3, some (.c (.own 0))), (9, some (.c (.t none (.sl 1 encI (l))))), (10, some (.c (.t none (.v (.int .i64 (((l).length : Int))))))), (11, some (.c (.t none (.v (.int .i64 ((m : Int)))))))], [(0, some (.row none 3 true 1 encI (nulV (l.take m))))], 1⟩ : Nat → St) (fun m => m ≤ l.length) (fun m => l.length - m) 0 ⟨⟨rfl, ⟨rfl, ⟨rfl, ⟨rfl, ⟨rfl, trivial⟩⟩⟩⟩⟩, ⟨rfl, trivial⟩, rfl⟩ (by exact Nat.zero_le _) ?_
 rintro m hI ih0
 try dsimp only at hI ih0
 have i1 := hI; have q2 := nulV_part l m
 refine tsr<|rB<|r_end<|t_seq ?_
 refine t_cond rfl (fun h1 => ?_) (fun h1 => ?_)
 ·
  have h1' := of_decide_eq_true h1
  refine t_skip<|t_seq<|t_block<|tsr ?_
  obtain ⟨z2, hz3, b4⟩ := at_get (xs := l) (n := (m : Int)) (by omega) (by omega)
  refine r_op (o_index rfl (by kernel_rfl) rfl rfl b4 hz3) ?_
  refine r_op (o_load1 rfl (by kernel_rfl) rfl rfl) ?_
  refine rA<|etr ?_
  refine rM ?_
  refine r_op (o_call 1 1 false (en Tryz.func111) (c_impl_NullNumber (z2) (by exact (ho _ (List.mem_of_getElem? (by assumption))).1) (by exact (ho _ (List.mem_of_getElem? (by assumption))).2)) rfl (.cons rfl (.c .t0) .nil) rfl rfl rfl) ?_
  refine rM ?_
  refine r_op (o_extract rfl rfl rfl rfl) ?_
  refine r_op (o_extract rfl rfl rfl rfl) ?_
  refine rA ?_
  refine rA<|etr ?_
  refine rM<|r_end ?_
  refine t_cond rfl (fun h5 => ?_) (fun h5 => ?_)
  ·
   have h5' := of_decide_eq_true h5
   refine t_region<|rM ?_
   refine rM ?_
   refine r_op (o_litS 1 (e := 3) (sz := 1) (zs := [.int .i64 (0)]) rfl rfl (by kernel_rfl) rfl rfl rfl rfl rfl) ?_
   refine r_op (o_append 0 (e := 3) (sz := 1) (by' := 8) (if -40 ≤ (z2) ∧ (z2) ≤ -1 then -1 - (z2) else 0) rfl (by kernel_rfl) rfl rfl rfl rfl rfl rfl (.cons .sc .nil) rfl (by omega) (by omega)) ?_
   refine rA<|r_end<|t_endblock<|t_region ?_
   refine rB ?_
   refine rM<|r_end ?_
   refine t_le ?_ (ih0 (m + 1) (by (try dsimp only); omega) (by (try dsimp only); omega))
   exact ⟨⟨rfl, ⟨rfl, ⟨rfl, ⟨rfl, ⟨(eqI (wr64 (by omega) (by omega))), trivial⟩⟩⟩⟩⟩, ⟨(eqR (by (rw [nulV_more (by assumption) (by assumption)]; done))), trivial⟩, rfl⟩
  ·
   have h5' := of_decide_eq_false h5
   refine t_skip<|t_endblock<|t_region<|rB ?_
   refine rM<|r_end ?_
   refine t_le ?_ (ih0 (m + 1) (by (try dsimp only); omega) (by (try dsimp only); omega))
   exact ⟨⟨rfl, ⟨rfl, ⟨rfl, ⟨rfl, ⟨(eqI (wr64 (by omega) (by omega))), trivial⟩⟩⟩⟩⟩, ⟨(eqR (by (rw [nulV_same (by assumption) (by assumption)]; done))), trivial⟩, rfl⟩
 ·
  have h1' := of_decide_eq_false h1
  refine t_exit rfl<|tsr<|rM ?_
  refine r_op (o_callH [⟨0, none, 3, 1, _, encI, nulV (l.take m), sortI (nulV (l.take m))⟩] (en Tryz.func137) (fun U => c_slices_Sort___int_int_ U 3 (nulV (l.take m)) (by omega)) rfl ⟨rfl, trivial⟩ rfl rfl (.cons rfl (.own rfl) .nil) rfl) ?_
  refine etr<|rM ?_
  refine r_op (o_callC 0 (l' := compactI (sortI (nulV (l.take m)))) (en Tryz.func138) (fun U => c_slices_Compact___int_int_ U 3 (sortI (nulV (l.take m))) (by (rw [sortI_len]; omega))) rfl rfl (.cons rfl (.own rfl) .nil)) ?_
  refine rA<|r_end ?_
  refine tk Tryz.func80 (.tmp rfl .nil) ?_ (hL := ⟨eqR ?_, trivial⟩) <;> (try clear ih0)
  all_goals first | rfl | ((rw [nulV_end (by omega), compact_sort]))
theorem c_impl_NullsOfFact (r : Int) (l : List Int) (hl : l.length ≤ 1048576) (ho : ∀ x ∈ l, okI x) : Pu Tryz.prog 85 [.agg [.t none (.v (.int .i64 (r))), .t none (.sl 1 encI (l))]] [(1, some (.row none 3 true 1 encI (setI (nulV l))))] 2 (.c (.own 1)) := by
 refine pu_enter Tryz.func85 rfl (Nat.le_of_ble_eq_true rfl) fun w S => ?_
 refine tsr ?_
 refine r_op (o_box 0 rfl rfl rfl rfl) ?_
 refine rA<|etr ?_
 refine rF 1 ?_
 refine rL ?_
 refine r_op (o_call 1 2 false (en Tryz.func80) (c_impl_nullsOf (l) (by omega) (by omega)) rfl (.cons rfl (.c .t0) .nil) rfl rfl rfl) ?_
 refine rA<|r_end ?_
 refine tk Tryz.func85 (.tmp rfl .nil) ?_ (hL := ⟨eqR ?_, trivial⟩)
 all_goals (rfl)
theorem c_impl_IsValidInstance (rs : Rels) (l : Atoms) (hrs : rs.length ≤ 4611686018427387904) (hl : szS (fun (x : Int × (List (Int))) => (x.2).length) l ≤ 1048576) (ho : ∀ z ∈ l, ∀ x ∈ z.2, okI x) : Pu Tryz.prog 35 [.agg [.t none (.sl 3 (enS3 encS encI encB) (rs)), .t none (.sl 2 (enS2 encI (enSl 1 encI)) (l))]] [] 0 (.c (.t none (.v (.bool (instOk rs l))))) := by
 refine pu_enter Tryz.func35 rfl (Nat.le_of_ble_eq_true rfl) fun w S => ?_
 have gl := sz_len (f := (fun (x : Int × (List (Int))) => (x.2).length)) (l := l)
 refine tsr ?_
 refine r_op (o_box 0 rfl rfl rfl rfl) ?_
 refine rA<|r_end<|t_seq<|tsr ?_
 refine rF 0 ?_
 refine rL ?_
 refine r_op (o_call 1 1 false (en Tryz.func82) (c_impl_AreValidRelations (rs) (by omega)) rfl (.cons rfl (.c .t0) .nil) rfl rfl rfl) ?_
 refine r_op (o_not rfl rfl) ?_
 refine rM ?_
 refine rG (fun g1 => ?_) (fun g1 => ?_)
 ·
  have g1' := (bnf g1)
  refine rF 1 ?_
  refine rG (fun _ => ?_) (ncf g1)
  refine rL ?_
  refine rG (fun _ => ?_) (ncf g1)
  refine r_op (o_len rfl rfl rfl) ?_
  refine rG (fun _ => ?_) (ncf g1)
  refine rB ?_
  refine r_op (o_pickF rfl rfl g1 rfl) ?_
  refine r_end ?_
  refine t_cond rfl (fun h2 => ?_) (fun h2 => ?_)
  ·
   have h2' := of_decide_eq_true h2
   refine tsr<|rA<|r_end ?_
   refine tk Tryz.func35 (.tmp rfl .nil) ?_ <;> (try clear ih0)
   all_goals (refine scB ?_; (rw [instOk_no (by clear hl gl ho hrs; grind)]; done))
  ·
   have h2' := of_decide_eq_false h2
   refine t_skip<|t_seq<|tsr<|rF 1 ?_
   refine rL ?_
   refine r_op (o_len rfl rfl rfl) ?_
   refine rM<|r_end<|t_block ?_
   refine t_loopL (fun m => ⟨[(1, some (.c (.ptr 0 0))), (16, some (.c (.t none (.sl 2 (enS2 encI (enSl 1 encI)) (l))))), (17, some (.c (.t none (.v (.int .i64 (((l).length : Int))))))), (18, some (.c (.t none (.v (.int .i64 ((m : Int)))))))], [(0, some (.box [.t none (.sl 3 (enS3 encS encI encB) (rs)), .t none (.sl 2 (enS2 encI (enSl 1 encI)) (l))]))], 1⟩ : Nat → St) (fun m => m ≤ l.length ∧ ∀ j, j < m → instStep rs l j = true) (fun m => l.length - m) 0 ⟨⟨rfl, ⟨rfl, ⟨rfl, ⟨rfl, trivial⟩⟩⟩⟩, ⟨rfl, trivial⟩, rfl⟩ (by exact ⟨Nat.zero_le _, fun j h => by omega⟩) ?_
   rintro m hI ih0
   try dsimp only at hI ih0
   obtain ⟨i1, i2⟩ := hI
   refine tsr<|rB<|r_end<|t_seq ?_
   refine t_cond rfl (fun h3 => ?_) (fun h3 => ?_)
   ·
    have h3' := of_decide_eq_true h3
    refine t_skip<|t_seq<|t_block<|tsr<|rM ?_
    obtain ⟨z4, hz5, b6⟩ := at_get (xs := l) (n := (m : Int)) (by omega) (by omega)
    refine r_op (o_index rfl (by kernel_rfl) rfl rfl b6 hz5) ?_
    refine r_op (o_loadA rfl (n := 2) (by kernel_rfl) (by kernel_rfl) rfl rfl) ?_
    refine r_op (o_alloc 1 (zs := [.int .i64 (0), .slice none 0 0]) rfl rfl (by kernel_rfl) rfl) ?_
    refine rA ?_
    refine rS 2<|r_end<|t_seq<|t_seq ?_
    refine t_draw (fun _ => true) (by kernel_rfl) ?_
    refine dT 0 rfl (pF 0) ?_
    refine dT 1 rfl pL ?_
    refine dT 2 rfl (pC 2) ?_
    refine dO 3 rfl (o_call 2 2 false (en Tryz.func83) (c_impl_IsValidFact (rs) (z4.1) (z4.2) (by omega) (by (have e1 := sz_at (f := (fun (x : Int × (List (Int))) => (x.2).length)) (l := l) (m := m) (by assumption); (try dsimp only at e1); omega)) (by exact ho _ (List.mem_of_getElem? (by assumption)))) rfl (.cons rfl (.c .t0) (.cons rfl (.agg (.cons .t0 (.cons .t0 .nil))) .nil)) rfl rfl rfl) ?_
    refine dT 4 rfl (p_not rfl) ?_
    refine dT 5 rfl pM ?_
    refine dH 6 rfl (fun _ => pM) (fun g7 => ?_) (fun g7 => ?_)
    ·
     have g7' := (bnf g7)
     refine dH 7 rfl (fun _ => pB) (fun _ => ?_) (ncf g7)
     refine dH 8 rfl (fun _ => pM) (fun _ => ?_) (ncf g7)
     refine dH 9 rfl (fun _ => pF 1) (fun g8 => ?_) (fun g8 => ?_)
     ·
      have g8' := of_decide_eq_true g8
      refine dH 10 rfl (fun _ => pL) (fun _ => ?_) (nc g8)
      refine dH 11 rfl (fun _ => pM) (fun _ => ?_) (nc g8)
      refine dH 12 rfl (fun _ => pB) (fun _ => ?_) (nc g8)
      obtain ⟨z9, hz10, b11⟩ := at_get (xs := l) (n := IntKind.i64.wrap ((m : Int) - 1)) (by (simp only [IntKind.wrap_i64] at *; omega)) (by (simp only [IntKind.wrap_i64] at *; omega))
      refine dH 13 rfl (fun _ => p_index (by kernel_rfl) rfl rfl b11 hz10) (fun _ => ?_) (nc g8)
      refine dH 14 rfl (fun _ => p_loadA (n := 2) (by kernel_rfl) (by kernel_rfl) rfl rfl) (fun _ => ?_) (nc g8)
      refine dH 15 rfl (fun _ => pC 2) (fun _ => ?_) (nc g8)
      refine d_onlyG 16 rfl rfl (by kernel_rfl) rfl rfl rfl (fun _ => (o_call 2 2 false (en Tryz.func84) (c_impl_CompareFacts (z9.1) (z9.2) (z4.1) (z4.2) (by (have e1 := sz_at (f := (fun (x : Int × (List (Int))) => (x.2).length)) (l := l) (m := (IntKind.i64.wrap ((m : Int) - 1)).toNat) (by assumption); (try dsimp only at e1); omega)) (by (have e1 := sz_at (f := (fun (x : Int × (List (Int))) => (x.2).length)) (l := l) (m := m) (by assumption); (try dsimp only at e1); omega))) rfl (.cons rfl (.agg (.cons .t0 (.cons .t0 .nil))) (.cons rfl (.agg (.cons .t0 (.cons .t0 .nil))) .nil)) rfl rfl rfl)) (fun _ => ?_) (nc g8)
      refine dH 17 rfl (fun _ => pB) (fun _ => ?_) (nc g8)
      refine dH 18 rfl (fun _ => p_pickT rfl g8 rfl) (fun _ => ?_) (ncf g7)
      refine dT 19 rfl (p_pickF rfl g7 rfl) ?_
      refine d_end (by kernel_rfl) ?_
      refine t_cond rfl (fun h12 => ?_) (fun h12 => ?_)
      ·
       have h12' := of_decide_eq_true h12
       refine tsr<|rA<|r_end ?_
       refine tk Tryz.func35 (.tmp rfl .nil) ?_ <;> (try clear ih0)
       all_goals (refine scB ?_; (rw [instOk_not (rs := rs) (l := l) (m := m) (by omega) (by (try (have qb := instStep_bad (rs := rs) (l := l) (m := m) hz5 (by assumption))); (try (have qz := instStep_zero (rs := rs) (l := l) (m := m) hz5 (by omega))); (try (have qp := instStep_pos (rs := rs) (l := l) (m := m) hz5 (by omega) hz10 (by simp only [IntKind.wrap_i64]; omega))); (try (have qS := srcA_at (rs := rs) (r := z4.1) (ts := z4.2) hz10)); (try (have qT := srcA_at (rs := rs) (r := z4.1) (ts := z4.2) (by assumption))); clear hl gl ho hrs; grind)]; done))
      ·
       have h12' := of_decide_eq_false h12
       refine t_skip<|tsr<|rF 0 ?_
       refine rL ?_
       refine rF 0 ?_
       refine rL ?_
       obtain ⟨z13, hz14, b15⟩ := at_get (xs := rs) (n := z4.1) (by exact (fact_idx (by assumption)).1) (by exact (fact_idx (by assumption)).2)
       refine r_op (o_index rfl (by kernel_rfl) rfl rfl b15 hz14) ?_
       refine r_op (o_field rfl (off := 2) (by kernel_rfl) rfl) ?_
       refine r_op (o_load1 rfl (by kernel_rfl) rfl rfl) ?_
       refine rM ?_
       refine rG (fun g16 => ?_) (fun g16 => ?_)
       ·
        have g16' := g16
        refine rC 2 ?_
        refine rG (fun _ => ?_) (nc g16)
        refine r_op (o_call 2 4 false (en Tryz.func85) (c_impl_NullsOfFact (z4.1) (z4.2) (by (have e1 := sz_at (f := (fun (x : Int × (List (Int))) => (x.2).length)) (l := l) (m := m) (by assumption); (try dsimp only at e1); omega)) (by exact ho _ (List.mem_of_getElem? (by assumption)))) rfl (.cons rfl (.agg (.cons .t0 (.cons .t0 .nil))) .nil) rfl rfl rfl) ?_
        refine rG (fun _ => ?_) (nc g16)
        refine r_op (o_leno rfl rfl rfl rfl) ?_
        refine rG (fun _ => ?_) (nc g16)
        refine rB ?_
        refine r_op (o_pickT rfl rfl g16 rfl) ?_
        refine r_end ?_
        refine t_cond rfl (fun h17 => ?_) (fun h17 => ?_)
        ·
         have h17' := of_decide_eq_true h17
         refine tsr<|rA<|r_end ?_
         refine tk Tryz.func35 (.tmp rfl .nil) ?_ <;> (try clear ih0)
         all_goals (refine scB ?_; (rw [instOk_not (rs := rs) (l := l) (m := m) (by omega) (by (try (have qb := instStep_bad (rs := rs) (l := l) (m := m) hz5 (by assumption))); (try (have qz := instStep_zero (rs := rs) (l := l) (m := m) hz5 (by omega))); (try (have qp := instStep_pos (rs := rs) (l := l) (m := m) hz5 (by omega) hz10 (by simp only [IntKind.wrap_i64]; omega))); (try (have qS := srcA_at (rs := rs) (r := z4.1) (ts := z4.2) hz10)); (try (have qT := srcA_at (rs := rs) (r := z4.1) (ts := z4.2) hz14)); clear hl gl ho hrs; grind)]; done))
        ·
         have h17' := of_decide_eq_false h17
         refine t_skip<|t_endblock<|t_region<|rB ?_
         refine rM<|r_end ?_
         refine t_le ?_ (ih0 (m + 1) (by (try dsimp only); omega) (by (try dsimp only); exact ⟨by omega, step_all i2 (by (try (have qb := instStep_bad (rs := rs) (l := l) (m := m) hz5 (by assumption))); (try (have qz := instStep_zero (rs := rs) (l := l) (m := m) hz5 (by omega))); (try (have qp := instStep_pos (rs := rs) (l := l) (m := m) hz5 (by omega) hz10 (by simp only [IntKind.wrap_i64]; omega))); (try (have qS := srcA_at (rs := rs) (r := z4.1) (ts := z4.2) hz10)); (try (have qT := srcA_at (rs := rs) (r := z4.1) (ts := z4.2) hz14)); clear hl gl ho hrs; grind)⟩))
         exact ⟨⟨rfl, ⟨rfl, ⟨rfl, ⟨(eqI (wr64 (by omega) (by omega))), trivial⟩⟩⟩⟩, ⟨rfl, trivial⟩, rfl⟩
       ·
        have g16' := g16
        refine rG (ncf g16) (fun _ => ?_)
        refine rG (ncf g16) (fun _ => ?_)
        refine rG (ncf g16) (fun _ => ?_)
        refine r_op (o_pickF rfl rfl g16 rfl) ?_
        refine r_end ?_
        refine t_cond rfl (ncf rfl) (fun _ => ?_)
        refine t_skip<|t_endblock<|t_region<|rB ?_
        refine rM<|r_end ?_
        refine t_le ?_ (ih0 (m + 1) (by (try dsimp only); omega) (by (try dsimp only); exact ⟨by omega, step_all i2 (by (try (have qb := instStep_bad (rs := rs) (l := l) (m := m) hz5 (by assumption))); (try (have qz := instStep_zero (rs := rs) (l := l) (m := m) hz5 (by omega))); (try (have qp := instStep_pos (rs := rs) (l := l) (m := m) hz5 (by omega) hz10 (by simp only [IntKind.wrap_i64]; omega))); (try (have qS := srcA_at (rs := rs) (r := z4.1) (ts := z4.2) hz10)); (try (have qT := srcA_at (rs := rs) (r := z4.1) (ts := z4.2) hz14)); clear hl gl ho hrs; grind)⟩))
        exact ⟨⟨rfl, ⟨rfl, ⟨rfl, ⟨(eqI (wr64 (by omega) (by omega))), trivial⟩⟩⟩⟩, ⟨rfl, trivial⟩, rfl⟩
     ·
      have g8' := of_decide_eq_false g8
      refine dG 10 (ncf g8) (fun _ => ?_)
      refine dG 11 (ncf g8) (fun _ => ?_)
      refine dG 12 (ncf g8) (fun _ => ?_)
      refine dG 13 (ncf g8) (fun _ => ?_)
      refine dG 14 (ncf g8) (fun _ => ?_)
      refine dG 15 (ncf g8) (fun _ => ?_)
      refine dG 16 (ncf g8) (fun _ => ?_)
      refine dG 17 (ncf g8) (fun _ => ?_)
      refine dH 18 rfl (fun _ => p_pickF rfl g8 rfl) (fun _ => ?_) (ncf g7)
      refine dT 19 rfl (p_pickF rfl g7 rfl) ?_
      refine d_end (by kernel_rfl) ?_
      refine t_cond rfl (ncf rfl) (fun _ => ?_)
      refine t_skip<|tsr<|rF 0 ?_
      refine rL ?_
      refine rF 0 ?_
      refine rL ?_
      obtain ⟨z18, hz19, b20⟩ := at_get (xs := rs) (n := z4.1) (by exact (fact_idx (by assumption)).1) (by exact (fact_idx (by assumption)).2)
      refine r_op (o_index rfl (by kernel_rfl) rfl rfl b20 hz19) ?_
      refine r_op (o_field rfl (off := 2) (by kernel_rfl) rfl) ?_
      refine r_op (o_load1 rfl (by kernel_rfl) rfl rfl) ?_
      refine rM ?_
      refine rG (fun g21 => ?_) (fun g21 => ?_)
      ·
       have g21' := g21
       refine rC 2 ?_
       refine rG (fun _ => ?_) (nc g21)
       refine r_op (o_call 2 4 false (en Tryz.func85) (c_impl_NullsOfFact (z4.1) (z4.2) (by (have e1 := sz_at (f := (fun (x : Int × (List (Int))) => (x.2).length)) (l := l) (m := m) (by assumption); (try dsimp only at e1); omega)) (by exact ho _ (List.mem_of_getElem? (by assumption)))) rfl (.cons rfl (.agg (.cons .t0 (.cons .t0 .nil))) .nil) rfl rfl rfl) ?_
       refine rG (fun _ => ?_) (nc g21)
       refine r_op (o_leno rfl rfl rfl rfl) ?_
       refine rG (fun _ => ?_) (nc g21)
       refine rB ?_
       refine r_op (o_pickT rfl rfl g21 rfl) ?_
       refine r_end ?_
       refine t_cond rfl (fun h22 => ?_) (fun h22 => ?_)
       ·
        have h22' := of_decide_eq_true h22
        refine tsr<|rA<|r_end ?_
        refine tk Tryz.func35 (.tmp rfl .nil) ?_ <;> (try clear ih0)
        all_goals (refine scB ?_; (rw [instOk_not (rs := rs) (l := l) (m := m) (by omega) (by (try (have qb := instStep_bad (rs := rs) (l := l) (m := m) hz5 (by assumption))); (try (have qz := instStep_zero (rs := rs) (l := l) (m := m) hz5 (by omega))); (try (have qp := instStep_pos (rs := rs) (l := l) (m := m) hz5 (by omega) hz19 (by simp only [IntKind.wrap_i64]; omega))); (try (have qS := srcA_at (rs := rs) (r := z4.1) (ts := z4.2) hz19)); (try (have qT := srcA_at (rs := rs) (r := z4.1) (ts := z4.2) (by assumption))); clear hl gl ho hrs; grind)]; done))
       ·
        have h22' := of_decide_eq_false h22
        refine t_skip<|t_endblock<|t_region<|rB ?_
        refine rM<|r_end ?_
        refine t_le ?_ (ih0 (m + 1) (by (try dsimp only); omega) (by (try dsimp only); exact ⟨by omega, step_all i2 (by (try (have qb := instStep_bad (rs := rs) (l := l) (m := m) hz5 (by assumption))); (try (have qz := instStep_zero (rs := rs) (l := l) (m := m) hz5 (by omega))); (try (have qp := instStep_pos (rs := rs) (l := l) (m := m) hz5 (by omega) hz19 (by simp only [IntKind.wrap_i64]; omega))); (try (have qS := srcA_at (rs := rs) (r := z4.1) (ts := z4.2) hz19)); (try (have qT := srcA_at (rs := rs) (r := z4.1) (ts := z4.2) (by assumption))); clear hl gl ho hrs; grind)⟩))
        exact ⟨⟨rfl, ⟨rfl, ⟨rfl, ⟨(eqI (wr64 (by omega) (by omega))), trivial⟩⟩⟩⟩, ⟨rfl, trivial⟩, rfl⟩
      ·
       have g21' := g21
       refine rG (ncf g21) (fun _ => ?_)
       refine rG (ncf g21) (fun _ => ?_)
       refine rG (ncf g21) (fun _ => ?_)
       refine r_op (o_pickF rfl rfl g21 rfl) ?_
       refine r_end ?_
       refine t_cond rfl (ncf rfl) (fun _ => ?_)
       refine t_skip<|t_endblock<|t_region<|rB ?_
       refine rM<|r_end ?_
       refine t_le ?_ (ih0 (m + 1) (by (try dsimp only); omega) (by (try dsimp only); exact ⟨by omega, step_all i2 (by (try (have qb := instStep_bad (rs := rs) (l := l) (m := m) hz5 (by assumption))); (try (have qz := instStep_zero (rs := rs) (l := l) (m := m) hz5 (by omega))); (try (have qp := instStep_pos (rs := rs) (l := l) (m := m) hz5 (by omega) hz19 (by simp only [IntKind.wrap_i64]; omega))); (try (have qS := srcA_at (rs := rs) (r := z4.1) (ts := z4.2) hz19)); (try (have qT := srcA_at (rs := rs) (r := z4.1) (ts := z4.2) (by assumption))); clear hl gl ho hrs; grind)⟩))
       exact ⟨⟨rfl, ⟨rfl, ⟨rfl, ⟨(eqI (wr64 (by omega) (by omega))), trivial⟩⟩⟩⟩, ⟨rfl, trivial⟩, rfl⟩
    ·
     have g7' := (bnt g7)
     refine dG 7 (nc g7) (fun _ => ?_)
     refine dG 8 (nc g7) (fun _ => ?_)
     refine dK 9 ?_
     refine dK 10 ?_
     refine dK 11 ?_
     refine dK 12 ?_
     refine dK 13 ?_
     refine dK 14 ?_
     refine dK 15 ?_
     refine dK 16 ?_
     refine dK 17 ?_
     refine dG 18 (nc g7) (fun _ => ?_)
     refine dT 19 rfl (p_pickT rfl g7 rfl) ?_
     refine d_end (by kernel_rfl) ?_
     refine t_cond rfl (fun _ => ?_) (nc rfl)
     refine tsr<|rA<|r_end ?_
     refine tk Tryz.func35 (.tmp rfl .nil) ?_ <;> (try clear ih0)
     all_goals (refine scB ?_; (rw [instOk_not (rs := rs) (l := l) (m := m) (by omega) (by (try (have qb := instStep_bad (rs := rs) (l := l) (m := m) hz5 (by assumption))); (try (have qz := instStep_zero (rs := rs) (l := l) (m := m) hz5 (by omega))); (try (have qp := instStep_pos (rs := rs) (l := l) (m := m) hz5 (by omega) (by assumption) (by simp only [IntKind.wrap_i64]; omega))); (try (have qS := srcA_at (rs := rs) (r := z4.1) (ts := z4.2) (by assumption))); (try (have qT := srcA_at (rs := rs) (r := z4.1) (ts := z4.2) (by assumption))); clear hl gl ho hrs; grind)]; done))
   ·
    have h3' := of_decide_eq_false h3
    refine t_exit rfl<|tsr<|rA<|r_end ?_
    refine tk Tryz.func35 (.tmp rfl .nil) ?_ <;> (try clear ih0)
    all_goals (refine scB ?_; (rw [instOk_end (m := m) i2 (by omega)]; clear hl gl ho hrs; grind))
 ·
  have g1' := (bnt g1)
  refine rG (nc g1) (fun _ => ?_)
  refine rG (nc g1) (fun _ => ?_)
  refine rG (nc g1) (fun _ => ?_)
  refine r_op (o_pickT rfl rfl g1 rfl) ?_
  refine r_end ?_
  refine t_cond rfl (fun _ => ?_) (nc rfl)
  refine tsr<|rA<|r_end ?_
  refine tk Tryz.func35 (.tmp rfl .nil) ?_ <;> (try clear ih0)
  all_goals (refine scB ?_; (rw [instOk_no (by clear hl gl ho hrs; grind)]; done))
theorem c_impl_IsValidAtom_1 (t : Int) : Pu Tryz.prog 238 [.c (.t none (.v (.int .i64 (t))))] [] 0 (.c (.t none (.v (.bool (!(termOk t)))))) := by
 refine pu_enter Tryz.func238 rfl (Nat.le_of_ble_eq_true rfl) fun w S => ?_
 refine tsr<|rA<|etr ?_
 refine rM ?_
 refine r_op (o_call 0 0 false (en Tryz.func141) (c_impl_within (t) (-10) (4)) rfl (.cons rfl (.c .t0) (.cons rfl (.c .t0) (.cons rfl (.c .t0) .nil))) rfl rfl rfl) ?_
 refine r_op (o_not rfl rfl) ?_
 refine rA<|r_end ?_
 refine tk Tryz.func238 (.tmp rfl .nil) ?_
 all_goals (rfl)
theorem c_impl_IsValidAtom (rs : List (List UInt8 × Int × Bool)) (r : Int) (ts : List Int) (hrs : rs.length ≤ 4611686018427387904) (hts : ts.length ≤ 4611686018427387904) : Pu Tryz.prog 220 [.c (.t none (.sl 3 (enS3 encS encI encB) (rs))), .agg [.t none (.v (.int .i64 (r))), .t none (.sl 1 encI (ts))]] [] 0 (.c (.t none (.v (.bool (atomOk rs r ts))))) := by
 refine pu_enter Tryz.func220 rfl (Nat.le_of_ble_eq_true rfl) fun w S => ?_
 refine tsr ?_
 refine r_op (o_box 0 rfl rfl rfl rfl) ?_
 refine rA<|r_end<|t_seq<|t_seq ?_
 refine t_draw (fun _ => true) (by kernel_rfl) ?_
 refine dT 0 rfl pM ?_
 refine dO 1 rfl (o_call 1 1 false (en Tryz.func82) (c_impl_AreValidRelations (rs) (by omega)) rfl (.cons rfl (.c .t0) .nil) rfl rfl rfl) ?_
 refine dT 2 rfl (p_not rfl) ?_
 refine dT 3 rfl pM ?_
 refine dH 4 rfl (fun _ => pF 0) (fun g1 => ?_) (fun g1 => ?_)
 ·
  have g1' := (bnf g1)
  refine dH 5 rfl (fun _ => pL) (fun _ => ?_) (ncf g1)
  refine dH 6 rfl (fun _ => pM) (fun _ => ?_) (ncf g1)
  refine dH 7 rfl (fun _ => p_len rfl rfl) (fun _ => ?_) (ncf g1)
  refine dH 8 rfl (fun _ => pB) (fun _ => ?_) (ncf g1)
  refine d_onlyG 9 rfl rfl (by kernel_rfl) rfl rfl rfl (fun _ => (o_call 1 1 false (en Tryz.func141) (c_impl_within (r) (0) (IntKind.i64.wrap (((rs).length : Int) - 1))) rfl (.cons rfl (.c .t0) (.cons rfl (.c .t0) (.cons rfl (.c .t0) .nil))) rfl rfl rfl)) (fun _ => ?_) (ncf g1)
  refine dH 10 rfl (fun _ => p_not rfl) (fun _ => ?_) (ncf g1)
  refine dT 11 rfl (p_pickF rfl g1 rfl) ?_
  refine dT 12 rfl pM ?_
  refine dH 13 rfl (fun _ => pF 1) (fun g2 => ?_) (fun g2 => ?_)
  ·
   have g2' := of_decide_eq_true (bnf g2)
   refine dH 14 rfl (fun _ => pL) (fun _ => ?_) (ncf g2)
   refine dH 15 rfl (fun _ => p_len rfl rfl) (fun _ => ?_) (ncf g2)
   refine dH 16 rfl (fun _ => pM) (fun _ => ?_) (ncf g2)
   refine dH 17 rfl (fun _ => pF 0) (fun _ => ?_) (ncf g2)
   refine dH 18 rfl (fun _ => pL) (fun _ => ?_) (ncf g2)
   obtain ⟨z3, hz4, b5⟩ := at_get (xs := rs) (n := r) (by omega) (by (simp only [IntKind.wrap_i64] at *; omega))
   refine dH 19 rfl (fun _ => p_index (by kernel_rfl) rfl rfl b5 hz4) (fun _ => ?_) (ncf g2)
   refine dH 20 rfl (fun _ => p_field (off := 1) (by kernel_rfl) rfl) (fun _ => ?_) (ncf g2)
   refine dH 21 rfl (fun _ => p_load1 (by kernel_rfl) rfl rfl) (fun _ => ?_) (ncf g2)
   refine dH 22 rfl (fun _ => pB) (fun _ => ?_) (ncf g2)
   refine dT 23 rfl (p_pickF rfl g2 rfl) ?_
   refine d_end (by kernel_rfl) ?_
   refine t_cond rfl (fun h6 => ?_) (fun h6 => ?_)
   ·
    have h6' := of_decide_eq_true h6
    refine tsr<|rA<|r_end ?_
    refine tk Tryz.func220 (.tmp rfl .nil) ?_
    all_goals (refine scB ?_; (rw [atom_no3 (by assumption) (by assumption)]; done))
   ·
    have h6' := of_decide_eq_false h6
    refine t_skip<|tsr<|rF 1 ?_
    refine rL ?_
    refine r_op (o_call 1 1 false (en Tryz.func142) (c_slices_ContainsFunc___int_int_ (ts) (238) ([]) (fun (x0 : Int) => !(termOk (x0))) (by omega) (fun x0 mx0 => ⟨en Tryz.func238, c_impl_IsValidAtom_1 (x0)⟩)) rfl (.cons rfl (.c .t0) (.cons rfl (.c (.clo .nil)) .nil)) rfl rfl rfl) ?_
    refine r_op (o_not rfl rfl) ?_
    refine rA<|r_end ?_
    refine tk Tryz.func220 (.tmp rfl .nil) ?_
    all_goals (refine scB ?_; (rw [atom_yes (by assumption) (by simp only [IntKind.wrap_i64] at *; omega) (by assumption) (by omega)]; done))
  ·
   have g2' := of_decide_eq_false (bnt g2)
   refine dG 14 (nc g2) (fun _ => ?_)
   refine dG 15 (nc g2) (fun _ => ?_)
   refine dG 16 (nc g2) (fun _ => ?_)
   refine dG 17 (nc g2) (fun _ => ?_)
   refine dG 18 (nc g2) (fun _ => ?_)
   refine dG 19 (nc g2) (fun _ => ?_)
   refine dG 20 (nc g2) (fun _ => ?_)
   refine dG 21 (nc g2) (fun _ => ?_)
   refine dG 22 (nc g2) (fun _ => ?_)
   refine dT 23 rfl (p_pickT rfl g2 rfl) ?_
   refine d_end (by kernel_rfl) ?_
   refine t_cond rfl (fun _ => ?_) (nc rfl)
   refine tsr<|rA<|r_end ?_
   refine tk Tryz.func220 (.tmp rfl .nil) ?_
   all_goals (refine scB ?_; (rw [atom_no2 (by simp only [IntKind.wrap_i64] at *; omega)]; done))
 ·
  have g1' := (bnt g1)
  refine dG 5 (nc g1) (fun _ => ?_)
  refine dG 6 (nc g1) (fun _ => ?_)
  refine dG 7 (nc g1) (fun _ => ?_)
  refine dG 8 (nc g1) (fun _ => ?_)
  refine dG 9 (nc g1) (fun _ => ?_)
  refine dG 10 (nc g1) (fun _ => ?_)
  refine dT 11 rfl (p_pickT rfl g1 rfl) ?_
  refine dT 12 rfl pM ?_
  refine dG 13 (nc rfl) (fun _ => ?_)
  refine dG 14 (nc rfl) (fun _ => ?_)
  refine dG 15 (nc rfl) (fun _ => ?_)
  refine dG 16 (nc rfl) (fun _ => ?_)
  refine dG 17 (nc rfl) (fun _ => ?_)
  refine dG 18 (nc rfl) (fun _ => ?_)
  refine dG 19 (nc rfl) (fun _ => ?_)
  refine dG 20 (nc rfl) (fun _ => ?_)
  refine dG 21 (nc rfl) (fun _ => ?_)
  refine dG 22 (nc rfl) (fun _ => ?_)
  refine dT 23 rfl (p_pickT rfl rfl rfl) ?_
  refine d_end (by kernel_rfl) ?_
  refine t_cond rfl (fun _ => ?_) (nc rfl)
  refine tsr<|rA<|r_end ?_
  refine tk Tryz.func220 (.tmp rfl .nil) ?_
  all_goals (refine scB ?_; (rw [atom_no1 (by assumption)]; done))
theorem c_impl_areAtoms_1 (r : Int) (ts : List Int) (rs : Rels) (hrs : rs.length ≤ 4611686018427387904) (hts : ts.length ≤ 4611686018427387904) : Pu Tryz.prog 219 [.agg [.t none (.v (.int .i64 (r))), .t none (.sl 1 encI (ts))], .c (.pel none ((enSl 3 (enS3 encS encI encB)) (rs)) 1)] [] 0 (.c (.t none (.v (.bool (badA rs (r, ts)))))) := by
 refine pu_enter Tryz.func219 rfl (Nat.le_of_ble_eq_true rfl) fun w S => ?_
 refine tsr ?_
 refine r_op (o_box 0 rfl rfl rfl rfl) ?_
 refine rA<|etr ?_
 refine r_op (o_load1 rfl (by kernel_rfl) rfl rfl) ?_
 refine rC 2 ?_
 refine r_op (o_call 1 1 false (en Tryz.func220) (c_impl_IsValidAtom (rs) (r) (ts) (by omega) (by omega)) rfl (.cons rfl (.c .t0) (.cons rfl (.agg (.cons .t0 (.cons .t0 .nil))) .nil)) rfl rfl rfl) ?_
 refine r_op (o_not rfl rfl) ?_
 refine rA<|r_end ?_
 refine tk Tryz.func219 (.tmp rfl .nil) ?_
 all_goals (rfl)
theorem c_slices_IndexFunc___impl_Atom_impl_Atom_ (l : List (Int × (List (Int)))) (f : Nat) (cs : List ((Nat → T) × Nat)) (p : Int × (List (Int)) → Bool) (hl : l.length ≤ 9223372036854775807) (hf : ∀ x ∈ l, Fu Tryz.prog f ([.agg [.t none (.v (.int .i64 (x.1))), .t none (.sl 1 encI (x.2))]] ++ pels cs) (.c (.t none (.v (.bool (p x)))))) : Pu Tryz.prog 221 [.c (.t none (.sl 2 (enS2 encI (enSl 1 encI)) (l))), .c (.fv f cs)] [] 0 (.c (.t none (.v (.int .i64 (idxI p l))))) := by
 refine pu_enter Tryz.func221 rfl (Nat.le_of_ble_eq_true rfl) fun w S => ?_
 refine tsr<|rA<|r_end<|t_seq<|tsr ?_
 refine rM ?_
 refine r_op (o_len rfl rfl rfl) ?_
 refine rM<|r_end<|t_block ?_
 refine t_loopL (fun m => ⟨[(0, some (.c (.t none (.sl 2 (enS2 encI (enSl 1 encI)) (l))))), (1, some (.c (.fv f cs))), (7, some (.c (.t none (.v (.int .i64 (((l).length : Int))))))), (8, some (.c (.t none (.v (.int .i64 ((m : Int)))))))], [], 0⟩ : Nat → St) (fun m => m ≤ l.length ∧ ∀ j z, j < m → l[j]? = some z → p z = false) (fun m => l.length - m) 0 ⟨⟨rfl, ⟨rfl, ⟨rfl, ⟨rfl, trivial⟩⟩⟩⟩, trivial, rfl⟩ (by exact ⟨Nat.zero_le _, fun j z h => by omega⟩) ?_
 rintro m hI ih0
 try dsimp only at hI ih0
 obtain ⟨i1, i2⟩ := hI
 refine tsr<|rB<|r_end<|t_seq ?_
 refine t_cond rfl (fun h1 => ?_) (fun h1 => ?_)
 ·
  have h1' := of_decide_eq_true h1
  refine t_skip<|t_seq<|t_block<|tsr<|rM ?_
  refine rA<|etr ?_
  refine rM ?_
  refine rM ?_
  refine rM ?_
  obtain ⟨z2, hz3, b4⟩ := at_get (xs := l) (n := (m : Int)) (by omega) (by omega)
  refine r_op (o_index rfl (by kernel_rfl) rfl rfl b4 hz3) ?_
  refine r_op (o_loadA rfl (n := 2) (by kernel_rfl) (by kernel_rfl) rfl rfl) ?_
  refine r_op (o_callv 0 0 false (hf z2 (List.mem_of_getElem? (by assumption))).1 (hf z2 (List.mem_of_getElem? (by assumption))).2 rfl rfl (.c .fv) (.cons rfl (.agg (.cons .t0 (.cons .t0 .nil))) .nil) rfl rfl rfl) ?_
  refine r_end ?_
  refine t_cond rfl (fun h5 => ?_) (fun h5 => ?_)
  ·
   have h5' := h5
   refine tsr<|rM ?_
   refine rA<|r_end ?_
   refine tk Tryz.func221 (.tmp rfl .nil) ?_ <;> (try clear ih0)
   all_goals (rw [idx_hit i2 (by assumption) (by assumption)])
  ·
   have h5' := h5
   refine t_skip<|t_endblock<|t_region<|rB ?_
   refine rM<|r_end ?_
   refine t_le ?_ (ih0 (m + 1) (by (try dsimp only); omega) (by (try dsimp only); exact ⟨by omega, no_step i2 (by assumption) rfl (by assumption)⟩))
   exact ⟨⟨rfl, ⟨rfl, ⟨rfl, ⟨(eqI (wr64 (by omega) (by omega))), trivial⟩⟩⟩⟩, trivial, rfl⟩
 ·
  have h1' := of_decide_eq_false h1
  refine t_exit rfl<|tsr<|rA<|r_end ?_
  refine tk Tryz.func221 (.tmp rfl .nil) ?_ <;> (try clear ih0)
  all_goals (rw [idx_none i2 (by omega)])
theorem c_slices_ContainsFunc___impl_Atom_impl_Atom_ (l : List (Int × (List (Int)))) (f : Nat) (cs : List ((Nat → T) × Nat)) (p : Int × (List (Int)) → Bool) (hl : l.length ≤ 9223372036854775807) (hf : ∀ x ∈ l, Fu Tryz.prog f ([.agg [.t none (.v (.int .i64 (x.1))), .t none (.sl 1 encI (x.2))]] ++ pels cs) (.c (.t none (.v (.bool (p x)))))) : Pu Tryz.prog 184 [.c (.t none (.sl 2 (enS2 encI (enSl 1 encI)) (l))), .c (.fv f cs)] [] 0 (.c (.t none (.v (.bool (l.any p))))) := by
 refine pu_enter Tryz.func184 rfl (Nat.le_of_ble_eq_true rfl) fun w S => ?_
 refine tsr<|rA<|etr ?_
 refine rM ?_
 refine rM ?_
 refine r_op (o_call 0 0 false (en Tryz.func221) (c_slices_IndexFunc___impl_Atom_impl_Atom_ (l) (f) (cs) (p) (by omega) (hf)) rfl (.cons rfl (.c .t0) (.cons rfl (.c .fv) .nil)) rfl rfl rfl) ?_
 refine rB ?_
 refine rA<|r_end ?_
 refine tk Tryz.func184 (.tmp rfl .nil) ?_
 all_goals (exact scB idx_any)
theorem c_impl_areAtoms (rs : Rels) (l : Atoms) (k : Int) (hrs : rs.length ≤ 4611686018427387904) (hs : szS (fun (x : Int × (List (Int))) => (x.2).length) l ≤ 1048576) : Pu Tryz.prog 183 [.c (.t none (.sl 3 (enS3 encS encI encB) (rs))), .c (.t none (.sl 2 (enS2 encI (enSl 1 encI)) (l))), .c (.t none (.v (.int .i64 (k))))] [] 0 (.c (.t none (.v (.bool (atomsOk rs l k))))) := by
 refine pu_enter Tryz.func183 rfl (Nat.le_of_ble_eq_true rfl) fun w S => ?_
 have gl := sz_len (f := (fun (x : Int × (List (Int))) => (x.2).length)) (l := l)
 refine tsr ?_
 refine r_op (o_box 0 rfl rfl rfl rfl) ?_
 refine rA<|etr ?_
 refine rM ?_
 refine r_op (o_len rfl rfl rfl) ?_
 refine rM ?_
 refine r_op (o_call 1 1 false (en Tryz.func141) (c_impl_within (((l).length : Int)) (1) (k)) rfl (.cons rfl (.c .t0) (.cons rfl (.c .t0) (.cons rfl (.c .t0) .nil))) rfl rfl rfl) ?_
 refine rM ?_
 refine rG (fun g1 => ?_) (fun g1 => ?_)
 ·
  have g1' := of_decide_eq_true g1
  refine rM ?_
  refine rG (fun _ => ?_) (nc g1)
  refine r_op (o_makeFunc rfl (.cons rfl .nil)) ?_
  refine rG (fun _ => ?_) (nc g1)
  refine r_op (o_call 1 1 false (en Tryz.func184) (c_slices_ContainsFunc___impl_Atom_impl_Atom_ (l) (219) ([((enSl 3 (enS3 encS encI encB)) (rs), 1)]) (fun (x0 : Int × (List (Int))) => badA (rs) ((x0.1), (x0.2))) (by omega) (fun x0 mx0 => ⟨en Tryz.func219, c_impl_areAtoms_1 (x0.1) (x0.2) (rs) (by omega) (by (have e1 := sz_mem (f := (fun (x : Int × (List (Int))) => (x.2).length)) (l := l) (by assumption); (try dsimp only at e1); omega))⟩)) rfl (.cons rfl (.c .t0) (.cons rfl (.c (.clo (.cons rfl rfl rfl (.cons .t .nil) .nil))) .nil)) rfl rfl rfl) ?_
  refine rG (fun _ => ?_) (nc g1)
  refine r_op (o_not rfl rfl) ?_
  refine r_op (o_pickT rfl rfl g1 rfl) ?_
  refine rA<|r_end ?_
  refine tk Tryz.func183 (.tmp rfl .nil) ?_
  all_goals (refine scB ?_; unfold atomsOk; (rw [decide_eq_true (by assumption)]; rfl))
 ·
  have g1' := of_decide_eq_false g1
  refine rG (ncf g1) (fun _ => ?_)
  refine rG (ncf g1) (fun _ => ?_)
  refine rG (ncf g1) (fun _ => ?_)
  refine r_op (o_pickF rfl rfl g1 rfl) ?_
  refine rA<|r_end ?_
  refine tk Tryz.func183 (.tmp rfl .nil) ?_
  all_goals (refine scB ?_; unfold atomsOk; (rw [decide_eq_false (by assumption)]; rfl))
theorem c_impl_Variables (l : List (Int × List Int)) (hl : szS (fun (x : Int × (List (Int))) => (x.2).length) l ≤ 1048576) : Pu Tryz.prog 150 [.c (.t none (.sl 2 (enS2 encI (enSl 1 encI)) (l)))] [(0, some (.row none 3 true 1 encI (setI (varsL l))))] 1 (.c (.own 0)) := by
 refine pu_enter Tryz.func150 rfl (Nat.le_of_ble_eq_true rfl) fun w S => ?_
 have gl := sz_len (f := (fun (x : Int × (List (Int))) => (x.2).length)) (l := l); have gv := varsL_size l
 refine tsr<|rA<|etr ?_
 refine r_op (o_lit0 0 (e := 3) (sz := 1) (zs := [.int .i64 (0)]) encI rfl rfl (by kernel_rfl) rfl) ?_
 refine rA<|r_end<|t_seq<|tsr ?_
 refine rM ?_
 refine r_op (o_len rfl rfl rfl) ?_
 refine rM<|r_end<|t_block ?_
 refine t_loopL (fun m => ⟨[(2, some (.c (.t none (.v (.slice none 0 0))))), (3, some (.c (.own 0))), (9, some (.c (.t none (.sl 2 (enS2 encI (enSl 1 encI)) (l))))), (10, some (.c (.t none (.v (.int .i64 (((l).length : Int))))))), (11, some (.c (.t none (.v (.int .i64 ((m : Int)))))))], [(0, some (.row none 3 true 1 encI (varsL (l.take m))))], 1⟩ : Nat → St) (fun m => m ≤ l.length) (fun m => l.length - m) 0 ⟨⟨rfl, ⟨rfl, ⟨rfl, ⟨rfl, ⟨rfl, trivial⟩⟩⟩⟩⟩, ⟨rfl, trivial⟩, rfl⟩ (by exact Nat.zero_le _) ?_
 rintro m hI ih0
 try dsimp only at hI ih0
 have i1 := hI
 refine tsr<|rB<|r_end<|t_seq ?_
 refine t_cond rfl (fun h1 => ?_) (fun h1 => ?_)
 ·
  have h1' := of_decide_eq_true h1
  refine t_skip<|t_seq<|t_block<|tsr ?_
  obtain ⟨z2, hz3, b4⟩ := at_get (xs := l) (n := (m : Int)) (by omega) (by omega)
  refine r_op (o_index rfl (by kernel_rfl) rfl rfl b4 hz3) ?_
  refine r_op (o_loadA rfl (n := 2) (by kernel_rfl) (by kernel_rfl) rfl rfl) ?_
  refine r_op (o_alloc 1 (zs := [.int .i64 (0), .slice none 0 0]) rfl rfl (by kernel_rfl) rfl) ?_
  refine rS 2<|etr ?_
  refine rF 1 ?_
  refine rL ?_
  refine r_op (o_len rfl rfl rfl) ?_
  refine rM<|r_end<|t_block ?_
  refine t_loopL (fun n => ⟨[(2, some (.c (.t none (.v (.slice none 0 0))))), (3, some (.c (.own 0))), (9, some (.c (.t none (.sl 2 (enS2 encI (enSl 1 encI)) (l))))), (10, some (.c (.t none (.v (.int .i64 (((l).length : Int))))))), (11, some (.c (.t none (.v (.int .i64 ((m : Int))))))), (16, some (.c (.t none (.sl 1 encI (z2.2))))), (17, some (.c (.t none (.v (.int .i64 (((z2.2).length : Int))))))), (18, some (.c (.t none (.v (.int .i64 ((n : Int)))))))], [(0, some (.row none 3 true 1 encI (varsL (l.take m) ++ nonneg (z2.2.take n)))), (1, some (.box [.t none (.v (.int .i64 (z2.1))), .t none (.sl 1 encI (z2.2))]))], 2⟩ : Nat → St) (fun n => n ≤ z2.2.length) (fun n => z2.2.length - n) 0 ⟨⟨rfl, ⟨rfl, ⟨rfl, ⟨rfl, ⟨rfl, ⟨rfl, ⟨rfl, ⟨rfl, trivial⟩⟩⟩⟩⟩⟩⟩⟩, ⟨(eqR (by rw [nonneg_zero, List.append_nil])), ⟨rfl, trivial⟩⟩, rfl⟩ (by exact Nat.zero_le _) ?_
  rintro n hI ih1
  try dsimp only at hI ih1
  have j1 := hI; have vp := varsL_part (m := m) (n := n) hz3; (have e1 := sz_at (f := (fun (x : Int × (List (Int))) => (x.2).length)) (l := l) (m := m) hz3; (try dsimp only at e1))
  refine tsr<|rB<|r_end<|t_seq ?_
  refine t_cond rfl (fun h5 => ?_) (fun h5 => ?_)
  ·
   have h5' := of_decide_eq_true h5
   refine t_skip<|t_seq<|t_block<|tsr ?_
   obtain ⟨z6, hz7, b8⟩ := at_get (xs := z2.2) (n := (n : Int)) (by omega) (by omega)
   refine r_op (o_index rfl (by kernel_rfl) rfl rfl b8 hz7) ?_
   refine r_op (o_load1 rfl (by kernel_rfl) rfl rfl) ?_
   refine rA<|etr ?_
   refine rM ?_
   refine rB<|r_end ?_
   refine t_cond rfl (fun h9 => ?_) (fun h9 => ?_)
   ·
    have h9' := of_decide_eq_true h9
    refine t_region<|rM ?_
    refine rM ?_
    refine r_op (o_litS 2 (e := 3) (sz := 1) (zs := [.int .i64 (0)]) rfl rfl (by kernel_rfl) rfl rfl rfl rfl rfl) ?_
    refine r_op (o_append 0 (e := 3) (sz := 1) (by' := 8) (z6) rfl (by kernel_rfl) rfl rfl rfl rfl rfl rfl (.cons .sc .nil) rfl (by (simp only [List.length_append]; omega)) (by (simp only [List.length_append]; omega))) ?_
    refine rA<|r_end<|t_endblock<|t_region ?_
    refine rB ?_
    refine rM<|r_end ?_
    refine t_le ?_ (ih1 (n + 1) (by (try dsimp only); omega) (by (try dsimp only); omega))
    exact ⟨⟨rfl, ⟨rfl, ⟨rfl, ⟨rfl, ⟨rfl, ⟨rfl, ⟨rfl, ⟨(eqI (wr64 (by omega) (by omega))), trivial⟩⟩⟩⟩⟩⟩⟩⟩, ⟨(eqR (by (rw [nonneg_more (by assumption) (by omega), List.append_assoc]; done))), ⟨rfl, trivial⟩⟩, rfl⟩
   ·
    have h9' := of_decide_eq_false h9
    refine t_skip<|t_endblock<|t_region<|rB ?_
    refine rM<|r_end ?_
    refine t_le ?_ (ih1 (n + 1) (by (try dsimp only); omega) (by (try dsimp only); omega))
    exact ⟨⟨rfl, ⟨rfl, ⟨rfl, ⟨rfl, ⟨rfl, ⟨rfl, ⟨rfl, ⟨(eqI (wr64 (by omega) (by omega))), trivial⟩⟩⟩⟩⟩⟩⟩⟩, ⟨(eqR (by (rw [nonneg_same (by assumption) (by omega)]; done))), ⟨rfl, trivial⟩⟩, rfl⟩
  ·
   have h5' := of_decide_eq_false h5
   refine t_exit rfl<|t_endblock<|t_region<|rB ?_
   refine rM<|r_end ?_
   refine t_le ?_ (ih0 (m + 1) (by (try dsimp only); omega) (by (try dsimp only); omega))
   exact ⟨⟨rfl, ⟨rfl, ⟨rfl, ⟨rfl, ⟨(eqI (wr64 (by omega) (by omega))), trivial⟩⟩⟩⟩⟩, ⟨(eqR (by rw [varsL_step (m := m) hz3]; congr 2; exact List.take_of_length_le (by omega))), trivial⟩, rfl⟩
 ·
  have h1' := of_decide_eq_false h1
  refine t_exit rfl<|tsr<|rM ?_
  refine r_op (o_callH [⟨0, none, 3, 1, _, encI, varsL (l.take m), sortI (varsL (l.take m))⟩] (en Tryz.func137) (fun U => c_slices_Sort___int_int_ U 3 (varsL (l.take m)) (by (simp only [varsL_end (by omega : l.length ≤ m)]; omega))) rfl ⟨rfl, trivial⟩ rfl rfl (.cons rfl (.own rfl) .nil) rfl) ?_
  refine etr<|rM ?_
  refine r_op (o_callC 0 (l' := compactI (sortI (varsL (l.take m)))) (en Tryz.func138) (fun U => c_slices_Compact___int_int_ U 3 (sortI (varsL (l.take m))) (by (rw [sortI_len]; simp only [varsL_end (by omega : l.length ≤ m)]; omega))) rfl rfl (.cons rfl (.own rfl) .nil)) ?_
  refine rA<|r_end ?_
  refine tk Tryz.func150 (.tmp rfl .nil) ?_ (hL := ⟨eqR ?_, trivial⟩) <;> (try clear ih0) <;> (try clear ih1)
  all_goals first | rfl | ((rw [varsL_end (by omega), compact_sort]))
theorem c_slices_Index___int_int_ (l : List Int) (v : Int) (hl : l.length ≤ 9223372036854775807) : Pu Tryz.prog 186 [.c (.t none (.sl 1 encI (l))), .c (.t none (.v (.int .i64 (v))))] [] 0 (.c (.t none (.v (.int .i64 (idxI (eqP v) l))))) := by
 refine pu_enter Tryz.func186 rfl (Nat.le_of_ble_eq_true rfl) fun w S => ?_
 refine tsr<|rA<|r_end<|t_seq<|tsr ?_
 refine rM ?_
 refine r_op (o_len rfl rfl rfl) ?_
 refine rM<|r_end<|t_block ?_
 refine t_loopL (fun m => ⟨[(0, some (.c (.t none (.sl 1 encI (l))))), (1, some (.c (.t none (.v (.int .i64 (v)))))), (7, some (.c (.t none (.v (.int .i64 (((l).length : Int))))))), (8, some (.c (.t none (.v (.int .i64 ((m : Int)))))))], [], 0⟩ : Nat → St) (fun m => m ≤ l.length ∧ ∀ j z, j < m → l[j]? = some z → eqP v z = false) (fun m => l.length - m) 0 ⟨⟨rfl, ⟨rfl, ⟨rfl, ⟨rfl, trivial⟩⟩⟩⟩, trivial, rfl⟩ (by exact ⟨Nat.zero_le _, fun j z h => by omega⟩) ?_
 rintro m hI ih0
 try dsimp only at hI ih0
 obtain ⟨i1, i2⟩ := hI
 refine tsr<|rB<|r_end<|t_seq ?_
 refine t_cond rfl (fun h1 => ?_) (fun h1 => ?_)
 ·
  have h1' := of_decide_eq_true h1
  refine t_skip<|t_seq<|t_block<|tsr<|rM ?_
  refine rA<|etr ?_
  refine rM ?_
  refine rM ?_
  refine rM ?_
  obtain ⟨z2, hz3, b4⟩ := at_get (xs := l) (n := (m : Int)) (by omega) (by omega)
  refine r_op (o_index rfl (by kernel_rfl) rfl rfl b4 hz3) ?_
  refine r_op (o_load1 rfl (by kernel_rfl) rfl rfl) ?_
  refine rB<|r_end ?_
  refine t_cond rfl (fun h5 => ?_) (fun h5 => ?_)
  ·
   have h5' := of_decide_eq_true h5
   refine tsr<|rM ?_
   refine rA<|r_end ?_
   refine tk Tryz.func186 (.tmp rfl .nil) ?_ <;> (try clear ih0)
   all_goals (rw [idx_hit i2 (by assumption) (decide_eq_true (by omega))])
  ·
   have h5' := of_decide_eq_false h5
   refine t_skip<|t_endblock<|t_region<|rB ?_
   refine rM<|r_end ?_
   refine t_le ?_ (ih0 (m + 1) (by (try dsimp only); omega) (by (try dsimp only); exact ⟨by omega, no_step i2 (by assumption) rfl (decide_eq_false (by omega))⟩))
   exact ⟨⟨rfl, ⟨rfl, ⟨rfl, ⟨(eqI (wr64 (by omega) (by omega))), trivial⟩⟩⟩⟩, trivial, rfl⟩
 ·
  have h1' := of_decide_eq_false h1
  refine t_exit rfl<|tsr<|rA<|r_end ?_
  refine tk Tryz.func186 (.tmp rfl .nil) ?_ <;> (try clear ih0)
  all_goals (rw [idx_none i2 (by omega)])
theorem c_slices_Contains___int_int_ (l : List Int) (v : Int) (hl : l.length ≤ 9223372036854775807) : Pu Tryz.prog 151 [.c (.t none (.sl 1 encI (l))), .c (.t none (.v (.int .i64 (v))))] [] 0 (.c (.t none (.v (.bool (hasI l v))))) := by
 refine pu_enter Tryz.func151 rfl (Nat.le_of_ble_eq_true rfl) fun w S => ?_
 refine tsr<|rA<|etr ?_
 refine rM ?_
 refine rM ?_
 refine r_op (o_call 0 0 false (en Tryz.func186) (c_slices_Index___int_int_ (l) (v) (by omega)) rfl (.cons rfl (.c .t0) (.cons rfl (.c .t0) .nil)) rfl rfl rfl) ?_
 refine rB ?_
 refine rA<|r_end ?_
 refine tk Tryz.func151 (.tmp rfl .nil) ?_
 all_goals (exact scB idxI_has)
theorem c_impl_IsValidDependency_1 (r : Int) (ts : List Int) (rs : Rels) (hr : 0 ≤ r ∧ r < rs.length) : Pu Tryz.prog 185 [.agg [.t none (.v (.int .i64 (r))), .t none (.sl 1 encI (ts))], .c (.pel none ((enSl 3 (enS3 encS encI encB)) (rs)) 1)] [] 0 (.c (.t none (.v (.bool (srcA rs (r, ts)))))) := by
 refine pu_enter Tryz.func185 rfl (Nat.le_of_ble_eq_true rfl) fun w S => ?_
 refine tsr ?_
 refine r_op (o_box 0 rfl rfl rfl rfl) ?_
 refine rA<|etr ?_
 refine r_op (o_load1 rfl (by kernel_rfl) rfl rfl) ?_
 refine rF 0 ?_
 refine rL ?_
 obtain ⟨z1, hz2, b3⟩ := at_get (xs := rs) (n := r) (by omega) (by omega)
 refine r_op (o_index rfl (by kernel_rfl) rfl rfl b3 hz2) ?_
 refine r_op (o_field rfl (off := 2) (by kernel_rfl) rfl) ?_
 refine r_op (o_load1 rfl (by kernel_rfl) rfl rfl) ?_
 refine rA<|r_end ?_
 refine tk Tryz.func185 (.tmp rfl .nil) ?_
 all_goals (refine scB ?_; rw [srcA_at (by assumption)])
theorem c_impl_IsValidDependency (rs : Rels) (a0 : List (Int × (List (Int)))) (a1 : List (Int × (List (Int)))) (a2 : Bool) (a3 : Int) (a4 : Int) (hrs : rs.length ≤ 4611686018427387904) (hs : szS (fun (x : Int × (List (Int))) => (x.2).length) a0 + szS (fun (x : Int × (List (Int))) => (x.2).length) a1 ≤ 1048576) : Pu Tryz.prog 149 [.c (.t none (.sl 3 (enS3 encS encI encB) (rs))), .agg [.t none (.sl 2 (enS2 encI (enSl 1 encI)) (a0)), .t none (.sl 2 (enS2 encI (enSl 1 encI)) (a1)), .t none (.v (.bool (a2))), .t none (.v (.int .i64 (a3))), .t none (.v (.int .i64 (a4)))]] [] 0 (.c (.t none (.v (.bool (depOk rs a0 a1 a2 a3 a4))))) := by
 refine pu_enter Tryz.func149 rfl (Nat.le_of_ble_eq_true rfl) fun w S => ?_
 have g0 := sz_len (f := (fun (x : Int × (List (Int))) => (x.2).length)) (l := a0); have g1 := sz_len (f := (fun (x : Int × (List (Int))) => (x.2).length)) (l := a1); have v0 := setI_len (varsL a0); have v1 := varsL_size a0
 refine tsr ?_
 refine r_op (o_box 0 rfl rfl rfl rfl) ?_
 refine r_op (o_box 1 rfl rfl rfl rfl) ?_
 refine rA<|etr ?_
 refine rC 5 ?_
 refine r_op (o_alloc 2 (zs := [.slice none 0 0, .slice none 0 0, .bool (false), .int .i64 (0), .int .i64 (0)]) rfl rfl (by kernel_rfl) rfl) ?_
 refine rS 5<|r_end<|t_seq<|tsr ?_
 refine rL ?_
 refine rF 0 ?_
 refine rL ?_
 refine r_op (o_call 3 3 false (en Tryz.func183) (c_impl_areAtoms (rs) (a0) (2) (by omega) (by omega)) rfl (.cons rfl (.c .t0) (.cons rfl (.c .t0) (.cons rfl (.c .t0) .nil))) rfl rfl rfl) ?_
 refine r_op (o_not rfl rfl) ?_
 refine r_end ?_
 refine t_cond rfl (fun h1 => ?_) (fun h1 => ?_)
 ·
  have h1' := (bnt h1)
  refine tsr<|rA<|r_end ?_
  refine tk Tryz.func149 (.tmp rfl .nil) ?_
  all_goals (refine scB ?_; clear hs g0 g1 v0 v1; unfold depOk; grind)
 ·
  have h1' := (bnf h1)
  refine t_skip<|t_seq<|tsr<|rF 2 ?_
  refine rL<|r_end ?_
  refine t_cond rfl (fun h2 => ?_) (fun h2 => ?_)
  ·
   have h2' := h2
   refine tsr<|rF 0 ?_
   refine rL ?_
   refine r_op (o_call 3 4 false (en Tryz.func150) (c_impl_Variables (a0) (by omega)) rfl (.cons rfl (.c .t0) .nil) rfl rfl rfl) ?_
   refine rA<|etr ?_
   refine rF 1 ?_
   refine rL ?_
   refine r_op (o_len rfl rfl rfl) ?_
   refine rB ?_
   refine rM ?_
   refine rG (fun g3 => ?_) (fun g3 => ?_)
   ·
    have g3' := of_decide_eq_true g3
    refine rF 3 ?_
    refine rG (fun _ => ?_) (nc g3)
    refine rL ?_
    refine rG (fun _ => ?_) (nc g3)
    refine rF 4 ?_
    refine rG (fun _ => ?_) (nc g3)
    refine rL ?_
    refine rG (fun _ => ?_) (nc g3)
    refine rB ?_
    refine r_op (o_pickT rfl rfl g3 rfl) ?_
    refine rM ?_
    refine rG (fun g4 => ?_) (fun g4 => ?_)
    ·
     have g4' := of_decide_eq_true g4
     refine rM ?_
     refine rG (fun _ => ?_) (nc g4)
     refine rF 3 ?_
     refine rG (fun _ => ?_) (nc g4)
     refine rL ?_
     refine rG (fun _ => ?_) (nc g4)
     refine r_op (o_call 4 4 false (en Tryz.func151) (c_slices_Contains___int_int_ (setI (varsL (a0))) (a3) (by omega)) rfl (.cons rfl (.c (.own rfl)) (.cons rfl (.c .t0) .nil)) rfl rfl rfl) ?_
     refine r_op (o_pickT rfl rfl g4 rfl) ?_
     refine rM ?_
     refine rG (fun g5 => ?_) (fun g5 => ?_)
     ·
      have g5' := g5
      refine rM ?_
      refine rG (fun _ => ?_) (nc g5)
      refine rF 4 ?_
      refine rG (fun _ => ?_) (nc g5)
      refine rL ?_
      refine rG (fun _ => ?_) (nc g5)
      refine r_op (o_call 4 4 false (en Tryz.func151) (c_slices_Contains___int_int_ (setI (varsL (a0))) (a4) (by omega)) rfl (.cons rfl (.c (.own rfl)) (.cons rfl (.c .t0) .nil)) rfl rfl rfl) ?_
      refine r_op (o_pickT rfl rfl g5 rfl) ?_
      refine rA<|r_end ?_
      refine tk Tryz.func149 (.tmp rfl .nil) ?_
      all_goals (refine scB ?_; clear hs g0 g1 v0 v1; unfold depOk; grind)
     ·
      have g5' := g5
      refine rG (ncf g5) (fun _ => ?_)
      refine rG (ncf g5) (fun _ => ?_)
      refine rG (ncf g5) (fun _ => ?_)
      refine r_op (o_pickF rfl rfl g5 rfl) ?_
      refine rA<|r_end ?_
      refine tk Tryz.func149 (.tmp rfl .nil) ?_
      all_goals (refine scB ?_; clear hs g0 g1 v0 v1; unfold depOk; grind)
    ·
     have g4' := of_decide_eq_false g4
     refine rG (ncf g4) (fun _ => ?_)
     refine rG (ncf g4) (fun _ => ?_)
     refine rG (ncf g4) (fun _ => ?_)
     refine r_op (o_pickF rfl rfl g4 rfl) ?_
     refine rM ?_
     refine rG (ncf rfl) (fun _ => ?_)
     refine rG (ncf rfl) (fun _ => ?_)
     refine rG (ncf rfl) (fun _ => ?_)
     refine rG (ncf rfl) (fun _ => ?_)
     refine r_op (o_pickF rfl rfl rfl rfl) ?_
     refine rA<|r_end ?_
     refine tk Tryz.func149 (.tmp rfl .nil) ?_
     all_goals (refine scB ?_; clear hs g0 g1 v0 v1; unfold depOk; grind)
   ·
    have g3' := of_decide_eq_false g3
    refine rG (ncf g3) (fun _ => ?_)
    refine rG (ncf g3) (fun _ => ?_)
    refine rG (ncf g3) (fun _ => ?_)
    refine rG (ncf g3) (fun _ => ?_)
    refine r_op (o_pickF rfl rfl g3 rfl) ?_
    refine rM ?_
    refine rG (ncf rfl) (fun _ => ?_)
    refine rG (ncf rfl) (fun _ => ?_)
    refine rG (ncf rfl) (fun _ => ?_)
    refine rG (ncf rfl) (fun _ => ?_)
    refine r_op (o_pickF rfl rfl rfl rfl) ?_
    refine rM ?_
    refine rG (ncf rfl) (fun _ => ?_)
    refine rG (ncf rfl) (fun _ => ?_)
    refine rG (ncf rfl) (fun _ => ?_)
    refine rG (ncf rfl) (fun _ => ?_)
    refine r_op (o_pickF rfl rfl rfl rfl) ?_
    refine rA<|r_end ?_
    refine tk Tryz.func149 (.tmp rfl .nil) ?_
    all_goals (refine scB ?_; clear hs g0 g1 v0 v1; unfold depOk; grind)
  ·
   have h2' := h2
   refine t_skip<|tsr<|rL ?_
   refine rF 1 ?_
   refine rL ?_
   refine r_op (o_call 3 3 false (en Tryz.func183) (c_impl_areAtoms (rs) (a1) (2) (by omega) (by omega)) rfl (.cons rfl (.c .t0) (.cons rfl (.c .t0) (.cons rfl (.c .t0) .nil))) rfl rfl rfl) ?_
   refine rM ?_
   refine rG (fun g6 => ?_) (fun g6 => ?_)
   ·
    have g6' := g6
    refine rF 3 ?_
    refine rG (fun _ => ?_) (nc g6)
    refine rL ?_
    refine rG (fun _ => ?_) (nc g6)
    refine rB ?_
    refine r_op (o_pickT rfl rfl g6 rfl) ?_
    refine rM ?_
    refine rG (fun g7 => ?_) (fun g7 => ?_)
    ·
     have g7' := of_decide_eq_true g7
     refine rF 4 ?_
     refine rG (fun _ => ?_) (nc g7)
     refine rL ?_
     refine rG (fun _ => ?_) (nc g7)
     refine rB ?_
     refine r_op (o_pickT rfl rfl g7 rfl) ?_
     refine rM ?_
     refine rG (fun g8 => ?_) (fun g8 => ?_)
     ·
      have g8' := of_decide_eq_true g8
      refine rF 1 ?_
      refine rG (fun _ => ?_) (nc g8)
      refine rL ?_
      refine rG (fun _ => ?_) (nc g8)
      refine r_op (o_makeFunc rfl (.cons rfl .nil)) ?_
      refine rG (fun _ => ?_) (nc g8)
      refine r_op (o_call 3 3 false (en Tryz.func184) (c_slices_ContainsFunc___impl_Atom_impl_Atom_ (a1) (185) ([((enSl 3 (enS3 encS encI encB)) (rs), 1)]) (fun (x0 : Int × (List (Int))) => srcA (rs) ((x0.1), (x0.2))) (by omega) (fun x0 mx0 => ⟨en Tryz.func185, c_impl_IsValidDependency_1 (x0.1) (x0.2) (rs) (by exact atoms_at (by assumption) (by assumption))⟩)) rfl (.cons rfl (.c .t0) (.cons rfl (.c (.clo (.cons rfl rfl rfl (.cons .t .nil) .nil))) .nil)) rfl rfl rfl) ?_
      refine rG (fun _ => ?_) (nc g8)
      refine r_op (o_not rfl rfl) ?_
      refine r_op (o_pickT rfl rfl g8 rfl) ?_
      refine rA<|r_end ?_
      refine tk Tryz.func149 (.tmp rfl .nil) ?_
      all_goals (refine scB ?_; clear hs g0 g1 v0 v1; unfold depOk; grind)
     ·
      have g8' := of_decide_eq_false g8
      refine rG (ncf g8) (fun _ => ?_)
      refine rG (ncf g8) (fun _ => ?_)
      refine rG (ncf g8) (fun _ => ?_)
      refine rG (ncf g8) (fun _ => ?_)
      refine r_op (o_pickF rfl rfl g8 rfl) ?_
      refine rA<|r_end ?_
      refine tk Tryz.func149 (.tmp rfl .nil) ?_
      all_goals (refine scB ?_; clear hs g0 g1 v0 v1; unfold depOk; grind)
    ·
     have g7' := of_decide_eq_false g7
     refine rG (ncf g7) (fun _ => ?_)
     refine rG (ncf g7) (fun _ => ?_)
     refine r_op (o_pickF rfl rfl g7 rfl) ?_
     refine rM ?_
     refine rG (ncf rfl) (fun _ => ?_)
     refine rG (ncf rfl) (fun _ => ?_)
     refine rG (ncf rfl) (fun _ => ?_)
     refine rG (ncf rfl) (fun _ => ?_)
     refine rG (ncf rfl) (fun _ => ?_)
     refine r_op (o_pickF rfl rfl rfl rfl) ?_
     refine rA<|r_end ?_
     refine tk Tryz.func149 (.tmp rfl .nil) ?_
     all_goals (refine scB ?_; clear hs g0 g1 v0 v1; unfold depOk; grind)
   ·
    have g6' := g6
    refine rG (ncf g6) (fun _ => ?_)
    refine rG (ncf g6) (fun _ => ?_)
    refine r_op (o_pickF rfl rfl g6 rfl) ?_
    refine rM ?_
    refine rG (ncf rfl) (fun _ => ?_)
    refine rG (ncf rfl) (fun _ => ?_)
    refine rG (ncf rfl) (fun _ => ?_)
    refine r_op (o_pickF rfl rfl rfl rfl) ?_
    refine rM ?_
    refine rG (ncf rfl) (fun _ => ?_)
    refine rG (ncf rfl) (fun _ => ?_)
    refine rG (ncf rfl) (fun _ => ?_)
    refine rG (ncf rfl) (fun _ => ?_)
    refine rG (ncf rfl) (fun _ => ?_)
    refine r_op (o_pickF rfl rfl rfl rfl) ?_
    refine rA<|r_end ?_
    refine tk Tryz.func149 (.tmp rfl .nil) ?_
    all_goals (refine scB ?_; clear hs g0 g1 v0 v1; unfold depOk; grind)
theorem c_impl_AreValidDependencies_1 (a0 : List (Int × (List (Int)))) (a1 : List (Int × (List (Int)))) (a2 : Bool) (a3 : Int) (a4 : Int) (rs : Rels) (hrs : rs.length ≤ 4611686018427387904) (hs : szS (fun (x : Int × (List (Int))) => (x.2).length) a0 + szS (fun (x : Int × (List (Int))) => (x.2).length) a1 ≤ 1048576) : Pu Tryz.prog 166 [.agg [.t none (.sl 2 (enS2 encI (enSl 1 encI)) (a0)), .t none (.sl 2 (enS2 encI (enSl 1 encI)) (a1)), .t none (.v (.bool (a2))), .t none (.v (.int .i64 (a3))), .t none (.v (.int .i64 (a4)))], .c (.pel none ((enSl 3 (enS3 encS encI encB)) (rs)) 1)] [] 0 (.c (.t none (.v (.bool (badD rs (a0, a1, a2, a3, a4)))))) := by
 refine pu_enter Tryz.func166 rfl (Nat.le_of_ble_eq_true rfl) fun w S => ?_
 refine tsr ?_
 refine r_op (o_box 0 rfl rfl rfl rfl) ?_
 refine rA<|etr ?_
 refine r_op (o_load1 rfl (by kernel_rfl) rfl rfl) ?_
 refine rC 5 ?_
 refine r_op (o_call 1 1 false (en Tryz.func149) (c_impl_IsValidDependency (rs) (a0) (a1) (a2) (a3) (a4) (by omega) (by omega)) rfl (.cons rfl (.c .t0) (.cons rfl (.agg (.cons .t0 (.cons .t0 (.cons .t0 (.cons .t0 (.cons .t0 .nil)))))) .nil)) rfl rfl rfl) ?_
 refine r_op (o_not rfl rfl) ?_
 refine rA<|r_end ?_
 refine tk Tryz.func166 (.tmp rfl .nil) ?_
 all_goals (rfl)
theorem c_slices_IndexFunc___impl_Dependency_impl_Dependency_ (l : List ((List (Int × (List (Int)))) × (List (Int × (List (Int)))) × Bool × Int × Int)) (f : Nat) (cs : List ((Nat → T) × Nat)) (p : (List (Int × (List (Int)))) × (List (Int × (List (Int)))) × Bool × Int × Int → Bool) (hl : l.length ≤ 9223372036854775807) (hf : ∀ x ∈ l, Fu Tryz.prog f ([.agg [.t none (.sl 2 (enS2 encI (enSl 1 encI)) (x.1)), .t none (.sl 2 (enS2 encI (enSl 1 encI)) (x.2.1)), .t none (.v (.bool (x.2.2.1))), .t none (.v (.int .i64 (x.2.2.2.1))), .t none (.v (.int .i64 (x.2.2.2.2)))]] ++ pels cs) (.c (.t none (.v (.bool (p x)))))) : Pu Tryz.prog 200 [.c (.t none (.sl 5 (enS5 (enSl 2 (enS2 encI (enSl 1 encI))) (enSl 2 (enS2 encI (enSl 1 encI))) encB encI encI) (l))), .c (.fv f cs)] [] 0 (.c (.t none (.v (.int .i64 (idxI p l))))) := by
 refine pu_enter Tryz.func200 rfl (Nat.le_of_ble_eq_true rfl) fun w S => ?_
 refine tsr<|rA<|r_end<|t_seq<|tsr ?_
 refine rM ?_
 refine r_op (o_len rfl rfl rfl) ?_
 refine rM<|r_end<|t_block ?_
 refine t_loopL (fun m => ⟨[(0, some (.c (.t none (.sl 5 (enS5 (enSl 2 (enS2 encI (enSl 1 encI))) (enSl 2 (enS2 encI (enSl 1 encI))) encB encI encI) (l))))), (1, some (.c (.fv f cs))), (7, some (.c (.t none (.v (.int .i64 (((l).length : Int))))))), (8, some (.c (.t none (.v (.int .i64 ((m : Int)))))))], [], 0⟩ : Nat → St) (fun m => m ≤ l.length ∧ ∀ j z, j < m → l[j]? = some z → p z = false) (fun m => l.length - m) 0 ⟨⟨rfl, ⟨rfl, ⟨rfl, ⟨rfl, trivial⟩⟩⟩⟩, trivial, rfl⟩ (by exact ⟨Nat.zero_le _, fun j z h => by omega⟩) ?_
 rintro m hI ih0
 try dsimp only at hI ih0
 obtain ⟨i1, i2⟩ := hI
 refine tsr<|rB<|r_end<|t_seq ?_
 refine t_cond rfl (fun h1 => ?_) (fun h1 => ?_)
 ·
  have h1' := of_decide_eq_true h1
  refine t_skip<|t_seq<|t_block<|tsr<|rM ?_
  refine rA<|etr ?_
  refine rM ?_
  refine rM ?_
  refine rM ?_
  obtain ⟨z2, hz3, b4⟩ := at_get (xs := l) (n := (m : Int)) (by omega) (by omega)
  refine r_op (o_index rfl (by kernel_rfl) rfl rfl b4 hz3) ?_
  refine r_op (o_loadA rfl (n := 5) (by kernel_rfl) (by kernel_rfl) rfl rfl) ?_
  refine r_op (o_callv 0 0 false (hf z2 (List.mem_of_getElem? (by assumption))).1 (hf z2 (List.mem_of_getElem? (by assumption))).2 rfl rfl (.c .fv) (.cons rfl (.agg (.cons .t0 (.cons .t0 (.cons .t0 (.cons .t0 (.cons .t0 .nil)))))) .nil) rfl rfl rfl) ?_
  refine r_end ?_
  refine t_cond rfl (fun h5 => ?_) (fun h5 => ?_)
  ·
   have h5' := h5
   refine tsr<|rM ?_
   refine rA<|r_end ?_
   refine tk Tryz.func200 (.tmp rfl .nil) ?_ <;> (try clear ih0)
   all_goals (rw [idx_hit i2 (by assumption) (by assumption)])
  ·
   have h5' := h5
   refine t_skip<|t_endblock<|t_region<|rB ?_
   refine rM<|r_end ?_
   refine t_le ?_ (ih0 (m + 1) (by (try dsimp only); omega) (by (try dsimp only); exact ⟨by omega, no_step i2 (by assumption) rfl (by assumption)⟩))
   exact ⟨⟨rfl, ⟨rfl, ⟨rfl, ⟨(eqI (wr64 (by omega) (by omega))), trivial⟩⟩⟩⟩, trivial, rfl⟩
 ·
  have h1' := of_decide_eq_false h1
  refine t_exit rfl<|tsr<|rA<|r_end ?_
  refine tk Tryz.func200 (.tmp rfl .nil) ?_ <;> (try clear ih0)
  all_goals (rw [idx_none i2 (by omega)])
theorem c_slices_ContainsFunc___impl_Dependency_impl_Dependency_ (l : List ((List (Int × (List (Int)))) × (List (Int × (List (Int)))) × Bool × Int × Int)) (f : Nat) (cs : List ((Nat → T) × Nat)) (p : (List (Int × (List (Int)))) × (List (Int × (List (Int)))) × Bool × Int × Int → Bool) (hl : l.length ≤ 9223372036854775807) (hf : ∀ x ∈ l, Fu Tryz.prog f ([.agg [.t none (.sl 2 (enS2 encI (enSl 1 encI)) (x.1)), .t none (.sl 2 (enS2 encI (enSl 1 encI)) (x.2.1)), .t none (.v (.bool (x.2.2.1))), .t none (.v (.int .i64 (x.2.2.2.1))), .t none (.v (.int .i64 (x.2.2.2.2)))]] ++ pels cs) (.c (.t none (.v (.bool (p x)))))) : Pu Tryz.prog 165 [.c (.t none (.sl 5 (enS5 (enSl 2 (enS2 encI (enSl 1 encI))) (enSl 2 (enS2 encI (enSl 1 encI))) encB encI encI) (l))), .c (.fv f cs)] [] 0 (.c (.t none (.v (.bool (l.any p))))) := by
 refine pu_enter Tryz.func165 rfl (Nat.le_of_ble_eq_true rfl) fun w S => ?_
 refine tsr<|rA<|etr ?_
 refine rM ?_
 refine rM ?_
 refine r_op (o_call 0 0 false (en Tryz.func200) (c_slices_IndexFunc___impl_Dependency_impl_Dependency_ (l) (f) (cs) (p) (by omega) (hf)) rfl (.cons rfl (.c .t0) (.cons rfl (.c .fv) .nil)) rfl rfl rfl) ?_
 refine rB ?_
 refine rA<|r_end ?_
 refine tk Tryz.func165 (.tmp rfl .nil) ?_
 all_goals (exact scB idx_any)
theorem c_impl_AreValidDependencies (rs : Rels) (l : List Dep) (hrs : rs.length ≤ 4611686018427387904) (hs : szS (fun (x : (List (Int × (List (Int)))) × (List (Int × (List (Int)))) × Bool × Int × Int) => (szS (fun (x : Int × (List (Int))) => (x.2).length) (x.1)) + (szS (fun (x : Int × (List (Int))) => (x.2).length) (x.2.1))) l ≤ 1048576) : Pu Tryz.prog 122 [.c (.t none (.sl 3 (enS3 encS encI encB) (rs))), .c (.t none (.sl 5 (enS5 (enSl 2 (enS2 encI (enSl 1 encI))) (enSl 2 (enS2 encI (enSl 1 encI))) encB encI encI) (l)))] [] 0 (.c (.t none (.v (.bool (depsOk rs l))))) := by
 refine pu_enter Tryz.func122 rfl (Nat.le_of_ble_eq_true rfl) fun w S => ?_
 have gl := sz_len (f := (fun (x : (List (Int × (List (Int)))) × (List (Int × (List (Int)))) × Bool × Int × Int) => (szS (fun (x : Int × (List (Int))) => (x.2).length) (x.1)) + (szS (fun (x : Int × (List (Int))) => (x.2).length) (x.2.1)))) (l := l)
 refine tsr ?_
 refine r_op (o_box 0 rfl rfl rfl rfl) ?_
 refine rA<|etr ?_
 refine rL ?_
 refine r_op (o_call 1 1 false (en Tryz.func82) (c_impl_AreValidRelations (rs) (by omega)) rfl (.cons rfl (.c .t0) .nil) rfl rfl rfl) ?_
 refine rM ?_
 refine rG (fun g1 => ?_) (fun g1 => ?_)
 ·
  have g1' := g1
  refine rM ?_
  refine rG (fun _ => ?_) (nc g1)
  refine r_op (o_len rfl rfl rfl) ?_
  refine rG (fun _ => ?_) (nc g1)
  refine rB ?_
  refine r_op (o_pickT rfl rfl g1 rfl) ?_
  refine rM ?_
  refine rG (fun g2 => ?_) (fun g2 => ?_)
  ·
   have g2' := of_decide_eq_true g2
   refine rM ?_
   refine rG (fun _ => ?_) (nc g2)
   refine r_op (o_makeFunc rfl (.cons rfl .nil)) ?_
   refine rG (fun _ => ?_) (nc g2)
   refine r_op (o_call 1 1 false (en Tryz.func165) (c_slices_ContainsFunc___impl_Dependency_impl_Dependency_ (l) (166) ([((enSl 3 (enS3 encS encI encB)) (rs), 1)]) (fun (x0 : (List (Int × (List (Int)))) × (List (Int × (List (Int)))) × Bool × Int × Int) => badD (rs) ((x0.1), (x0.2.1), (x0.2.2.1), (x0.2.2.2.1), (x0.2.2.2.2))) (by omega) (fun x0 mx0 => ⟨en Tryz.func166, c_impl_AreValidDependencies_1 (x0.1) (x0.2.1) (x0.2.2.1) (x0.2.2.2.1) (x0.2.2.2.2) (rs) (by omega) (by (have e1 := sz_mem (f := (fun (x : (List (Int × (List (Int)))) × (List (Int × (List (Int)))) × Bool × Int × Int) => (szS (fun (x : Int × (List (Int))) => (x.2).length) (x.1)) + (szS (fun (x : Int × (List (Int))) => (x.2).length) (x.2.1)))) (l := l) (by assumption); (try dsimp only at e1); omega))⟩)) rfl (.cons rfl (.c .t0) (.cons rfl (.c (.clo (.cons rfl rfl rfl (.cons .t .nil) .nil))) .nil)) rfl rfl rfl) ?_
   refine rG (fun _ => ?_) (nc g2)
   refine r_op (o_not rfl rfl) ?_
   refine r_op (o_pickT rfl rfl g2 rfl) ?_
   refine rA<|r_end ?_
   refine tk Tryz.func122 (.tmp rfl .nil) ?_
   all_goals (refine scB ?_; clear hs gl; unfold depsOk; grind)
  ·
   have g2' := of_decide_eq_false g2
   refine rG (ncf g2) (fun _ => ?_)
   refine rG (ncf g2) (fun _ => ?_)
   refine rG (ncf g2) (fun _ => ?_)
   refine r_op (o_pickF rfl rfl g2 rfl) ?_
   refine rA<|r_end ?_
   refine tk Tryz.func122 (.tmp rfl .nil) ?_
   all_goals (refine scB ?_; clear hs gl; unfold depsOk; grind)
 ·
  have g1' := g1
  refine rG (ncf g1) (fun _ => ?_)
  refine rG (ncf g1) (fun _ => ?_)
  refine r_op (o_pickF rfl rfl g1 rfl) ?_
  refine rM ?_
  refine rG (ncf rfl) (fun _ => ?_)
  refine rG (ncf rfl) (fun _ => ?_)
  refine rG (ncf rfl) (fun _ => ?_)
  refine rG (ncf rfl) (fun _ => ?_)
  refine r_op (o_pickF rfl rfl rfl rfl) ?_
  refine rA<|r_end ?_
  refine tk Tryz.func122 (.tmp rfl .nil) ?_
  all_goals (refine scB ?_; clear hs gl; unfold depsOk; grind)
theorem c_impl_areMatchable (rs : Rels) (fs l : Atoms) (hrs : rs.length ≤ 4611686018427387904) (hfs : szS (fun (x : Int × (List (Int))) => (x.2).length) fs ≤ 1048576) (hll : szS (fun (x : Int × (List (Int))) => (x.2).length) l ≤ 1048576) (ho : ∀ z ∈ fs, ∀ x ∈ z.2, okI x) : Pu Tryz.prog 152 [.agg [.t none (.sl 3 (enS3 encS encI encB) (rs)), .t none (.sl 2 (enS2 encI (enSl 1 encI)) (fs))], .c (.t none (.sl 2 (enS2 encI (enSl 1 encI)) (l)))] [] 0 (.c (.t none (.v (.bool (mtOk rs fs l))))) := by
 refine pu_enter Tryz.func152 rfl (Nat.le_of_ble_eq_true rfl) fun w S => ?_
 have gl := sz_len (f := (fun (x : Int × (List (Int))) => (x.2).length)) (l := l)
 refine tsr ?_
 refine r_op (o_box 0 rfl rfl rfl rfl) ?_
 refine rA<|etr ?_
 refine rC 2 ?_
 refine r_op (o_call 1 1 false (en Tryz.func35) (c_impl_IsValidInstance (rs) (fs) (by omega) (by omega) (by omega)) rfl (.cons rfl (.agg (.cons .t0 (.cons .t0 .nil))) .nil) rfl rfl rfl) ?_
 refine rM ?_
 refine rG (fun g1 => ?_) (fun g1 => ?_)
 ·
  have g1' := g1
  refine rM ?_
  refine rG (fun _ => ?_) (nc g1)
  refine r_op (o_len rfl rfl rfl) ?_
  refine rG (fun _ => ?_) (nc g1)
  refine rB ?_
  refine rG (fun _ => ?_) (nc g1)
  refine rM ?_
  refine rG (fun g2 => ?_) (fun g2 => ?_)
  ·
   have g2' := of_decide_eq_false g2
   refine rF 0 ?_
   refine rG (fun _ => ?_) (ncf g2)
   refine rL ?_
   refine rG (fun _ => ?_) (ncf g2)
   refine rM ?_
   refine rG (fun _ => ?_) (ncf g2)
   refine r_op (o_call 1 1 false (en Tryz.func183) (c_impl_areAtoms (rs) (l) (3) (by omega) (by omega)) rfl (.cons rfl (.c .t0) (.cons rfl (.c .t0) (.cons rfl (.c .t0) .nil))) rfl rfl rfl) ?_
   refine rG (fun _ => ?_) (nc g1)
   refine r_op (o_pickF rfl rfl g2 rfl) ?_
   refine r_op (o_pickT rfl rfl g1 rfl) ?_
   refine rA<|r_end ?_
   refine tk Tryz.func152 (.tmp rfl .nil) ?_
   all_goals (refine scB ?_; clear hrs hfs hll ho gl; unfold mtOk; (try unfold atomsOk at *); grind)
  ·
   have g2' := of_decide_eq_true g2
   refine rG (nc g2) (fun _ => ?_)
   refine rG (nc g2) (fun _ => ?_)
   refine rG (nc g2) (fun _ => ?_)
   refine rG (fun _ => ?_) (nc g1)
   refine r_op (o_pickT rfl rfl g2 rfl) ?_
   refine r_op (o_pickT rfl rfl g1 rfl) ?_
   refine rA<|r_end ?_
   refine tk Tryz.func152 (.tmp rfl .nil) ?_
   all_goals (refine scB ?_; clear hrs hfs hll ho gl; unfold mtOk; (try unfold atomsOk at *); grind)
 ·
  have g1' := g1
  refine rG (ncf g1) (fun _ => ?_)
  refine rG (ncf g1) (fun _ => ?_)
  refine rG (ncf g1) (fun _ => ?_)
  refine r_skip rfl rfl rfl ?_
  refine r_skip rfl rfl rfl ?_
  refine r_skip rfl rfl rfl ?_
  refine r_skip rfl rfl rfl ?_
  refine rG (ncf g1) (fun _ => ?_)
  refine r_op (o_pickF rfl rfl g1 rfl) ?_
  refine rA<|r_end ?_
  refine tk Tryz.func152 (.tmp rfl .nil) ?_
  all_goals (refine scB ?_; clear hrs hfs hll ho gl; unfold mtOk; (try unfold atomsOk at *); grind)
theorem c_math_bits_Mul64  : Pu Tryz.prog 246 [.c (.t none (.v (.int .u64 (1)))), .c (.t none (.v (.int .u64 (5))))] [] 0 (.tup [(false, [.t none (.v (.int .u64 (0)))]), (false, [.t none (.v (.int .u64 (5)))])]) := by
 refine pu_enter Tryz.func246 rfl (Nat.le_of_ble_eq_true rfl) fun w S => ?_
 refine tsr<|rA ?_
 refine rA<|etr ?_
 refine rM ?_
 refine r_op (o_binD rfl rfl rfl (rfl)) ?_
 refine rA<|etr ?_
 refine rM ?_
 refine r_op (o_sh rfl rfl rfl (rfl)) ?_
 refine rA<|etr ?_
 refine rM ?_
 refine r_op (o_binD rfl rfl rfl (rfl)) ?_
 refine rA<|etr ?_
 refine rM ?_
 refine r_op (o_sh rfl rfl rfl (rfl)) ?_
 refine rA<|etr ?_
 refine rM ?_
 refine rM ?_
 refine rB ?_
 refine rA<|etr ?_
 refine rM ?_
 refine rM ?_
 refine rB ?_
 refine rM ?_
 refine r_op (o_sh rfl rfl rfl (rfl)) ?_
 refine rB ?_
 refine rA<|etr ?_
 refine rM ?_
 refine r_op (o_binD rfl rfl rfl (rfl)) ?_
 refine rA<|etr ?_
 refine rM ?_
 refine r_op (o_sh rfl rfl rfl (rfl)) ?_
 refine rA<|etr ?_
 refine rM ?_
 refine rM ?_
 refine rM ?_
 refine rB ?_
 refine rB ?_
 refine rA<|etr ?_
 refine rM ?_
 refine rM ?_
 refine rB ?_
 refine rM ?_
 refine rB ?_
 refine rM ?_
 refine r_op (o_sh rfl rfl rfl (rfl)) ?_
 refine rB ?_
 refine rA<|etr ?_
 refine rM ?_
 refine rM ?_
 refine rB ?_
 refine rA<|r_end ?_
 refine tk Tryz.func246 (.tmp rfl (.tmp rfl .nil)) ?_
 all_goals (rfl)
theorem c_math_bits_Mul  : Pu Tryz.prog 240 [.c (.t none (.v (.int .u64 (1)))), .c (.t none (.v (.int .u64 (5))))] [] 0 (.tup [(false, [.t none (.v (.int .u64 (0)))]), (false, [.t none (.v (.int .u64 (5)))])]) := by
 refine pu_enter Tryz.func240 rfl (Nat.le_of_ble_eq_true rfl) fun w S => ?_
 refine tsr<|rA ?_
 refine rA<|r_end<|t_seq ?_
 refine t_cond rfl (fun h' => Bool.noConfusion h') (fun _ => ?_)
 refine t_skip<|tsr<|rM ?_
 refine rM ?_
 refine r_op (o_call 0 0 false (en Tryz.func246) (c_math_bits_Mul64 ) rfl (.cons rfl (.c .t0) (.cons rfl (.c .t0) .nil)) rfl rfl rfl) ?_
 refine rM ?_
 refine r_op (o_extract rfl rfl rfl rfl) ?_
 refine r_op (o_extract rfl rfl rfl rfl) ?_
 refine rA ?_
 refine rA<|etr ?_
 refine rM ?_
 refine rM ?_
 refine rA ?_
 refine rA<|r_end ?_
 refine tk Tryz.func240 (.tmp rfl (.tmp rfl .nil)) ?_
 all_goals (rfl)
theorem c_slices_Repeat___int_int_  : Pu Tryz.prog 227 [.c (.t none (.sl 1 encI ([10]))), .c (.t none (.v (.int .i64 (5))))] [(0, some (.row none 3 true 1 encI (freeB)))] 1 (.c (.own 0)) := by
 refine pu_enter Tryz.func227 rfl (Nat.le_of_ble_eq_true rfl) fun w S => ?_
 refine tsr<|rA<|r_end<|t_seq<|tsr ?_
 refine rM ?_
 refine rB<|r_end ?_
 refine t_cond rfl (fun h1 => ?_) (fun h1 => ?_)
 ·
  have h1' := of_decide_eq_true h1
  exfalso; omega
 ·
  have h1' := of_decide_eq_false h1
  refine t_skip<|tsr<|rM ?_
  refine r_op (o_len rfl rfl rfl) ?_
  refine r_op (o_conv rfl Tryz.underlying3 Tryz.underlying174 rfl) ?_
  refine rM ?_
  refine r_op (o_conv rfl Tryz.underlying3 Tryz.underlying174 rfl) ?_
  refine r_op (o_call 0 0 false (en Tryz.func240) (c_math_bits_Mul ) rfl (.cons rfl (.c .t0) (.cons rfl (.c .t0) .nil)) rfl rfl rfl) ?_
  refine rM ?_
  refine r_op (o_extract rfl rfl rfl rfl) ?_
  refine r_op (o_extract rfl rfl rfl rfl) ?_
  refine rA ?_
  refine rA<|r_end<|t_seq<|tsr ?_
  refine rM ?_
  refine rB ?_
  refine rM ?_
  refine rG (fun _ => ?_) (ncf rfl)
  refine rM ?_
  refine rG (fun _ => ?_) (ncf rfl)
  refine rB ?_
  refine r_op (o_pickF rfl rfl rfl rfl) ?_
  refine r_end ?_
  refine t_cond rfl (ncf rfl) (fun _ => ?_)
  refine t_skip<|tsr<|rM ?_
  refine r_op (o_conv rfl Tryz.underlying174 Tryz.underlying3 rfl) ?_
  refine r_op (o_make 0 true (et := 3) (sz := 1) (by' := 8) encI (0) (zs := [.int .i64 (0)]) rfl rfl (by kernel_rfl) (by kernel_rfl) rfl rfl (.cons (.v rfl) .nil) rfl rfl (by decide) (by decide) (by decide)) ?_
  refine rA<|etr ?_
  refine rM ?_
  refine rM ?_
  refine r_op (o_copyo (k := 1) rfl rfl rfl rfl Tryz.underlying29 (by kernel_rfl) (fun _ _ => ⟨_, rfl⟩) (by decide) (by decide)) ?_
  refine rA<|r_end<|t_seq<|t_block ?_
  refine t_loopL (fun n => ⟨[(4, some (.c (.t none (.v (.slice none 0 0))))), (7, some (.c (.own 0))), (8, some (.c (.t none (.v (.int .i64 ((n : Int)))))))], [(0, some (.row none 3 true 1 encI (List.replicate n (10 : Int) ++ List.replicate (5 - n) 0)))], 1⟩ : Nat → St) (fun n => n = 1 ∨ n = 2 ∨ n = 4 ∨ n = 5) (fun n => 5 - n) 1 ⟨⟨rfl, ⟨rfl, ⟨rfl, trivial⟩⟩⟩, ⟨rfl, trivial⟩, rfl⟩ (by exact .inl rfl) ?_
  rintro n hI ih0
  try dsimp only at hI ih0
  have i1 := hI; have rl : (List.replicate n (10 : Int) ++ List.replicate (5 - n) 0).length = 5 := (by simp; omega)
  refine t_seq<|tsr<|rM ?_
  refine rM ?_
  refine r_op (o_leno rfl rfl rfl rfl) ?_
  refine rB<|r_end ?_
  refine t_cond rfl (fun h2 => ?_) (fun h2 => ?_)
  ·
   have h2' := of_decide_eq_true h2
   refine t_skip<|t_block ?_
   refine t_draw (fun i => !(Nat.beq i 7)) (by kernel_rfl) ?_
   refine dT 1 rfl pM ?_
   refine dT 2 rfl pM ?_
   refine dT 3 rfl (p_subvl (by kernel_rfl) rfl rfl rfl (by omega) (by omega)) ?_
   refine dT 4 rfl pM ?_
   refine dT 5 rfl pM ?_
   refine dT 6 rfl (p_subo (by kernel_rfl) rfl rfl (.h rfl (by omega) (by omega))) ?_
   refine d_two 0 7 rfl rfl (by kernel_rfl) rfl rfl oM (o_copyv (α := Int) (off := ((n : Int)).toNat) (n := ((List.replicate n (10 : Int) ++ List.replicate (5 - n) 0).length - ((n : Int)).toNat)) (xs := List.replicate n (10 : Int) ++ List.replicate (5 - n) 0) (ys := ((List.replicate n (10 : Int) ++ List.replicate (5 - n) 0).take ((n : Int)).toNat).drop 0) (k := (min n (5 - n))) rfl rfl rfl rfl Tryz.underlying29 (by kernel_rfl) (fun _ _ => ⟨_, rfl⟩) (by (show _ = min _ _; simp; done)) (by omega) (by omega)) ?_ ?_
   ·
    refine dO 7 rfl (o_copyv (α := Int) (off := ((n : Int)).toNat) (n := ((List.replicate n (10 : Int) ++ List.replicate (5 - n) 0).length - ((n : Int)).toNat)) (xs := List.replicate n (10 : Int) ++ List.replicate (5 - n) 0) (ys := ((List.replicate n (10 : Int) ++ List.replicate (5 - n) 0).take ((n : Int)).toNat).drop 0) (k := (min n (5 - n))) rfl rfl rfl rfl Tryz.underlying29 (by kernel_rfl) (fun _ _ => ⟨_, rfl⟩) (by (show _ = min _ _; simp; done)) (by omega) (by omega)) ?_
    refine dT 8 rfl pB ?_
    refine dT 9 rfl pA ?_
    refine d_end (by kernel_rfl) ?_
    refine t_endblock ?_
    refine t_le ?_ (ih0 (n + min n (5 - n)) (by (try dsimp only); omega) (by (try dsimp only); omega))
    exact ⟨⟨rfl, ⟨rfl, ⟨(eqI (by rw [wr64 (by omega) (by omega)]; omega)), trivial⟩⟩⟩, ⟨(eqR (loop_five (by omega))), trivial⟩, rfl⟩
   ·
    refine dT 0 rfl pM ?_
    refine dT 8 rfl pB ?_
    refine dT 9 rfl pA ?_
    refine d_end (by kernel_rfl) ?_
    refine t_endblock ?_
    refine t_le ?_ (ih0 (n + min n (5 - n)) (by (try dsimp only); omega) (by (try dsimp only); omega))
    exact ⟨⟨rfl, ⟨rfl, ⟨(eqI (by rw [wr64 (by omega) (by omega)]; omega)), trivial⟩⟩⟩, ⟨(eqR (loop_five (by omega))), trivial⟩, rfl⟩
  ·
   have h2' := of_decide_eq_false h2
   refine t_exit rfl<|tsr<|rM ?_
   refine rA<|r_end ?_
   refine tk Tryz.func227 (.tmp rfl .nil) ?_ (hL := ⟨eqR ?_, trivial⟩) <;> (try clear ih0)
   all_goals first | rfl | ((obtain rfl : n = 5 := by omega); rfl)
end Go.Eng
