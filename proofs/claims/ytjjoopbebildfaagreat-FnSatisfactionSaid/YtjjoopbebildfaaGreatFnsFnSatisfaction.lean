/- What the functions that FnSatisfaction reaches answer. -/
import Derived.Test.YtjjoopbebildfaaGreatFnsFnSatisfactionp2
import Derived.Test.YtjjoopbebildfaaGreatEngZQ
import Derived.Test.YtjjoopbebildfaaGreatChecked
set_option linter.unusedVariables false
set_option linter.unusedSimpArgs false
namespace Go.Eng
open Go Go.RowKit Go.Proofs
set_option maxHeartbeats 1000000 in
set_option maxRecDepth 10000 in
theorem c_spec_l11Walk_n : ∀ (n : Nat) (rs : Rels) (fs l : Atoms) (k : Int) (b : List Int) (hf : fs.length ≤ 30) (hl : l.length ≤ 3) (hb : b.length = 5) (hv : ∀ a ∈ l, ∀ f ∈ fs, a.1 = f.1 → a.2.length = f.2.length) (ht : ∀ a ∈ l, (∀ t ∈ a.2, -10 ≤ t ∧ t ≤ 4) ∧ a.2.length ≤ 4611686018427387904) (hk : 0 ≤ k ∧ k ≤ l.length) (hn : l.length - k.toNat = n), Pu Tryz.prog 54 [.agg [.t none (.sl 3 (enS3 encS encI encB) (rs)), .t none (.sl 2 (enS2 encI (enSl 1 encI)) (fs))], .c (.t none (.sl 2 (enS2 encI (enSl 1 encI)) (l))), .c (.t none (.v (.int .i64 (k)))), .c (.t none (.sl 1 encI (b)))] [(0, some (.row none 34 true 1 (enSl 1 encI) (matchL fs (l.drop k.toNat) b)))] 1 (.c (.own 0)) := by
 refine rec_on fun n ih => ?_
 intro rs fs l k b hf hl hb hv ht hk hn
 have rec_ : ∀ (rs : Rels) (fs l : Atoms) (k : Int) (b : List Int) (hdec : l.length - k.toNat < n) (hf : fs.length ≤ 30) (hl : l.length ≤ 3) (hb : b.length = 5) (hv : ∀ a ∈ l, ∀ f ∈ fs, a.1 = f.1 → a.2.length = f.2.length) (ht : ∀ a ∈ l, (∀ t ∈ a.2, -10 ≤ t ∧ t ≤ 4) ∧ a.2.length ≤ 4611686018427387904) (hk : 0 ≤ k ∧ k ≤ l.length), Pu Tryz.prog 54 [.agg [.t none (.sl 3 (enS3 encS encI encB) (rs)), .t none (.sl 2 (enS2 encI (enSl 1 encI)) (fs))], .c (.t none (.sl 2 (enS2 encI (enSl 1 encI)) (l))), .c (.t none (.v (.int .i64 (k)))), .c (.t none (.sl 1 encI (b)))] [(0, some (.row none 34 true 1 (enSl 1 encI) (matchL fs (l.drop k.toNat) b)))] 1 (.c (.own 0)) := fun rs fs l k b hdec hf hl hb hv ht hk => ih _ hdec rs fs l k b hf hl hb hv ht hk rfl
 refine pu_enter Tryz.func54 rfl (Nat.le_of_ble_eq_true rfl) fun w S => ?_
 refine tsr ?_
 refine r_op (o_box 0 rfl rfl rfl rfl) ?_
 refine r_op oA ?_
 refine r_end ?_
 refine t_seq ?_
 refine tsr ?_
 refine r_op oM ?_
 refine r_op oM ?_
 refine r_op (o_len rfl rfl rfl) ?_
 refine r_op oB ?_
 refine r_end ?_
 refine t_cond rfl (fun h1 => ?_) (fun h1 => ?_)
 ·
  have h1' := of_decide_eq_true h1
  refine tsr ?_
  refine r_op (o_lit0 1 (e := 3) (sz := 1) (zs := [.int .i64 (0)]) encI rfl rfl (by kernel_rfl) rfl) ?_
  refine r_op oM ?_
  refine r_op (o_appendS 1 (e := 3) (sz := 1) (by' := 8) rfl (by kernel_rfl) rfl rfl rfl rfl (fun _ _ => ⟨_, rfl⟩) (by (simp; omega)) (by (simp; omega))) ?_
  refine r_op (o_lit2 2 (e := 34) (sz := 1) (zs := [.slice none 0 0]) (enc := (enSl 1 encI)) (([]) ++ b) rfl rfl (by kernel_rfl) rfl rfl rfl rfl rfl rfl (.take (.own rfl) rfl .nil) rfl) ?_
  refine r_op oA ?_
  refine r_end ?_
  refine gt_as0 8 2 rfl rfl ?_
  refine t_ret Tryz.func54 (.tmp rfl .nil) rfl fun E S w u hI hd => ?_
  refine post_mk hI hd ?_ ⟨eqR ?_, trivial⟩ rfl rfl rfl <;> clear hI hd <;> (try clear ih0)
  all_goals first | rfl | ((exact (walk_nil (by assumption)).symm))
 ·
  have h1' := of_decide_eq_false h1
  refine t_skip ?_
  refine tsr ?_
  refine r_op (o_lit0 1 (e := 34) (sz := 1) (zs := [.slice none 0 0]) (enSl 1 encI) rfl rfl (by kernel_rfl) rfl) ?_
  refine r_op oA ?_
  refine r_end ?_
  refine t_seq ?_
  refine tsr ?_
  refine r_op oA ?_
  refine r_end ?_
  refine t_block ?_
  refine t_loopL (fun m => ⟨[(1, some (.c (.t none (.sl 2 (enS2 encI (enSl 1 encI)) (l))))), (2, some (.c (.t none (.v (.int .i64 (k)))))), (3, some (.c (.t none (.sl 1 encI (b))))), (4, some (.c (.ptr 0 0))), (8, some (.c (.t none (.v (.slice none 0 0))))), (9, some (.c (.own 1))), (10, some (.c (.t none (.v (.int .i64 ((m : Int)))))))], [(0, some (.box [.t none (.sl 3 (enS3 encS encI encB) (rs)), .t none (.sl 2 (enS2 encI (enSl 1 encI)) (fs))])), (1, some (.row none 34 true 1 (enSl 1 encI) (matchM fs (l.drop k.toNat) b m)))], 2⟩ : Nat → St) (fun m => m ≤ fs.length) (fun m => fs.length - m) 0 ⟨⟨rfl, ⟨rfl, ⟨rfl, ⟨rfl, ⟨rfl, ⟨rfl, ⟨rfl, trivial⟩⟩⟩⟩⟩⟩⟩, ⟨rfl, ⟨(eqR (walk_z (by assumption) hk).symm), trivial⟩⟩, rfl⟩ (by exact Nat.zero_le _) ?_
  rintro m hI ih0
  try dsimp only at hI ih0
  have i1 := hI
  refine t_seq ?_
  refine tsr ?_
  refine r_op oM ?_
  refine r_op (oF 1) ?_
  refine r_op oL ?_
  refine r_op (o_len rfl rfl rfl) ?_
  refine r_op oB ?_
  refine r_end ?_
  refine t_cond rfl (fun h2 => ?_) (fun h2 => ?_)
  ·
   have h2' := of_decide_eq_true h2
   refine t_skip ?_
   refine t_seq ?_
   refine t_block ?_
   refine t_seq ?_
   refine t_draw (fun _ => true) (by kernel_rfl) ?_
   refine dT 0 rfl pM ?_
   refine dT 1 rfl pM ?_
   obtain ⟨z3, hz4, b5⟩ := at_get (xs := l) (n := k) (by omega) (by omega)
   refine dT 2 rfl (p_index (by kernel_rfl) rfl rfl b5 hz4) ?_
   refine dT 3 rfl (p_loadA (n := 2) (by kernel_rfl) (by kernel_rfl) rfl rfl) ?_
   refine dT 4 rfl (pF 1) ?_
   refine dT 5 rfl pL ?_
   refine dT 6 rfl pM ?_
   obtain ⟨z6, hz7, b8⟩ := at_get (xs := fs) (n := (m : Int)) (by omega) (by omega)
   refine dT 7 rfl (p_index (by kernel_rfl) rfl rfl b8 hz7) ?_
   refine dT 8 rfl (p_loadA (n := 2) (by kernel_rfl) (by kernel_rfl) rfl rfl) ?_
   refine dT 9 rfl pM ?_
   refine dO 10 rfl (o_call 2 3 false (Go.Proofs.enters_of Tryz.func116 (by kernel_rfl) rfl) (c_spec_l11Fit (b) (z3.1) (z3.2) (z6.1) (z6.2) (by omega) (by exact (ht _ (List.mem_of_getElem? (by assumption))).2) (by exact (ht _ (List.mem_of_getElem? (by assumption))).1) (by exact hv _ (List.mem_of_getElem? (by assumption)) _ (List.mem_of_getElem? (by assumption)))) rfl (.cons rfl (.agg (.cons .t0 (.cons .t0 .nil))) (.cons rfl (.agg (.cons .t0 (.cons .t0 .nil))) (.cons rfl (.c .t0) .nil))) rfl rfl rfl) ?_
   refine dT 11 rfl pM ?_
   refine dT 12 rfl (p_extract rfl rfl rfl) ?_
   refine dT 13 rfl (p_extract rfl rfl rfl) ?_
   refine dT 14 rfl pA ?_
   refine dT 15 rfl pA ?_
   refine d_end (by kernel_rfl) ?_
   refine tsr ?_
   refine r_op oM ?_
   refine r_end ?_
   refine t_cond rfl (fun h9 => ?_) (fun h9 => ?_)
   ·
    have h9' := h9
    refine t_region ?_
    refine r_op oM ?_
    refine r_op (oC 2) ?_
    refine r_op oM ?_
    refine r_op oM ?_
    refine r_op oB ?_
    refine r_op oM ?_
    refine r_op (o_call 3 4 false (Go.Proofs.enters_of Tryz.func54 (by kernel_rfl) rfl) (rec_ (rs) (fs) (l) (IntKind.i64.wrap (k + 1)) ((fitF ((z3.1), (z3.2)) ((z6.1), (z6.2)) (b)).1) (by (rw [wr64 (by omega) (by omega)]; omega)) (by omega) (by omega) (by exact (fitF_len _ _ _).trans hb) (by omega) (by omega) (by (rw [wr64 (by omega) (by omega)]; omega))) rfl (.cons rfl (.agg (.cons .t0 (.cons .t0 .nil))) (.cons rfl (.c .t0) (.cons rfl (.c .t0) (.cons rfl (.c (.own rfl)) .nil)))) rfl rfl rfl) ?_
    refine r_op (o_appendD 1 (e := 34) (sz := 1) (by' := 24) rfl (by kernel_rfl) rfl rfl rfl rfl rfl rfl (by (refine Nat.le_trans (Nat.mul_le_mul_right _ (room_w hf hl (by assumption) hk (by simp only [List.length_drop]; omega))) (by decide))) (by exact Nat.le_trans (room_w hf hl (by assumption) hk (by simp only [List.length_drop]; omega)) (by decide))) ?_
    refine r_op oA ?_
    refine r_end ?_
    refine t_endblock ?_
    refine t_region ?_
    refine r_op oM ?_
    refine r_op oB ?_
    refine r_op oA ?_
    refine r_end ?_
    refine t_le ?_ (ih0 (m + 1) (by (try dsimp only); omega) (by (try dsimp only); omega))
    exact ⟨⟨rfl, ⟨rfl, ⟨rfl, ⟨rfl, ⟨rfl, ⟨rfl, ⟨(eqI (wr64 (by omega) (by omega))), trivial⟩⟩⟩⟩⟩⟩⟩, ⟨rfl, ⟨(eqR (by exact walk_yes hz4 hz7 rfl (by assumption) (by rw [wr64 (by omega) (by omega)]; omega) rfl)), trivial⟩⟩, rfl⟩
   ·
    have h9' := h9
    refine t_skip ?_
    refine t_endblock ?_
    refine t_region ?_
    refine r_op oM ?_
    refine r_op oB ?_
    refine r_op oA ?_
    refine r_end ?_
    refine t_le ?_ (ih0 (m + 1) (by (try dsimp only); omega) (by (try dsimp only); omega))
    exact ⟨⟨rfl, ⟨rfl, ⟨rfl, ⟨rfl, ⟨rfl, ⟨rfl, ⟨(eqI (wr64 (by omega) (by omega))), trivial⟩⟩⟩⟩⟩⟩⟩, ⟨rfl, ⟨(eqR (by exact walk_no hz4 hz7 rfl (by assumption))), trivial⟩⟩, rfl⟩
  ·
   have h2' := of_decide_eq_false h2
   refine t_exit rfl ?_
   refine tsr ?_
   refine r_op oM ?_
   refine r_op oA ?_
   refine r_end ?_
   refine gt_as0 8 1 rfl rfl ?_
   refine t_ret Tryz.func54 (.tmp rfl .nil) rfl fun E S w u hI hd => ?_
   refine post_mk hI hd ?_ ⟨eqR ?_, trivial⟩ rfl rfl rfl <;> clear hI hd <;> (try clear ih0)
   all_goals first | rfl | ((exact matchM_end (drop_ne (by assumption) hk) (by omega)))
theorem c_spec_l11Walk (rs : Rels) (fs l : Atoms) (k : Int) (b : List Int) (hf : fs.length ≤ 30) (hl : l.length ≤ 3) (hb : b.length = 5) (hv : ∀ a ∈ l, ∀ f ∈ fs, a.1 = f.1 → a.2.length = f.2.length) (ht : ∀ a ∈ l, (∀ t ∈ a.2, -10 ≤ t ∧ t ≤ 4) ∧ a.2.length ≤ 4611686018427387904) (hk : 0 ≤ k ∧ k ≤ l.length) : Pu Tryz.prog 54 [.agg [.t none (.sl 3 (enS3 encS encI encB) (rs)), .t none (.sl 2 (enS2 encI (enSl 1 encI)) (fs))], .c (.t none (.sl 2 (enS2 encI (enSl 1 encI)) (l))), .c (.t none (.v (.int .i64 (k)))), .c (.t none (.sl 1 encI (b)))] [(0, some (.row none 34 true 1 (enSl 1 encI) (matchL fs (l.drop k.toNat) b)))] 1 (.c (.own 0)) := c_spec_l11Walk_n _ rs fs l k b hf hl hb hv ht hk rfl
set_option maxHeartbeats 1000000 in
set_option maxRecDepth 10000 in
theorem c_spec_FindMatches (rs : Rels) (fs l : Atoms) (hrs : rs.length ≤ 4611686018427387904) (hfs : szS (fun (x : Int × (List (Int))) => (x.2).length) fs ≤ 1048576) (hll : szS (fun (x : Int × (List (Int))) => (x.2).length) l ≤ 1048576) (ho : ∀ z ∈ fs, ∀ x ∈ z.2, okI x) : Pu Tryz.prog 11 [.agg [.t none (.sl 3 (enS3 encS encI encB) (rs)), .t none (.sl 2 (enS2 encI (enSl 1 encI)) (fs))], .c (.t none (.sl 2 (enS2 encI (enSl 1 encI)) (l)))] [(1, some (.row none 34 true 1 (enSl 1 encI) (findL rs fs l)))] 2 (.c (.own 1)) := by
 refine pu_enter Tryz.func11 rfl (Nat.le_of_ble_eq_true rfl) fun w S => ?_
 refine tsr ?_
 refine r_op (o_box 0 rfl rfl rfl rfl) ?_
 refine r_op oA ?_
 refine etr ?_
 refine r_op (o_lit0 1 (e := 34) (sz := 1) (zs := [.slice none 0 0]) (enSl 1 encI) rfl rfl (by kernel_rfl) rfl) ?_
 refine r_op oA ?_
 refine r_end ?_
 refine t_seq ?_
 refine tsr ?_
 refine r_op (oC 2) ?_
 refine r_op oM ?_
 refine r_op (o_call 2 2 false (Go.Proofs.enters_of Tryz.func53 (by kernel_rfl) rfl) (c_spec_l11Ok (rs) (fs) (l) (by omega) (by omega) (by omega) (by omega)) rfl (.cons rfl (.agg (.cons .t0 (.cons .t0 .nil))) (.cons rfl (.c .t0) .nil)) rfl rfl rfl) ?_
 refine r_op (o_not rfl rfl) ?_
 refine r_end ?_
 refine t_cond rfl (fun h1 => ?_) (fun h1 => ?_)
 ·
  have h1' := (bnt h1)
  refine tsr ?_
  refine r_op oM ?_
  refine r_op oA ?_
  refine r_end ?_
  refine t_ret Tryz.func11 (.tmp rfl .nil) rfl fun E S w u hI hd => ?_
  refine post_mk hI hd ?_ ⟨eqR ?_, trivial⟩ rfl rfl rfl <;> clear hI hd <;> (try clear ih0) <;> (try clear ih1)
  all_goals first | rfl | ((exact findL_no (by simp_all; done)))
 ·
  have h1' := (bnf h1)
  refine t_skip ?_
  refine t_seq ?_
  refine t_draw (fun _ => true) (by kernel_rfl) ?_
  refine dT 0 rfl (pC 2) ?_
  refine dT 1 rfl pM ?_
  refine dO 2 rfl (o_call 2 3 false (Go.Proofs.enters_of Tryz.func55 (by kernel_rfl) rfl) (c_spec_l11Blank ) rfl .nil rfl rfl rfl) ?_
  refine dO 3 rfl (o_call 3 4 false (Go.Proofs.enters_of Tryz.func54 (by kernel_rfl) rfl) (c_spec_l11Walk (rs) (fs) (l) (0) (freeB) (by exact (mt_pre (by assumption)).1) (by exact (mt_pre (by assumption)).2.1) (by rfl) (by exact (mt_pre (by assumption)).2.2.1) (by exact (mt_pre (by assumption)).2.2.2) (by omega)) rfl (.cons rfl (.agg (.cons .t0 (.cons .t0 .nil))) (.cons rfl (.c .t0) (.cons rfl (.c .t0) (.cons rfl (.c (.own rfl)) .nil)))) rfl rfl rfl) ?_
  refine dT 4 rfl pA ?_
  refine d_end (by kernel_rfl) ?_
  refine t_seq ?_
  refine tsr ?_
  refine r_op oA ?_
  refine r_end ?_
  refine t_block ?_
  refine gt_sum 3 rfl ?_
  refine t_loopL (fun (vs, m) => ⟨[(4, some (.c (.t none (.v (.slice none 0 0))))), (5, some (.c (.own 1))), (6, some (.c (.own 3))), (7, some (.c (.t none (.v (.int .i64 ((m : Int)))))))], [(0, some (.box [.t none (.sl 3 (enS3 encS encI encB) (rs)), .t none (.sl 2 (enS2 encI (enSl 1 encI)) (fs))])), (1, some (.row none 34 true 1 (enSl 1 encI) (dedL ((matchL fs l freeB).take m)))), (2, some (.row none 3 true 1 encI (freeB))), (3, some (.row none 34 true 1 (encK (enSl 1 encI)) (tkL vs (matchL fs l freeB))))], 4⟩ : List Value × Nat → St) (fun (vs, m) => vs.length = m ∧ m ≤ (matchL fs l freeB).length) (fun (vs, m) => (matchL fs l freeB).length - m) ([], 0) ⟨⟨rfl, ⟨rfl, ⟨rfl, ⟨rfl, trivial⟩⟩⟩⟩, ⟨rfl, ⟨rfl, ⟨rfl, ⟨rfl, trivial⟩⟩⟩⟩, rfl⟩ (by exact ⟨rfl, Nat.zero_le _⟩) ?_
  rintro ⟨vs, m⟩ hI ih0
  try dsimp only at hI ih0
  obtain ⟨i0, i1⟩ := hI; have mp := mt_pre (rs := rs) (fs := fs) (l := l) (by assumption); have dr := ded_room (m := m) mp.1 mp.2.1; have tl := tkL_len (vs := vs) (L := matchL fs l freeB) (by omega); have mm := matchL_most mp.1 mp.2.1 freeB
  refine t_seq ?_
  refine tsr ?_
  refine r_op oM ?_
  refine r_op oM ?_
  refine r_op (o_leno rfl rfl rfl rfl) ?_
  refine r_op oB ?_
  refine r_end ?_
  refine t_cond rfl (fun h2 => ?_) (fun h2 => ?_)
  ·
   have h2' := of_decide_eq_true h2
   refine t_skip ?_
   refine t_seq ?_
   refine t_block ?_
   refine t_seq ?_
   obtain ⟨z3, hz4, b5⟩ := at_get (xs := matchL fs l freeB) (n := (m : Int)) (by omega) (by omega)
   refine gt_take0 4 3 rfl rfl (tkL_at (by omega) hz4) fun e6 v7 => ?_
   refine t_region ?_
   refine r_op oA ?_
   refine r_end ?_
   refine t_seq ?_
   refine tsr ?_
   refine r_op oA ?_
   refine r_end ?_
   refine t_block ?_
   refine t_loopL (fun n => ⟨[(4, some (.c (.t none (.v (.slice none 0 0))))), (5, some (.c (.own 1))), (6, some (.c (.own 3))), (7, some (.c (.t none (.v (.int .i64 ((m : Int))))))), (8, some (.c (.t none (.v (.bool (hasR ((dedL ((matchL fs l freeB).take m)).take n) z3)))))), (9, some (.c (.t none (.v (.int .i64 ((n : Int)))))))], [(0, some (.box [.t none (.sl 3 (enS3 encS encI encB) (rs)), .t none (.sl 2 (enS2 encI (enSl 1 encI)) (fs))])), (1, some (.row none 34 true 1 (enSl 1 encI) (dedL ((matchL fs l freeB).take m)))), (2, some (.row none 3 true 1 encI (freeB))), (3, some (.row none 34 true 1 (encK (enSl 1 encI)) ((tkL vs (matchL fs l freeB)).set (m : Int).toNat (.inl v7)))), (4, some (.row (some v7) e6 true 1 encI (z3)))], 5⟩ : Nat → St) (fun n => n ≤ (dedL ((matchL fs l freeB).take m)).length) (fun n => (dedL ((matchL fs l freeB).take m)).length - n) 0 ⟨⟨rfl, ⟨rfl, ⟨rfl, ⟨rfl, ⟨(eqBo hasR_zero.symm), ⟨rfl, trivial⟩⟩⟩⟩⟩⟩, ⟨rfl, ⟨rfl, ⟨rfl, ⟨rfl, ⟨rfl, trivial⟩⟩⟩⟩⟩, rfl⟩ (by exact Nat.zero_le _) ?_
   rintro n hI ih1
   try dsimp only at hI ih1
   have j1 := hI
   refine t_seq ?_
   refine tsr ?_
   refine r_op oM ?_
   refine r_op oM ?_
   refine r_op (o_leno rfl rfl rfl rfl) ?_
   refine r_op oB ?_
   refine r_end ?_
   refine t_cond rfl (fun h8 => ?_) (fun h8 => ?_)
   ·
    have h8' := of_decide_eq_true h8
    refine t_skip ?_
    refine t_seq ?_
    refine t_block ?_
    refine t_draw (fun _ => true) (by kernel_rfl) ?_
    refine dT 0 rfl pM ?_
    refine dT 1 rfl pM ?_
    refine dH 2 rfl (fun _ => pM) (fun g9 => ?_) (fun g9 => ?_)
    ·
     have g9' := g9
     refine dH 3 rfl (fun _ => pM) (fun _ => ?_) (ncf g9)
     obtain ⟨z10, hz11, b12⟩ := at_get (xs := dedL ((matchL fs l freeB).take m)) (n := (n : Int)) (by omega) (by omega)
     refine dH 4 rfl (fun _ => p_indexo (by kernel_rfl) rfl rfl rfl b12 (at_lt b12 hz11)) (fun _ => ?_) (ncf g9)
     refine dH 5 rfl (fun _ => p_load1o (by kernel_rfl) rfl rfl rfl hz11) (fun _ => ?_) (ncf g9)
     refine dH 6 rfl (fun _ => pM) (fun _ => ?_) (ncf g9)
     refine dH 7 rfl (fun _ => pM) (fun _ => ?_) (ncf g9)
     obtain ⟨z13, hz14, b15⟩ := at_get (xs := (tkL vs (matchL fs l freeB)).set (m : Int).toNat (.inl v7)) (n := (m : Int)) (by omega) (by (rw [List.length_set]; omega))
     refine dH 8 rfl (fun _ => p_indexo (by kernel_rfl) rfl rfl rfl b15 (at_lt b15 hz14)) (fun _ => ?_) (ncf g9)
     refine dH 9 rfl (fun _ => p_loadpin (k := 4) (o := 0) (by kernel_rfl) rfl rfl (tk_got (by omega) (by omega)) rfl) (fun _ => ?_) (ncf g9)
     refine d_onlyG 10 rfl rfl (by kernel_rfl) rfl rfl rfl (fun _ => (o_call 5 5 false (Go.Proofs.enters_of Tryz.func56 (by kernel_rfl) rfl) (c_spec_l4Ints (z10) (z3) (by (have e5 := ded_five (List.mem_of_getElem? (by assumption)); omega)) (by (have e5 := matchL_five fs l freeB _ (List.mem_of_getElem? (by assumption)); have e6 : freeB.length = 5 := rfl; omega))) rfl (.cons rfl (.c .t1) (.cons rfl (.c (.own rfl)) .nil)) rfl rfl rfl)) (fun _ => ?_) (ncf g9)
     refine dH 11 rfl (fun _ => pB) (fun _ => ?_) (ncf g9)
     refine dT 12 rfl (p_pickF rfl g9 rfl) ?_
     refine dT 13 rfl pA ?_
     refine d_end (by kernel_rfl) ?_
     refine t_endblock ?_
     refine t_region ?_
     refine r_op oM ?_
     refine r_op oB ?_
     refine r_op oA ?_
     refine r_end ?_
     refine t_le ?_ (ih1 (n + 1) (by (try dsimp only); omega) (by (try dsimp only); omega))
     exact ⟨⟨rfl, ⟨rfl, ⟨rfl, ⟨rfl, ⟨(eqBo (by exact hasR_new (by assumption) hz11 rfl)), ⟨(eqI (wr64 (by omega) (by omega))), trivial⟩⟩⟩⟩⟩⟩, ⟨rfl, ⟨rfl, ⟨rfl, ⟨rfl, ⟨rfl, trivial⟩⟩⟩⟩⟩, rfl⟩
    ·
     have g9' := g9
     refine dG 3 (nc g9) (fun _ => ?_)
     refine dG 4 (nc g9) (fun _ => ?_)
     refine dG 5 (nc g9) (fun _ => ?_)
     refine dG 6 (nc g9) (fun _ => ?_)
     refine dG 7 (nc g9) (fun _ => ?_)
     refine dG 8 (nc g9) (fun _ => ?_)
     refine dG 9 (nc g9) (fun _ => ?_)
     refine dG 10 (nc g9) (fun _ => ?_)
     refine dG 11 (nc g9) (fun _ => ?_)
     refine dT 12 rfl (p_pickT rfl g9 rfl) ?_
     refine dT 13 rfl pA ?_
     refine d_end (by kernel_rfl) ?_
     refine t_endblock ?_
     refine t_region ?_
     refine r_op oM ?_
     refine r_op oB ?_
     refine r_op oA ?_
     refine r_end ?_
     refine t_le ?_ (ih1 (n + 1) (by (try dsimp only); omega) (by (try dsimp only); omega))
     exact ⟨⟨rfl, ⟨rfl, ⟨rfl, ⟨rfl, ⟨(eqBo (by exact hasR_more (by assumption))), ⟨(eqI (wr64 (by omega) (by omega))), trivial⟩⟩⟩⟩⟩⟩, ⟨rfl, ⟨rfl, ⟨rfl, ⟨rfl, ⟨rfl, trivial⟩⟩⟩⟩⟩, rfl⟩
   ·
    have h8' := of_decide_eq_false h8
    refine t_exit rfl ?_
    refine tsr ?_
    refine r_op oM ?_
    refine r_op (o_not rfl rfl) ?_
    refine r_end ?_
    refine t_cond rfl (fun h16 => ?_) (fun h16 => ?_)
    ·
     have h16' := (bnt h16)
     refine t_region ?_
     refine r_op oM ?_
     refine r_op oM ?_
     refine r_op oM ?_
     obtain ⟨z17, hz18, b19⟩ := at_get (xs := (tkL vs (matchL fs l freeB)).set (m : Int).toNat (.inl v7)) (n := (m : Int)) (by omega) (by (rw [List.length_set]; omega))
     refine r_op (o_indexo rfl (by kernel_rfl) rfl rfl rfl b19 (at_lt b19 hz18)) ?_
     refine r_op (o_loadpin rfl (k := 4) (o := 0) (by kernel_rfl) rfl rfl (tk_got (by omega) (by omega)) rfl) ?_
     refine r_op (o_litS 5 (e := 34) (sz := 1) (zs := [.slice none 0 0]) rfl rfl (by kernel_rfl) rfl rfl rfl rfl rfl) ?_
     refine r_op (o_append 1 (e := 34) (sz := 1) (by' := 24) (z3) rfl (by kernel_rfl) rfl rfl rfl rfl rfl rfl (.take (.own rfl) rfl .nil) rfl (by omega) (by omega)) ?_
     refine r_op oA ?_
     refine r_end ?_
     refine t_endblock ?_
     refine t_region ?_
     refine r_op oM ?_
     refine r_op oB ?_
     refine r_op oA ?_
     refine r_end ?_
     have he := hasR_end (q := dedL ((matchL fs l freeB).take m)) (x := z3) (k := n) (by omega)
     refine t_le ?_ (ih0 (vs ++ [v7], m + 1) (by (try dsimp only); omega) (by (try dsimp only); exact ⟨by simp; omega, by omega⟩))
     exact ⟨⟨rfl, ⟨rfl, ⟨rfl, ⟨(eqI (wr64 (by omega) (by omega))), trivial⟩⟩⟩⟩, ⟨rfl, ⟨(eqR (by exact (ded_more hz4 rfl (he.symm.trans (by assumption))).symm)), ⟨rfl, ⟨(eqR (tkL_set i0 (by omega))), trivial⟩⟩⟩⟩, rfl⟩
    ·
     have h16' := (bnf h16)
     refine t_skip ?_
     refine t_endblock ?_
     refine t_region ?_
     refine r_op oM ?_
     refine r_op oB ?_
     refine r_op oA ?_
     refine r_end ?_
     have he := hasR_end (q := dedL ((matchL fs l freeB).take m)) (x := z3) (k := n) (by omega)
     refine t_le ?_ (ih0 (vs ++ [v7], m + 1) (by (try dsimp only); omega) (by (try dsimp only); exact ⟨by simp; omega, by omega⟩))
     exact ⟨⟨rfl, ⟨rfl, ⟨rfl, ⟨(eqI (wr64 (by omega) (by omega))), trivial⟩⟩⟩⟩, ⟨rfl, ⟨(eqR (by exact (ded_same hz4 rfl (he.symm.trans (by assumption))).symm)), ⟨rfl, ⟨(eqR (tkL_set i0 (by omega))), trivial⟩⟩⟩⟩, rfl⟩
  ·
   have h2' := of_decide_eq_false h2
   refine t_exit rfl ?_
   refine tsr ?_
   refine r_op oM ?_
   refine r_op oA ?_
   refine r_end ?_
   refine t_ret Tryz.func11 (.tmp rfl .nil) rfl fun E S w u hI hd => ?_
   refine post_mk hI hd ?_ ⟨eqR ?_, trivial⟩ rfl rfl rfl <;> clear hI hd <;> (try clear ih0) <;> (try clear ih1)
   all_goals first | rfl | ((exact findL_yes (by assumption) (by omega)))
def ob_c_spec_Instantiate : Option (List Int) → List (Nat × Option Ob)
 | none => []
 | some q => [(3, some (.row none 3 true 1 encI (q)))]
def res_c_spec_Instantiate (r : Int) (ts : List Int) (b : List Int) : Option (List Int) → AV
 | none => .tup [(true, [.t none (.v (.int .i64 (0))), .t none (.v (.slice none 0 0))]), (false, [.t none (.v (.bool (false)))])]
 | some q => .tup [(true, [.t none (.v (.int .i64 (r))), .own 3]), (false, [.t none (.v (.bool (true)))])]
set_option maxHeartbeats 1000000 in
set_option maxRecDepth 10000 in
theorem c_spec_Instantiate (r : Int) (ts : List Int) (b : List Int) (hl : ts.length ≤ 1048576) (ho : ∀ x ∈ ts, okI x) (hob : ∀ x ∈ b, okI x) (mo : Option (List Int)) (hm : instV b ts = mo) : Pu Tryz.prog 18 [.agg [.t none (.v (.int .i64 (r))), .t none (.sl 1 encI (ts))], .c (.t none (.sl 1 encI (b)))] (ob_c_spec_Instantiate mo) 4 (res_c_spec_Instantiate r ts b mo) := by
 refine pu_enter Tryz.func18 rfl (Nat.le_of_ble_eq_true rfl) fun w S => ?_
 refine tsr ?_
 refine r_op (o_box 0 rfl rfl rfl rfl) ?_
 refine r_op (o_alloc 1 (zs := [.int .i64 (0), .slice none 0 0]) rfl rfl (by kernel_rfl) rfl) ?_
 refine r_op oA ?_
 refine etr ?_
 refine r_op (oF 0) ?_
 refine r_op oL ?_
 refine r_op (o_build rfl (pl := [(0, 1), (1, 1)]) (zs := [.int .i64 (0), .slice none 0 0]) (by kernel_rfl) (by kernel_rfl) rfl rfl rfl) ?_
 refine r_op (o_alloc 2 (zs := [.int .i64 (0), .slice none 0 0]) rfl rfl (by kernel_rfl) rfl) ?_
 refine r_op (oS 2) ?_
 refine r_end ?_
 refine t_seq ?_
 refine tsr ?_
 refine r_op oA ?_
 refine r_end ?_
 refine t_block ?_
 refine gt_nilb 3 (b := 2) (o := 1) (et := 3) (sz := 1) true encI rfl rfl rfl ?_
 refine t_loopL (fun (m, acc) => ⟨[(1, some (.c (.t none (.sl 1 encI (b))))), (2, some (.c (.ptr 0 0))), (4, some (.c (.ptr 1 0))), (6, some (.c (.ptr 2 0))), (7, some (.c (.t none (.v (.int .i64 ((m : Int)))))))], [(0, some (.box [.t none (.v (.int .i64 (r))), .t none (.sl 1 encI (ts))])), (1, some (.box [.t none (.v (.int .i64 (0))), .t none (.v (.slice none 0 0))])), (2, some (.box [.t none (.v (.int .i64 (r))), .own 3])), (3, some (.row none 3 true 1 encI (acc)))], 4⟩ : Nat × List Int → St) (fun (m, acc) => m ≤ ts.length ∧ instV b (ts.take m) = some acc) (fun (m, acc) => ts.length - m) (0, []) ⟨⟨rfl, ⟨rfl, ⟨rfl, ⟨rfl, ⟨rfl, trivial⟩⟩⟩⟩⟩, ⟨rfl, ⟨rfl, ⟨rfl, ⟨rfl, trivial⟩⟩⟩⟩, rfl⟩ (by exact ⟨Nat.zero_le _, rfl⟩) ?_
 rintro ⟨m, acc⟩ hI ih0
 try dsimp only at hI ih0
 obtain ⟨i1, i2⟩ := hI
 refine t_seq ?_
 refine tsr ?_
 refine r_op oM ?_
 refine r_op (oF 1) ?_
 refine r_op oL ?_
 refine r_op (o_len rfl rfl rfl) ?_
 refine r_op oB ?_
 refine r_end ?_
 refine t_cond rfl (fun h1 => ?_) (fun h1 => ?_)
 ·
  have h1' := of_decide_eq_true h1
  refine t_skip ?_
  refine t_seq ?_
  refine t_block ?_
  refine tsr ?_
  refine r_op (oF 1) ?_
  refine r_op oL ?_
  refine r_op oM ?_
  obtain ⟨z2, hz3, b4⟩ := at_get (xs := ts) (n := (m : Int)) (by omega) (by omega)
  refine r_op (o_index rfl (by kernel_rfl) rfl rfl b4 hz3) ?_
  refine r_op (o_load1 rfl (by kernel_rfl) rfl rfl) ?_
  refine r_op oB ?_
  refine r_op oA ?_
  refine r_end ?_
  refine t_seq ?_
  refine tsr ?_
  refine r_op (oF 1) ?_
  refine r_op oL ?_
  refine r_op oM ?_
  refine r_op (o_index rfl (by kernel_rfl) rfl rfl b4 hz3) ?_
  refine r_op (o_load1 rfl (by kernel_rfl) rfl rfl) ?_
  refine r_op oB ?_
  refine r_end ?_
  refine t_cond rfl (fun h5 => ?_) (fun h5 => ?_)
  ·
   have h5' := of_decide_eq_true h5
   refine t_seq ?_
   refine tsr ?_
   refine r_op (oF 1) ?_
   refine r_op oL ?_
   refine r_op oM ?_
   refine r_op (o_index rfl (by kernel_rfl) rfl rfl b4 hz3) ?_
   refine r_op (o_load1 rfl (by kernel_rfl) rfl rfl) ?_
   refine r_op oM ?_
   refine r_op (o_len rfl rfl rfl) ?_
   refine r_op oB ?_
   refine r_end ?_
   refine t_cond rfl (fun h6 => ?_) (fun h6 => ?_)
   ·
    have h6' := of_decide_eq_true h6
    refine tsr ?_
    refine r_op (o_build rfl (pl := [(0, 1), (1, 1)]) (zs := [.int .i64 (0), .slice none 0 0]) (by kernel_rfl) (by kernel_rfl) rfl rfl rfl) ?_
    refine r_op (oS 2) ?_
    refine r_op oA ?_
    refine r_end ?_
    refine t_ret Tryz.func18 (.cells (n := 2) (by kernel_rfl) (by kernel_rfl) rfl rfl rfl (.tmp rfl .nil)) rfl fun E S w u hI hd => ?_
    obtain rfl : mo = none := by rw [← hm]; exact inst_none i2 (by assumption) rfl (inst_far (by assumption) (by assumption))
    refine post_mk hI hd ?_ trivial rfl rfl rfl <;> clear hI hd <;> (try clear ih0)
    all_goals (rfl)
   ·
    have h6' := of_decide_eq_false h6
    refine t_skip ?_
    refine t_region ?_
    refine r_op oM ?_
    refine r_op (oF 1) ?_
    refine r_op oL ?_
    refine r_op oM ?_
    refine r_op (o_index rfl (by kernel_rfl) rfl rfl b4 hz3) ?_
    refine r_op (o_load1 rfl (by kernel_rfl) rfl rfl) ?_
    obtain ⟨z7, hz8, b9⟩ := at_get (xs := b) (n := z2) (by omega) (by omega)
    refine r_op (o_index rfl (by kernel_rfl) rfl rfl b9 hz8) ?_
    refine r_op (o_load1 rfl (by kernel_rfl) rfl rfl) ?_
    refine r_op oA ?_
    refine r_end ?_
    refine t_seq ?_
    refine tsr ?_
    refine r_op oM ?_
    refine r_op (o_call 4 4 false (Go.Proofs.enters_of Tryz.func62 (by kernel_rfl) rfl) (c_spec_IsValidValue (z7) (by exact (hob _ (List.mem_of_getElem? (by assumption))).1) (by exact (hob _ (List.mem_of_getElem? (by assumption))).2)) rfl (.cons rfl (.c .t0) .nil) rfl rfl rfl) ?_
    refine r_op (o_not rfl rfl) ?_
    refine r_op oM ?_
    refine r_guard rfl rfl rfl (fun g10 => ?_) (fun g10 => ?_)
    ·
     have g10' := of_decide_eq_true (bnf g10)
     refine r_op (oF 1) ?_
     refine r_guard rfl rfl rfl (fun _ => ?_) (ncf g10)
     refine r_op oL ?_
     refine r_guard rfl rfl rfl (fun _ => ?_) (ncf g10)
     refine r_op oM ?_
     refine r_guard rfl rfl rfl (fun _ => ?_) (ncf g10)
     refine r_op (o_index rfl (by kernel_rfl) rfl rfl b4 hz3) ?_
     refine r_guard rfl rfl rfl (fun _ => ?_) (ncf g10)
     refine r_op (o_load1 rfl (by kernel_rfl) rfl rfl) ?_
     refine r_guard rfl rfl rfl (fun _ => ?_) (ncf g10)
     refine r_op oB ?_
     refine r_guard rfl rfl rfl (fun _ => ?_) (ncf g10)
     refine r_op oM ?_
     refine r_guard rfl rfl rfl (fun g11 => ?_) (fun g11 => ?_)
     ·
      have g11' := of_decide_eq_true g11
      refine r_op oM ?_
      refine r_guard rfl rfl rfl (fun _ => ?_) (nc g11)
      refine r_op oB ?_
      refine r_guard rfl rfl rfl (fun _ => ?_) (ncf g10)
      refine r_op (o_pickT rfl rfl g11 rfl) ?_
      refine r_op (o_pickF rfl rfl g10 rfl) ?_
      refine r_end ?_
      refine t_cond rfl (fun h12 => ?_) (fun h12 => ?_)
      ·
       have h12' := of_decide_eq_true h12
       refine tsr ?_
       refine r_op (o_build rfl (pl := [(0, 1), (1, 1)]) (zs := [.int .i64 (0), .slice none 0 0]) (by kernel_rfl) (by kernel_rfl) rfl rfl rfl) ?_
       refine r_op (oS 2) ?_
       refine r_op oA ?_
       refine r_end ?_
       refine t_ret Tryz.func18 (.cells (n := 2) (by kernel_rfl) (by kernel_rfl) rfl rfl rfl (.tmp rfl .nil)) rfl fun E S w u hI hd => ?_
       obtain rfl : mo = none := by exfalso; have e := ho _ (List.mem_of_getElem? (l := ts) (by assumption)); unfold okI at e; simp only [IntKind.wrap_i64] at *; omega
       refine post_mk hI hd ?_ trivial rfl rfl rfl <;> clear hI hd <;> (try clear ih0)
       all_goals (rfl)
      ·
       have h12' := of_decide_eq_false h12
       refine t_skip ?_
       refine t_region ?_
       refine r_op (oF 1) ?_
       refine r_op oL ?_
       refine r_op oM ?_
       refine r_op (o_litS 4 (e := 3) (sz := 1) (zs := [.int .i64 (0)]) rfl rfl (by kernel_rfl) rfl rfl rfl rfl rfl) ?_
       refine r_op (o_append 3 (e := 3) (sz := 1) (by' := 8) (z7) rfl (by kernel_rfl) rfl rfl rfl rfl rfl rfl (.cons .sc .nil) rfl (by omega) (by omega)) ?_
       refine r_op (oF 1) ?_
       refine r_op (oS 1) ?_
       refine r_end ?_
       refine t_endblock ?_
       refine t_region ?_
       refine r_op oM ?_
       refine r_op oB ?_
       refine r_op oA ?_
       refine r_end ?_
       refine t_le ?_ (ih0 (m + 1, acc ++ [z7]) (by (try dsimp only); omega) (by (try dsimp only); exact ⟨by omega, by exfalso; omega⟩))
       exact ⟨⟨rfl, ⟨rfl, ⟨rfl, ⟨rfl, ⟨(eqI (wrS (by omega))), trivial⟩⟩⟩⟩⟩, ⟨rfl, ⟨rfl, ⟨rfl, ⟨rfl, trivial⟩⟩⟩⟩, rfl⟩
     ·
      have g11' := of_decide_eq_false g11
      refine r_guard rfl rfl rfl (ncf g11) (fun _ => ?_)
      refine r_guard rfl rfl rfl (fun _ => ?_) (ncf g10)
      refine r_op (o_pickF rfl rfl g11 rfl) ?_
      refine r_op (o_pickF rfl rfl g10 rfl) ?_
      refine r_end ?_
      refine t_cond rfl (ncf rfl) (fun _ => ?_)
      refine t_skip ?_
      refine t_region ?_
      refine r_op (oF 1) ?_
      refine r_op oL ?_
      refine r_op oM ?_
      refine r_op (o_litS 4 (e := 3) (sz := 1) (zs := [.int .i64 (0)]) rfl rfl (by kernel_rfl) rfl rfl rfl rfl rfl) ?_
      refine r_op (o_append 3 (e := 3) (sz := 1) (by' := 8) (z7) rfl (by kernel_rfl) rfl rfl rfl rfl rfl rfl (.cons .sc .nil) rfl (by (have := instV_len i2; simp at this; omega)) (by (have := instV_len i2; simp at this; omega))) ?_
      refine r_op (oF 1) ?_
      refine r_op (oS 1) ?_
      refine r_end ?_
      refine t_endblock ?_
      refine t_region ?_
      refine r_op oM ?_
      refine r_op oB ?_
      refine r_op oA ?_
      refine r_end ?_
      refine t_le ?_ (ih0 (m + 1, acc ++ [z7]) (by (try dsimp only); omega) (by (try dsimp only); exact ⟨by omega, inst_step i2 (by assumption) rfl (inst_good (by assumption) (by assumption) (by assumption))⟩))
      exact ⟨⟨rfl, ⟨rfl, ⟨rfl, ⟨rfl, ⟨(eqI (wrS (by omega))), trivial⟩⟩⟩⟩⟩, ⟨rfl, ⟨rfl, ⟨rfl, ⟨rfl, trivial⟩⟩⟩⟩, rfl⟩
    ·
     have g10' := of_decide_eq_false (bnt g10)
     refine r_guard rfl rfl rfl (nc g10) (fun _ => ?_)
     refine r_guard rfl rfl rfl (nc g10) (fun _ => ?_)
     refine r_guard rfl rfl rfl (nc g10) (fun _ => ?_)
     refine r_guard rfl rfl rfl (nc g10) (fun _ => ?_)
     refine r_guard rfl rfl rfl (nc g10) (fun _ => ?_)
     refine r_guard rfl rfl rfl (nc g10) (fun _ => ?_)
     refine r_skip rfl rfl rfl ?_
     refine r_skip rfl rfl rfl ?_
     refine r_guard rfl rfl rfl (nc g10) (fun _ => ?_)
     refine r_op (o_pickT rfl rfl g10 rfl) ?_
     refine r_end ?_
     refine t_cond rfl (fun _ => ?_) (nc rfl)
     refine tsr ?_
     refine r_op (o_build rfl (pl := [(0, 1), (1, 1)]) (zs := [.int .i64 (0), .slice none 0 0]) (by kernel_rfl) (by kernel_rfl) rfl rfl rfl) ?_
     refine r_op (oS 2) ?_
     refine r_op oA ?_
     refine r_end ?_
     refine t_ret Tryz.func18 (.cells (n := 2) (by kernel_rfl) (by kernel_rfl) rfl rfl rfl (.tmp rfl .nil)) rfl fun E S w u hI hd => ?_
     obtain rfl : mo = none := by rw [← hm]; exact inst_none i2 (by assumption) rfl (inst_bad (by assumption) (by assumption) (by assumption))
     refine post_mk hI hd ?_ trivial rfl rfl rfl <;> clear hI hd <;> (try clear ih0)
     all_goals (rfl)
  ·
   have h5' := of_decide_eq_false h5
   refine t_skip ?_
   refine t_seq ?_
   refine tsr ?_
   refine r_op oM ?_
   refine r_op (o_call 4 4 false (Go.Proofs.enters_of Tryz.func62 (by kernel_rfl) rfl) (c_spec_IsValidValue (IntKind.i64.wrap ((-1) - z2)) (by exact wr_lo _) (by exact wr_hi _)) rfl (.cons rfl (.c .t0) .nil) rfl rfl rfl) ?_
   refine r_op (o_not rfl rfl) ?_
   refine r_op oM ?_
   refine r_guard rfl rfl rfl (fun g13 => ?_) (fun g13 => ?_)
   ·
    have g13' := of_decide_eq_true (bnf g13)
    refine r_op (oF 1) ?_
    refine r_guard rfl rfl rfl (fun _ => ?_) (ncf g13)
    refine r_op oL ?_
    refine r_guard rfl rfl rfl (fun _ => ?_) (ncf g13)
    refine r_op oM ?_
    refine r_guard rfl rfl rfl (fun _ => ?_) (ncf g13)
    refine r_op (o_index rfl (by kernel_rfl) rfl rfl b4 hz3) ?_
    refine r_guard rfl rfl rfl (fun _ => ?_) (ncf g13)
    refine r_op (o_load1 rfl (by kernel_rfl) rfl rfl) ?_
    refine r_guard rfl rfl rfl (fun _ => ?_) (ncf g13)
    refine r_op oB ?_
    refine r_guard rfl rfl rfl (fun _ => ?_) (ncf g13)
    refine r_op oM ?_
    refine r_guard rfl rfl rfl (fun g14 => ?_) (fun g14 => ?_)
    ·
     have g14' := of_decide_eq_true g14
     refine r_op oM ?_
     refine r_guard rfl rfl rfl (fun _ => ?_) (nc g14)
     refine r_op oB ?_
     refine r_guard rfl rfl rfl (fun _ => ?_) (ncf g13)
     refine r_op (o_pickT rfl rfl g14 rfl) ?_
     refine r_op (o_pickF rfl rfl g13 rfl) ?_
     refine r_end ?_
     refine t_cond rfl (fun h15 => ?_) (fun h15 => ?_)
     ·
      have h15' := of_decide_eq_true h15
      refine tsr ?_
      refine r_op (o_build rfl (pl := [(0, 1), (1, 1)]) (zs := [.int .i64 (0), .slice none 0 0]) (by kernel_rfl) (by kernel_rfl) rfl rfl rfl) ?_
      refine r_op (oS 2) ?_
      refine r_op oA ?_
      refine r_end ?_
      refine t_ret Tryz.func18 (.cells (n := 2) (by kernel_rfl) (by kernel_rfl) rfl rfl rfl (.tmp rfl .nil)) rfl fun E S w u hI hd => ?_
      obtain rfl : mo = none := by exfalso; have e := ho _ (List.mem_of_getElem? (l := ts) (by assumption)); unfold okI at e; simp only [IntKind.wrap_i64] at *; omega
      refine post_mk hI hd ?_ trivial rfl rfl rfl <;> clear hI hd <;> (try clear ih0)
      all_goals (rfl)
     ·
      have h15' := of_decide_eq_false h15
      refine t_skip ?_
      refine t_region ?_
      refine r_op (oF 1) ?_
      refine r_op oL ?_
      refine r_op oM ?_
      refine r_op (o_litS 4 (e := 3) (sz := 1) (zs := [.int .i64 (0)]) rfl rfl (by kernel_rfl) rfl rfl rfl rfl rfl) ?_
      refine r_op (o_append 3 (e := 3) (sz := 1) (by' := 8) (IntKind.i64.wrap ((-1) - z2)) rfl (by kernel_rfl) rfl rfl rfl rfl rfl rfl (.cons .sc .nil) rfl (by (have := instV_len i2; simp at this; omega)) (by (have := instV_len i2; simp at this; omega))) ?_
      refine r_op (oF 1) ?_
      refine r_op (oS 1) ?_
      refine r_end ?_
      refine t_endblock ?_
      refine t_region ?_
      refine r_op oM ?_
      refine r_op oB ?_
      refine r_op oA ?_
      refine r_end ?_
      refine t_le ?_ (ih0 (m + 1, acc ++ [IntKind.i64.wrap ((-1) - z2)]) (by (try dsimp only); omega) (by (try dsimp only); exact ⟨by omega, inst_step i2 (by assumption) rfl (inst_goodn (by omega) (ho _ (List.mem_of_getElem? (by assumption))).1 (by assumption))⟩))
      exact ⟨⟨rfl, ⟨rfl, ⟨rfl, ⟨rfl, ⟨(eqI (wrS (by omega))), trivial⟩⟩⟩⟩⟩, ⟨rfl, ⟨rfl, ⟨rfl, ⟨rfl, trivial⟩⟩⟩⟩, rfl⟩
    ·
     have g14' := of_decide_eq_false g14
     refine r_guard rfl rfl rfl (ncf g14) (fun _ => ?_)
     refine r_guard rfl rfl rfl (fun _ => ?_) (ncf g13)
     refine r_op (o_pickF rfl rfl g14 rfl) ?_
     refine r_op (o_pickF rfl rfl g13 rfl) ?_
     refine r_end ?_
     refine t_cond rfl (ncf rfl) (fun _ => ?_)
     refine t_skip ?_
     refine t_region ?_
     refine r_op (oF 1) ?_
     refine r_op oL ?_
     refine r_op oM ?_
     refine r_op (o_litS 4 (e := 3) (sz := 1) (zs := [.int .i64 (0)]) rfl rfl (by kernel_rfl) rfl rfl rfl rfl rfl) ?_
     refine r_op (o_append 3 (e := 3) (sz := 1) (by' := 8) (IntKind.i64.wrap ((-1) - z2)) rfl (by kernel_rfl) rfl rfl rfl rfl rfl rfl (.cons .sc .nil) rfl (by omega) (by omega)) ?_
     refine r_op (oF 1) ?_
     refine r_op (oS 1) ?_
     refine r_end ?_
     refine t_endblock ?_
     refine t_region ?_
     refine r_op oM ?_
     refine r_op oB ?_
     refine r_op oA ?_
     refine r_end ?_
     refine t_le ?_ (ih0 (m + 1, acc ++ [IntKind.i64.wrap ((-1) - z2)]) (by (try dsimp only); omega) (by (try dsimp only); exact ⟨by omega, by exfalso; omega⟩))
     exact ⟨⟨rfl, ⟨rfl, ⟨rfl, ⟨rfl, ⟨(eqI (wrS (by omega))), trivial⟩⟩⟩⟩⟩, ⟨rfl, ⟨rfl, ⟨rfl, ⟨rfl, trivial⟩⟩⟩⟩, rfl⟩
   ·
    have g13' := of_decide_eq_false (bnt g13)
    refine r_guard rfl rfl rfl (nc g13) (fun _ => ?_)
    refine r_guard rfl rfl rfl (nc g13) (fun _ => ?_)
    refine r_guard rfl rfl rfl (nc g13) (fun _ => ?_)
    refine r_guard rfl rfl rfl (nc g13) (fun _ => ?_)
    refine r_guard rfl rfl rfl (nc g13) (fun _ => ?_)
    refine r_guard rfl rfl rfl (nc g13) (fun _ => ?_)
    refine r_skip rfl rfl rfl ?_
    refine r_skip rfl rfl rfl ?_
    refine r_guard rfl rfl rfl (nc g13) (fun _ => ?_)
    refine r_op (o_pickT rfl rfl g13 rfl) ?_
    refine r_end ?_
    refine t_cond rfl (fun _ => ?_) (nc rfl)
    refine tsr ?_
    refine r_op (o_build rfl (pl := [(0, 1), (1, 1)]) (zs := [.int .i64 (0), .slice none 0 0]) (by kernel_rfl) (by kernel_rfl) rfl rfl rfl) ?_
    refine r_op (oS 2) ?_
    refine r_op oA ?_
    refine r_end ?_
    refine t_ret Tryz.func18 (.cells (n := 2) (by kernel_rfl) (by kernel_rfl) rfl rfl rfl (.tmp rfl .nil)) rfl fun E S w u hI hd => ?_
    obtain rfl : mo = none := by rw [← hm]; exact inst_none i2 (by assumption) rfl (inst_badn (by omega) (ho _ (List.mem_of_getElem? (by assumption))).1 (by assumption))
    refine post_mk hI hd ?_ trivial rfl rfl rfl <;> clear hI hd <;> (try clear ih0)
    all_goals (rfl)
 ·
  have h1' := of_decide_eq_false h1
  refine t_exit rfl ?_
  refine tsr ?_
  refine r_op (oC 2) ?_
  refine r_op (oS 2) ?_
  refine r_op oA ?_
  refine r_end ?_
  refine t_ret Tryz.func18 (.cells (n := 2) (by kernel_rfl) (by kernel_rfl) rfl rfl rfl (.tmp rfl .nil)) rfl fun E S w u hI hd => ?_
  obtain rfl : mo = some acc := by rw [← hm]; rw [List.take_of_length_le (by omega)] at i2; exact i2
  refine post_mk hI hd ?_ ⟨eqR ?_, trivial⟩ rfl rfl rfl <;> clear hI hd <;> (try clear ih0)
  all_goals (rfl)
set_option maxHeartbeats 1000000 in
set_option maxRecDepth 10000 in
theorem c_spec_IsTrigger (rs : Rels) (fs : Atoms) (a0 : List (Int × (List (Int)))) (a1 : List (Int × (List (Int)))) (a2 : Bool) (a3 : Int) (a4 : Int) (b : List Int) (hrs : rs.length ≤ 4611686018427387904) (hfs : szS (fun (x : Int × (List (Int))) => (x.2).length) fs ≤ 1048576) (ho : ∀ z ∈ fs, ∀ x ∈ z.2, okI x) (hs : szS (fun (x : Int × (List (Int))) => (x.2).length) a0 + szS (fun (x : Int × (List (Int))) => (x.2).length) a1 ≤ 1048576) (hoa : ∀ z ∈ a0, ∀ x ∈ z.2, okI x) (hob : ∀ x ∈ b, okI x) (hbl : b.length ≤ 1048576) : Pu Tryz.prog 26 [.agg [.t none (.sl 3 (enS3 encS encI encB) (rs)), .t none (.sl 2 (enS2 encI (enSl 1 encI)) (fs))], .agg [.t none (.sl 2 (enS2 encI (enSl 1 encI)) (a0)), .t none (.sl 2 (enS2 encI (enSl 1 encI)) (a1)), .t none (.v (.bool (a2))), .t none (.v (.int .i64 (a3))), .t none (.v (.int .i64 (a4)))], .c (.t none (.sl 1 encI (b)))] [] 0 (.c (.t none (.v (.bool (trgOk rs fs a0 a1 a2 a3 a4 b))))) := by
 refine pu_enter Tryz.func26 rfl (Nat.le_of_ble_eq_true rfl) fun w S => ?_
 have g0 := sz_len (f := (fun (x : Int × (List (Int))) => (x.2).length)) (l := a0); have v0 := setI_len (varsL a0); have v1 := varsL_size a0
 refine tsr ?_
 refine r_op (o_box 0 rfl rfl rfl rfl) ?_
 refine r_op (o_box 1 rfl rfl rfl rfl) ?_
 refine r_op oA ?_
 refine r_end ?_
 refine t_seq ?_
 refine tsr ?_
 refine r_op (oC 2) ?_
 refine r_op (o_call 2 2 false (Go.Proofs.enters_of Tryz.func34 (by kernel_rfl) rfl) (c_spec_IsValidInstance (rs) (fs) (by omega) (by omega) (by omega)) rfl (.cons rfl (.agg (.cons .t0 (.cons .t0 .nil))) .nil) rfl rfl rfl) ?_
 refine r_op (o_not rfl rfl) ?_
 refine r_op oM ?_
 refine r_guard rfl rfl rfl (fun g1 => ?_) (fun g1 => ?_)
 ·
  have g1' := (bnf g1)
  refine r_op (oF 0) ?_
  refine r_guard rfl rfl rfl (fun _ => ?_) (ncf g1)
  refine r_op oL ?_
  refine r_guard rfl rfl rfl (fun _ => ?_) (ncf g1)
  refine r_op (oC 5) ?_
  refine r_guard rfl rfl rfl (fun _ => ?_) (ncf g1)
  refine r_op (o_call 2 2 false (Go.Proofs.enters_of Tryz.func67 (by kernel_rfl) rfl) (c_spec_IsValidDependency (rs) (a0) (a1) (a2) (a3) (a4) (by omega) (by omega)) rfl (.cons rfl (.c .t0) (.cons rfl (.agg (.cons .t0 (.cons .t0 (.cons .t0 (.cons .t0 (.cons .t0 .nil)))))) .nil)) rfl rfl rfl) ?_
  refine r_guard rfl rfl rfl (fun _ => ?_) (ncf g1)
  refine r_op (o_not rfl rfl) ?_
  refine r_op (o_pickF rfl rfl g1 rfl) ?_
  refine r_op oM ?_
  refine r_guard rfl rfl rfl (fun g2 => ?_) (fun g2 => ?_)
  ·
   have g2' := (bnf g2)
   refine r_op oM ?_
   refine r_guard rfl rfl rfl (fun _ => ?_) (ncf g2)
   refine r_op (o_len rfl rfl rfl) ?_
   refine r_guard rfl rfl rfl (fun _ => ?_) (ncf g2)
   refine r_op oB ?_
   refine r_op (o_pickF rfl rfl g2 rfl) ?_
   refine r_end ?_
   refine t_cond rfl (fun h3 => ?_) (fun h3 => ?_)
   ·
    have h3' := of_decide_eq_true h3
    refine tsr ?_
    refine r_op oA ?_
    refine r_end ?_
    refine t_ret Tryz.func26 (.tmp rfl .nil) rfl fun E S w u hI hd => ?_
    refine post_mk hI hd ?_ trivial rfl rfl rfl <;> clear hI hd <;> (try clear ih0) <;> (try clear ih1)
    all_goals (refine scB ?_; (unfold trgOk; clear hrs hfs ho hs hoa hob g0 v0 v1; grind))
   ·
    have h3' := of_decide_eq_false h3
    refine t_skip ?_
    refine tsr ?_
    refine r_op (oF 0) ?_
    refine r_op oL ?_
    refine r_op (o_call 2 3 false (Go.Proofs.enters_of Tryz.func68 (by kernel_rfl) rfl) (c_spec_Variables (a0) (by omega)) rfl (.cons rfl (.c .t0) .nil) rfl rfl rfl) ?_
    refine r_op oA ?_
    refine r_end ?_
    refine t_seq ?_
    refine tsr ?_
    refine r_op oA ?_
    refine r_end ?_
    refine t_block ?_
    refine t_loopL (fun m => ⟨[(2, some (.c (.t none (.sl 1 encI (b))))), (3, some (.c (.ptr 0 0))), (4, some (.c (.ptr 1 0))), (7, some (.c (.own 2))), (8, some (.c (.t none (.v (.int .i64 ((m : Int)))))))], [(0, some (.box [.t none (.sl 3 (enS3 encS encI encB) (rs)), .t none (.sl 2 (enS2 encI (enSl 1 encI)) (fs))])), (1, some (.box [.t none (.sl 2 (enS2 encI (enSl 1 encI)) (a0)), .t none (.sl 2 (enS2 encI (enSl 1 encI)) (a1)), .t none (.v (.bool (a2))), .t none (.v (.int .i64 (a3))), .t none (.v (.int .i64 (a4)))])), (2, some (.row none 3 true 1 encI (setI (varsL (a0)))))], 3⟩ : Nat → St) (fun m => m ≤ b.length ∧ ∀ j, j < m → varStep (setI (varsL a0)) b j = true) (fun m => b.length - m) 0 ⟨⟨rfl, ⟨rfl, ⟨rfl, ⟨rfl, ⟨rfl, trivial⟩⟩⟩⟩⟩, ⟨rfl, ⟨rfl, ⟨rfl, trivial⟩⟩⟩, rfl⟩ (by exact ⟨Nat.zero_le _, fun j h => by omega⟩) ?_
    rintro m hI ih0
    try dsimp only at hI ih0
    obtain ⟨i1, i2⟩ := hI
    refine t_seq ?_
    refine tsr ?_
    refine r_op oM ?_
    refine r_op oM ?_
    refine r_op (o_len rfl rfl rfl) ?_
    refine r_op oB ?_
    refine r_end ?_
    refine t_cond rfl (fun h4 => ?_) (fun h4 => ?_)
    ·
     have h4' := of_decide_eq_true h4
     refine t_skip ?_
     refine t_seq ?_
     refine t_block ?_
     refine t_seq ?_
     refine t_draw (fun _ => true) (by kernel_rfl) ?_
     refine dT 0 rfl pM ?_
     refine dT 1 rfl pM ?_
     refine dT 3 rfl pM ?_
     refine dT 4 rfl pM ?_
     obtain ⟨z5, hz6, b7⟩ := at_get (xs := b) (n := (m : Int)) (by omega) (by omega)
     refine dT 5 rfl (p_index (by kernel_rfl) rfl rfl b7 hz6) ?_
     refine dT 6 rfl (p_load1 (by kernel_rfl) rfl rfl) ?_
     refine dO 2 rfl (o_call 3 3 false (Go.Proofs.enters_of Tryz.func69 (by kernel_rfl) rfl) (c_spec_l4Has (setI (varsL (a0))) ((m : Int)) (by omega)) rfl (.cons rfl (.c (.own rfl)) (.cons rfl (.c .t0) .nil)) rfl rfl rfl) ?_
     refine dO 7 rfl (o_call 3 3 false (Go.Proofs.enters_of Tryz.func70 (by kernel_rfl) rfl) (c_spec_l11None ) rfl .nil rfl rfl rfl) ?_
     refine dT 8 rfl pB ?_
     refine dT 9 rfl (p_eqB Tryz.underlying4 rfl rfl) ?_
     refine d_end (by kernel_rfl) ?_
     refine t_cond rfl (fun h8 => ?_) (fun h8 => ?_)
     ·
      have h8' := h8
      try simp only [decide_eq_true_eq, decide_eq_false_iff_not, Bool.not_eq_true', Bool.not_eq_false', Bool.not_false, Bool.not_true] at h8'
      refine tsr ?_
      refine r_op oA ?_
      refine r_end ?_
      refine t_ret Tryz.func26 (.tmp rfl .nil) rfl fun E S w u hI hd => ?_
      refine post_mk hI hd ?_ trivial rfl rfl rfl <;> clear hI hd <;> (try clear ih0) <;> (try clear ih1)
      all_goals (refine scB ?_; ((have e : varsOk (setI (varsL a0)) b = false := varsOk_not (m := m) (by omega) (by rw [varStep_at (V := setI (varsL a0)) (m := m) hz6]; (exact vs_bad2 (by assumption)))); (unfold trgOk; rw [e]; simp; done)))
     ·
      have h8' := h8
      try simp only [decide_eq_true_eq, decide_eq_false_iff_not, Bool.not_eq_true', Bool.not_eq_false', Bool.not_false, Bool.not_true] at h8'
      refine t_skip ?_
      refine t_endblock ?_
      refine t_region ?_
      refine r_op oM ?_
      refine r_op oB ?_
      refine r_op oA ?_
      refine r_end ?_
      refine t_le ?_ (ih0 (m + 1) (by (try dsimp only); omega) (by (try dsimp only); exact ⟨by omega, step_all i2 (by rw [varStep_at (V := setI (varsL a0)) (m := m) hz6]; (exact vs_ok2 (by assumption)))⟩))
      exact ⟨⟨rfl, ⟨rfl, ⟨rfl, ⟨rfl, ⟨(eqI (wr64 (by omega) (by omega))), trivial⟩⟩⟩⟩⟩, ⟨rfl, ⟨rfl, ⟨rfl, trivial⟩⟩⟩, rfl⟩
    ·
     have h4' := of_decide_eq_false h4
     refine t_exit rfl ?_
     refine t_seq ?_
     refine tsr ?_
     refine r_op oA ?_
     refine r_end ?_
     refine t_block ?_
     refine t_loopL (fun n => ⟨[(2, some (.c (.t none (.sl 1 encI (b))))), (3, some (.c (.ptr 0 0))), (4, some (.c (.ptr 1 0))), (9, some (.c (.t none (.v (.int .i64 ((n : Int)))))))], [(0, some (.box [.t none (.sl 3 (enS3 encS encI encB) (rs)), .t none (.sl 2 (enS2 encI (enSl 1 encI)) (fs))])), (1, some (.box [.t none (.sl 2 (enS2 encI (enSl 1 encI)) (a0)), .t none (.sl 2 (enS2 encI (enSl 1 encI)) (a1)), .t none (.v (.bool (a2))), .t none (.v (.int .i64 (a3))), .t none (.v (.int .i64 (a4)))])), (2, some (.row none 3 true 1 encI (setI (varsL (a0)))))], 3⟩ : Nat → St) (fun n => n ≤ a0.length ∧ ∀ j z, j < n → a0[j]? = some z → trgStep fs b z = true) (fun n => a0.length - n) 0 ⟨⟨rfl, ⟨rfl, ⟨rfl, ⟨rfl, trivial⟩⟩⟩⟩, ⟨rfl, ⟨rfl, ⟨rfl, trivial⟩⟩⟩, rfl⟩ (by exact ⟨Nat.zero_le _, fun j z h => by omega⟩) ?_
     rintro n hI ih1
     try dsimp only at hI ih1
     obtain ⟨k1, k2⟩ := hI
     refine t_seq ?_
     refine tsr ?_
     refine r_op oM ?_
     refine r_op (oF 0) ?_
     refine r_op oL ?_
     refine r_op (o_len rfl rfl rfl) ?_
     refine r_op oB ?_
     refine r_end ?_
     refine t_cond rfl (fun h9 => ?_) (fun h9 => ?_)
     ·
      have h9' := of_decide_eq_true h9
      refine t_skip ?_
      refine t_seq ?_
      refine t_block ?_
      refine tsr ?_
      refine r_op (oF 0) ?_
      refine r_op oL ?_
      refine r_op oM ?_
      obtain ⟨z10, hz11, b12⟩ := at_get (xs := a0) (n := (n : Int)) (by omega) (by omega)
      refine r_op (o_index rfl (by kernel_rfl) rfl rfl b12 hz11) ?_
      refine r_op (o_loadA rfl (n := 2) (by kernel_rfl) (by kernel_rfl) rfl rfl) ?_
      refine r_op oM ?_
      rcases hm13 : instV (b) (z10.2) with _ | q15
      ·
       refine r_op (o_call 3 7 false (Go.Proofs.enters_of Tryz.func18 (by kernel_rfl) rfl) (c_spec_Instantiate (z10.1) (z10.2) (b) (by (have e1 := sz_at (f := (fun (x : Int × (List (Int))) => (x.2).length)) (l := a0) (m := n) (by assumption); (try dsimp only at e1); omega)) (by exact hoa _ (List.mem_of_getElem? (by assumption))) (by omega) _ hm13) rfl (.cons rfl (.agg (.cons .t0 (.cons .t0 .nil))) (.cons rfl (.c .t0) .nil)) rfl rfl rfl) ?_
       refine r_op oM ?_
       refine r_op (o_extract rfl rfl rfl rfl) ?_
       refine r_op (o_extract rfl rfl rfl rfl) ?_
       refine r_op (o_alloc 7 (zs := [.int .i64 (0), .slice none 0 0]) rfl rfl (by kernel_rfl) rfl) ?_
       refine r_op (oS 2) ?_
       refine r_op oA ?_
       refine etr ?_
       refine r_op oM ?_
       refine r_op (o_not rfl rfl) ?_
       refine r_op oM ?_
       refine r_guard rfl rfl rfl (nc rfl) (fun _ => ?_)
       refine r_guard rfl rfl rfl (nc rfl) (fun _ => ?_)
       refine r_guard rfl rfl rfl (nc rfl) (fun _ => ?_)
       refine r_guard rfl rfl rfl (nc rfl) (fun _ => ?_)
       refine r_op (o_pickT rfl rfl rfl rfl) ?_
       refine r_end ?_
       refine t_cond rfl (fun _ => ?_) (nc rfl)
       refine tsr ?_
       refine r_op oA ?_
       refine r_end ?_
       refine t_ret Tryz.func26 (.tmp rfl .nil) rfl fun E S w u hI hd => ?_
       refine post_mk hI hd ?_ trivial rfl rfl rfl <;> clear hI hd <;> (try clear ih0) <;> (try clear ih1)
       all_goals (refine scB ?_; ((have e : a0.all (trgStep fs b) = false := all_not hz11 (by exact trg_none (by assumption))); (unfold trgOk; rw [e]; simp; done)))
      ·
       refine r_op (o_call 3 7 false (Go.Proofs.enters_of Tryz.func18 (by kernel_rfl) rfl) (c_spec_Instantiate (z10.1) (z10.2) (b) (by (have e1 := sz_at (f := (fun (x : Int × (List (Int))) => (x.2).length)) (l := a0) (m := n) (by assumption); (try dsimp only at e1); omega)) (by exact hoa _ (List.mem_of_getElem? (by assumption))) (by omega) _ hm13) rfl (.cons rfl (.agg (.cons .t0 (.cons .t0 .nil))) (.cons rfl (.c .t0) .nil)) rfl rfl rfl) ?_
       refine r_op oM ?_
       refine r_op (o_extract rfl rfl rfl rfl) ?_
       refine r_op (o_extract rfl rfl rfl rfl) ?_
       refine r_op (o_alloc 7 (zs := [.int .i64 (0), .slice none 0 0]) rfl rfl (by kernel_rfl) rfl) ?_
       refine r_op (oS 2) ?_
       refine r_op oA ?_
       refine etr ?_
       refine r_op oM ?_
       refine r_op (o_not rfl rfl) ?_
       refine r_op oM ?_
       refine r_guard rfl rfl rfl (fun _ => ?_) (ncf rfl)
       refine r_op (oC 2) ?_
       refine r_guard rfl rfl rfl (fun _ => ?_) (ncf rfl)
       refine r_op (oC 2) ?_
       refine r_guard rfl rfl rfl (fun _ => ?_) (ncf rfl)
       refine r_op (o_call 8 8 false (Go.Proofs.enters_of Tryz.func71 (by kernel_rfl) rfl) (c_spec_l5Place (rs) (fs) ((z10.1)) ((q15)) (by omega) (by (have e5 := instV_len (by assumption); have e1 := sz_at (f := (fun (x : Int × (List (Int))) => (x.2).length)) (l := a0) (m := n) (by assumption); (try dsimp only at e1); omega))) rfl (.cons rfl (.agg (.cons .t0 (.cons .t0 .nil))) (.cons rfl (.agg (.cons .t0 (.cons (.own rfl) .nil))) .nil)) rfl rfl rfl) ?_
       refine r_guard rfl rfl rfl (fun _ => ?_) (ncf rfl)
       refine r_op oB ?_
       refine r_op (o_pickF rfl rfl rfl rfl) ?_
       refine r_end ?_
       refine t_cond rfl (fun h16 => ?_) (fun h16 => ?_)
       ·
        have h16' := of_decide_eq_true h16
        refine tsr ?_
        refine r_op oA ?_
        refine r_end ?_
        refine t_ret Tryz.func26 (.tmp rfl .nil) rfl fun E S w u hI hd => ?_
        refine post_mk hI hd ?_ trivial rfl rfl rfl <;> clear hI hd <;> (try clear ih0) <;> (try clear ih1)
        all_goals (refine scB ?_; ((have e : a0.all (trgStep fs b) = false := all_not hz11 (by (rw [trg_some (by assumption)]; unfold hasF; rw [← idx_any]; exact decide_eq_false (by omega)))); (unfold trgOk; rw [e]; simp; done)))
       ·
        have h16' := of_decide_eq_false h16
        refine t_skip ?_
        refine t_endblock ?_
        refine t_region ?_
        refine r_op oM ?_
        refine r_op oB ?_
        refine r_op oA ?_
        refine r_end ?_
        refine t_le ?_ (ih1 (n + 1) (by (try dsimp only); omega) (by (try dsimp only); exact ⟨by omega, yes_step k2 hz11 rfl (by rw [trg_some (by assumption)]; unfold hasF; rw [← idx_any]; exact decide_eq_true (by omega))⟩))
        exact ⟨⟨rfl, ⟨rfl, ⟨rfl, ⟨(eqI (wr64 (by omega) (by omega))), trivial⟩⟩⟩⟩, ⟨rfl, ⟨rfl, ⟨rfl, trivial⟩⟩⟩, rfl⟩
     ·
      have h9' := of_decide_eq_false h9
      refine t_exit rfl ?_
      refine tsr ?_
      refine r_op oA ?_
      refine r_end ?_
      refine t_ret Tryz.func26 (.tmp rfl .nil) rfl fun E S w u hI hd => ?_
      refine post_mk hI hd ?_ trivial rfl rfl rfl <;> clear hI hd <;> (try clear ih0) <;> (try clear ih1)
      all_goals (refine scB ?_; (unfold trgOk; rw [varsOk_end i2 (by omega), all_yes k2 (by omega)]; clear hrs hfs ho hs hoa hob g0 v0 v1; grind))
  ·
   have g2' := (bnt g2)
   refine r_guard rfl rfl rfl (nc g2) (fun _ => ?_)
   refine r_guard rfl rfl rfl (nc g2) (fun _ => ?_)
   refine r_op (o_pickT rfl rfl g2 rfl) ?_
   refine r_end ?_
   refine t_cond rfl (fun _ => ?_) (nc rfl)
   refine tsr ?_
   refine r_op oA ?_
   refine r_end ?_
   refine t_ret Tryz.func26 (.tmp rfl .nil) rfl fun E S w u hI hd => ?_
   refine post_mk hI hd ?_ trivial rfl rfl rfl <;> clear hI hd <;> (try clear ih0) <;> (try clear ih1)
   all_goals (refine scB ?_; (unfold trgOk; clear hrs hfs ho hs hoa hob g0 v0 v1; grind))
 ·
  have g1' := (bnt g1)
  refine r_guard rfl rfl rfl (nc g1) (fun _ => ?_)
  refine r_guard rfl rfl rfl (nc g1) (fun _ => ?_)
  refine r_guard rfl rfl rfl (nc g1) (fun _ => ?_)
  refine r_guard rfl rfl rfl (nc g1) (fun _ => ?_)
  refine r_op (o_pickT rfl rfl g1 rfl) ?_
  refine r_op oM ?_
  refine r_guard rfl rfl rfl (nc rfl) (fun _ => ?_)
  refine r_guard rfl rfl rfl (nc rfl) (fun _ => ?_)
  refine r_guard rfl rfl rfl (nc rfl) (fun _ => ?_)
  refine r_op (o_pickT rfl rfl rfl rfl) ?_
  refine r_end ?_
  refine t_cond rfl (fun _ => ?_) (nc rfl)
  refine tsr ?_
  refine r_op oA ?_
  refine r_end ?_
  refine t_ret Tryz.func26 (.tmp rfl .nil) rfl fun E S w u hI hd => ?_
  refine post_mk hI hd ?_ trivial rfl rfl rfl <;> clear hI hd <;> (try clear ih0) <;> (try clear ih1)
  all_goals (refine scB ?_; (unfold trgOk; clear hrs hfs ho hs hoa hob g0 v0 v1; grind))
set_option maxHeartbeats 1000000 in
set_option maxRecDepth 10000 in
theorem c_spec_HasExtension (rs : Rels) (fs l : Atoms) (b : List Int) (hrs : rs.length ≤ 4611686018427387904) (hfs : szS (fun (x : Int × (List (Int))) => (x.2).length) fs ≤ 1048576) (hll : szS (fun (x : Int × (List (Int))) => (x.2).length) l ≤ 1048576) (ho : ∀ z ∈ fs, ∀ x ∈ z.2, okI x) (hbl : b.length ≤ 1048576) : Pu Tryz.prog 19 [.agg [.t none (.sl 3 (enS3 encS encI encB) (rs)), .t none (.sl 2 (enS2 encI (enSl 1 encI)) (fs))], .c (.t none (.sl 2 (enS2 encI (enSl 1 encI)) (l))), .c (.t none (.sl 1 encI (b)))] [] 0 (.c (.t none (.v (.bool (hasE rs fs l b))))) := by
 refine pu_enter Tryz.func19 rfl (Nat.le_of_ble_eq_true rfl) fun w S => ?_
 have gl := sz_len (f := (fun (x : Int × (List (Int))) => (x.2).length)) (l := l)
 refine tsr ?_
 refine r_op (o_box 0 rfl rfl rfl rfl) ?_
 refine r_op oA ?_
 refine etr ?_
 refine r_op (oC 2) ?_
 refine r_op oM ?_
 refine r_op (o_call 1 1 false (Go.Proofs.enters_of Tryz.func53 (by kernel_rfl) rfl) (c_spec_l11Ok (rs) (fs) (l) (by omega) (by omega) (by omega) (by omega)) rfl (.cons rfl (.agg (.cons .t0 (.cons .t0 .nil))) (.cons rfl (.c .t0) .nil)) rfl rfl rfl) ?_
 refine r_op oM ?_
 refine r_guard rfl rfl rfl (fun g1 => ?_) (fun g1 => ?_)
 ·
  have g1' := g1
  refine r_op oM ?_
  refine r_guard rfl rfl rfl (fun _ => ?_) (nc g1)
  refine r_op (o_len rfl rfl rfl) ?_
  refine r_guard rfl rfl rfl (fun _ => ?_) (nc g1)
  refine r_op oB ?_
  refine r_op (o_pickT rfl rfl g1 rfl) ?_
  refine r_op oM ?_
  refine r_guard rfl rfl rfl (fun g2 => ?_) (fun g2 => ?_)
  ·
   have g2' := of_decide_eq_true g2
   refine r_op (oC 2) ?_
   refine r_guard rfl rfl rfl (fun _ => ?_) (nc g2)
   refine r_op oM ?_
   refine r_guard rfl rfl rfl (fun _ => ?_) (nc g2)
   refine r_op oM ?_
   refine r_guard rfl rfl rfl (fun _ => ?_) (nc g2)
   refine r_op (o_call 1 2 false (Go.Proofs.enters_of Tryz.func54 (by kernel_rfl) rfl) (c_spec_l11Walk (rs) (fs) (l) (0) (b) (by exact (mt_pre (by assumption)).1) (by exact (mt_pre (by assumption)).2.1) (by omega) (by exact (mt_pre (by assumption)).2.2.1) (by exact (mt_pre (by assumption)).2.2.2) (by omega)) rfl (.cons rfl (.agg (.cons .t0 (.cons .t0 .nil))) (.cons rfl (.c .t0) (.cons rfl (.c .t0) (.cons rfl (.c .t0) .nil)))) rfl rfl rfl) ?_
   refine r_guard rfl rfl rfl (fun _ => ?_) (nc g2)
   refine r_op (o_leno rfl rfl rfl rfl) ?_
   refine r_guard rfl rfl rfl (fun _ => ?_) (nc g2)
   refine r_op oB ?_
   refine r_op (o_pickT rfl rfl g2 rfl) ?_
   refine r_op oA ?_
   refine r_end ?_
   refine t_ret Tryz.func19 (.tmp rfl .nil) rfl fun E S w u hI hd => ?_
   refine post_mk hI hd ?_ trivial rfl rfl rfl <;> clear hI hd
   all_goals (refine scB ?_; (try simp only [show (0 : Int).toNat = 0 from rfl, List.drop_zero] at *); clear hrs hfs hll ho gl; unfold hasE; grind)
  ·
   have g2' := of_decide_eq_false g2
   refine r_guard rfl rfl rfl (ncf g2) (fun _ => ?_)
   refine r_guard rfl rfl rfl (ncf g2) (fun _ => ?_)
   refine r_guard rfl rfl rfl (ncf g2) (fun _ => ?_)
   refine r_guard rfl rfl rfl (ncf g2) (fun _ => ?_)
   refine r_guard rfl rfl rfl (ncf g2) (fun _ => ?_)
   refine r_op (o_pickF rfl rfl g2 rfl) ?_
   refine r_op oA ?_
   refine r_end ?_
   refine t_ret Tryz.func19 (.tmp rfl .nil) rfl fun E S w u hI hd => ?_
   refine post_mk hI hd ?_ trivial rfl rfl rfl <;> clear hI hd
   all_goals (refine scB ?_; (try simp only [show (0 : Int).toNat = 0 from rfl, List.drop_zero] at *); clear hrs hfs hll ho gl; unfold hasE; grind)
 ·
  have g1' := g1
  refine r_guard rfl rfl rfl (ncf g1) (fun _ => ?_)
  refine r_guard rfl rfl rfl (ncf g1) (fun _ => ?_)
  refine r_op (o_pickF rfl rfl g1 rfl) ?_
  refine r_op oM ?_
  refine r_guard rfl rfl rfl (ncf rfl) (fun _ => ?_)
  refine r_guard rfl rfl rfl (ncf rfl) (fun _ => ?_)
  refine r_guard rfl rfl rfl (ncf rfl) (fun _ => ?_)
  refine r_guard rfl rfl rfl (ncf rfl) (fun _ => ?_)
  refine r_guard rfl rfl rfl (ncf rfl) (fun _ => ?_)
  refine r_guard rfl rfl rfl (ncf rfl) (fun _ => ?_)
  refine r_op (o_pickF rfl rfl rfl rfl) ?_
  refine r_op oA ?_
  refine r_end ?_
  refine t_ret Tryz.func19 (.tmp rfl .nil) rfl fun E S w u hI hd => ?_
  refine post_mk hI hd ?_ trivial rfl rfl rfl <;> clear hI hd
  all_goals (refine scB ?_; (try simp only [show (0 : Int).toNat = 0 from rfl, List.drop_zero] at *); clear hrs hfs hll ho gl; unfold hasE; grind)
set_option maxHeartbeats 1000000 in
set_option maxRecDepth 10000 in
theorem c_spec_IsActiveTrigger (rs : Rels) (fs : Atoms) (a0 : List (Int × (List (Int)))) (a1 : List (Int × (List (Int)))) (a2 : Bool) (a3 : Int) (a4 : Int) (b : List Int) (hrs : rs.length ≤ 4611686018427387904) (hfs : szS (fun (x : Int × (List (Int))) => (x.2).length) fs ≤ 1048576) (ho : ∀ z ∈ fs, ∀ x ∈ z.2, okI x) (hs : szS (fun (x : Int × (List (Int))) => (x.2).length) a0 + szS (fun (x : Int × (List (Int))) => (x.2).length) a1 ≤ 1048576) (hoa : ∀ z ∈ a0, ∀ x ∈ z.2, okI x) (hob : ∀ x ∈ b, okI x) (hbl : b.length ≤ 1048576) : Pu Tryz.prog 25 [.agg [.t none (.sl 3 (enS3 encS encI encB) (rs)), .t none (.sl 2 (enS2 encI (enSl 1 encI)) (fs))], .agg [.t none (.sl 2 (enS2 encI (enSl 1 encI)) (a0)), .t none (.sl 2 (enS2 encI (enSl 1 encI)) (a1)), .t none (.v (.bool (a2))), .t none (.v (.int .i64 (a3))), .t none (.v (.int .i64 (a4)))], .c (.t none (.sl 1 encI (b)))] [] 0 (.c (.t none (.v (.bool (actOk rs fs a0 a1 a2 a3 a4 b))))) := by
 refine pu_enter Tryz.func25 rfl (Nat.le_of_ble_eq_true rfl) fun w S => ?_
 have g0 := sz_len (f := (fun (x : Int × (List (Int))) => (x.2).length)) (l := a0); have v0 := setI_len (varsL a0); have v1 := varsL_size a0
 refine tsr ?_
 refine r_op (o_box 0 rfl rfl rfl rfl) ?_
 refine r_op (o_box 1 rfl rfl rfl rfl) ?_
 refine r_op oA ?_
 refine r_end ?_
 refine t_seq ?_
 refine tsr ?_
 refine r_op (oC 2) ?_
 refine r_op (oC 5) ?_
 refine r_op oM ?_
 refine r_op (o_call 2 2 false (Go.Proofs.enters_of Tryz.func26 (by kernel_rfl) rfl) (c_spec_IsTrigger (rs) (fs) (a0) (a1) (a2) (a3) (a4) (b) (by omega) (by omega) (by omega) (by omega) (by omega) (by omega) (by omega)) rfl (.cons rfl (.agg (.cons .t0 (.cons .t0 .nil))) (.cons rfl (.agg (.cons .t0 (.cons .t0 (.cons .t0 (.cons .t0 (.cons .t0 .nil)))))) (.cons rfl (.c .t0) .nil))) rfl rfl rfl) ?_
 refine r_op (o_not rfl rfl) ?_
 refine r_end ?_
 refine t_cond rfl (fun h1 => ?_) (fun h1 => ?_)
 ·
  have h1' := (bnt h1)
  refine tsr ?_
  refine r_op oA ?_
  refine r_end ?_
  refine t_ret Tryz.func25 (.tmp rfl .nil) rfl fun E S w u hI hd => ?_
  refine post_mk hI hd ?_ trivial rfl rfl rfl <;> clear hI hd
  all_goals (refine scB ?_; unfold actOk; clear hrs hfs ho hs hoa hob g0 v0 v1; (grind))
 ·
  have h1' := (bnf h1)
  refine t_skip ?_
  refine t_seq ?_
  refine tsr ?_
  refine r_op (oF 2) ?_
  refine r_op oL ?_
  refine r_end ?_
  refine t_cond rfl (fun h2 => ?_) (fun h2 => ?_)
  ·
   have h2' := h2
   refine t_seq ?_
   refine t_draw (fun _ => true) (by kernel_rfl) ?_
   refine dT 0 rfl pM ?_
   refine dT 1 rfl (pF 3) ?_
   refine dT 2 rfl pL ?_
   obtain ⟨z3, hz4, b5⟩ := at_get (xs := b) (n := a3) (by exact (trg_idx (by assumption) (by assumption)).1.1) (by exact (trg_idx (by assumption) (by assumption)).1.2)
   refine dT 3 rfl (p_index (by kernel_rfl) rfl rfl b5 hz4) ?_
   refine dT 4 rfl (p_load1 (by kernel_rfl) rfl rfl) ?_
   refine dT 5 rfl pM ?_
   refine dT 6 rfl (pF 4) ?_
   refine dT 7 rfl pL ?_
   obtain ⟨z6, hz7, b8⟩ := at_get (xs := b) (n := a4) (by exact (trg_idx (by assumption) (by assumption)).2.1) (by exact (trg_idx (by assumption) (by assumption)).2.2)
   refine dT 8 rfl (p_index (by kernel_rfl) rfl rfl b8 hz7) ?_
   refine dT 9 rfl (p_load1 (by kernel_rfl) rfl rfl) ?_
   refine dT 10 rfl pB ?_
   refine dT 11 rfl pA ?_
   refine d_end (by kernel_rfl) ?_
   refine t_ret Tryz.func25 (.tmp rfl .nil) rfl fun E S w u hI hd => ?_
   refine post_mk hI hd ?_ trivial rfl rfl rfl <;> clear hI hd
   all_goals (refine scB ?_; unfold actOk; clear hrs hfs ho hs hoa hob g0 v0 v1; (have e1 := getD_at hz4; have e2 := getD_at hz7; rw [e1, e2]; grind))
  ·
   have h2' := h2
   refine t_skip ?_
   refine tsr ?_
   refine r_op (oC 2) ?_
   refine r_op (oF 1) ?_
   refine r_op oL ?_
   refine r_op oM ?_
   refine r_op (o_call 2 2 false (Go.Proofs.enters_of Tryz.func19 (by kernel_rfl) rfl) (c_spec_HasExtension (rs) (fs) (a1) (b) (by omega) (by omega) (by omega) (by omega) (by omega)) rfl (.cons rfl (.agg (.cons .t0 (.cons .t0 .nil))) (.cons rfl (.c .t0) (.cons rfl (.c .t0) .nil))) rfl rfl rfl) ?_
   refine r_op (o_not rfl rfl) ?_
   refine r_op oA ?_
   refine r_end ?_
   refine t_ret Tryz.func25 (.tmp rfl .nil) rfl fun E S w u hI hd => ?_
   refine post_mk hI hd ?_ trivial rfl rfl rfl <;> clear hI hd
   all_goals (refine scB ?_; unfold actOk; clear hrs hfs ho hs hoa hob g0 v0 v1; (grind))
set_option maxHeartbeats 1000000 in
set_option maxRecDepth 10000 in
theorem c_spec_ActiveTriggers (rs : Rels) (fs : Atoms) (a0 : List (Int × (List (Int)))) (a1 : List (Int × (List (Int)))) (a2 : Bool) (a3 : Int) (a4 : Int) (hrs : rs.length ≤ 4611686018427387904) (hfs : szS (fun (x : Int × (List (Int))) => (x.2).length) fs ≤ 1048576) (ho : ∀ z ∈ fs, ∀ x ∈ z.2, okI x) (hs : szS (fun (x : Int × (List (Int))) => (x.2).length) a0 + szS (fun (x : Int × (List (Int))) => (x.2).length) a1 ≤ 1048576) (hoa : ∀ z ∈ a0, ∀ x ∈ z.2, okI x) : Pu Tryz.prog 27 [.agg [.t none (.sl 3 (enS3 encS encI encB) (rs)), .t none (.sl 2 (enS2 encI (enSl 1 encI)) (fs))], .agg [.t none (.sl 2 (enS2 encI (enSl 1 encI)) (a0)), .t none (.sl 2 (enS2 encI (enSl 1 encI)) (a1)), .t none (.v (.bool (a2))), .t none (.v (.int .i64 (a3))), .t none (.v (.int .i64 (a4)))]] [(2, some (.row none 34 true 1 (enSl 1 encI) (actL rs fs a0 a1 a2 a3 a4)))] 3 (.c (.own 2)) := by
 refine pu_enter Tryz.func27 rfl (Nat.le_of_ble_eq_true rfl) fun w S => ?_
 have g0 := sz_len (f := (fun (x : Int × (List (Int))) => (x.2).length)) (l := a0); have g1 := findL_len rs fs a0
 refine tsr ?_
 refine r_op (o_box 0 rfl rfl rfl rfl) ?_
 refine r_op (o_box 1 rfl rfl rfl rfl) ?_
 refine r_op oA ?_
 refine etr ?_
 refine r_op (o_lit0 2 (e := 34) (sz := 1) (zs := [.slice none 0 0]) (enSl 1 encI) rfl rfl (by kernel_rfl) rfl) ?_
 refine r_op oA ?_
 refine r_end ?_
 refine t_seq ?_
 refine tsr ?_
 refine r_op (oF 0) ?_
 refine r_op oL ?_
 refine r_op (oC 5) ?_
 refine r_op (o_call 3 3 false (Go.Proofs.enters_of Tryz.func67 (by kernel_rfl) rfl) (c_spec_IsValidDependency (rs) (a0) (a1) (a2) (a3) (a4) (by omega) (by omega)) rfl (.cons rfl (.c .t0) (.cons rfl (.agg (.cons .t0 (.cons .t0 (.cons .t0 (.cons .t0 (.cons .t0 .nil)))))) .nil)) rfl rfl rfl) ?_
 refine r_op (o_not rfl rfl) ?_
 refine r_end ?_
 refine t_cond rfl (fun h1 => ?_) (fun h1 => ?_)
 ·
  have h1' := (bnt h1)
  refine tsr ?_
  refine r_op oM ?_
  refine r_op oA ?_
  refine r_end ?_
  refine t_ret Tryz.func27 (.tmp rfl .nil) rfl fun E S w u hI hd => ?_
  refine post_mk hI hd ?_ ⟨eqR ?_, trivial⟩ rfl rfl rfl <;> clear hI hd <;> (try clear ih0)
  all_goals first | rfl | ((exact actL_no (by simp_all; done)))
 ·
  have h1' := (bnf h1)
  refine t_skip ?_
  refine tsr ?_
  refine r_op (oC 2) ?_
  refine r_op (oF 0) ?_
  refine r_op oL ?_
  refine r_op (o_call 3 5 false (Go.Proofs.enters_of Tryz.func11 (by kernel_rfl) rfl) (c_spec_FindMatches (rs) (fs) (a0) (by omega) (by omega) (by omega) (by omega)) rfl (.cons rfl (.agg (.cons .t0 (.cons .t0 .nil))) (.cons rfl (.c .t0) .nil)) rfl rfl rfl) ?_
  refine r_op oA ?_
  refine r_end ?_
  refine t_seq ?_
  refine tsr ?_
  refine r_op oA ?_
  refine r_end ?_
  refine t_block ?_
  refine gt_sum 4 rfl ?_
  refine t_loopL (fun (vs, m) => ⟨[(2, some (.c (.ptr 0 0))), (3, some (.c (.ptr 1 0))), (4, some (.c (.t none (.v (.slice none 0 0))))), (5, some (.c (.own 2))), (6, some (.c (.own 4))), (7, some (.c (.t none (.v (.int .i64 ((m : Int)))))))], [(0, some (.box [.t none (.sl 3 (enS3 encS encI encB) (rs)), .t none (.sl 2 (enS2 encI (enSl 1 encI)) (fs))])), (1, some (.box [.t none (.sl 2 (enS2 encI (enSl 1 encI)) (a0)), .t none (.sl 2 (enS2 encI (enSl 1 encI)) (a1)), .t none (.v (.bool (a2))), .t none (.v (.int .i64 (a3))), .t none (.v (.int .i64 (a4)))])), (2, some (.row none 34 true 1 (enSl 1 encI) (((findL rs fs a0).take m).filter (actOk rs fs a0 a1 a2 a3 a4)))), (4, some (.row none 34 true 1 (encK (enSl 1 encI)) (tkL vs (findL rs fs a0))))], 5⟩ : List Value × Nat → St) (fun (vs, m) => vs.length = m ∧ m ≤ (findL rs fs a0).length) (fun (vs, m) => (findL rs fs a0).length - m) ([], 0) ⟨⟨rfl, ⟨rfl, ⟨rfl, ⟨rfl, ⟨rfl, ⟨rfl, trivial⟩⟩⟩⟩⟩⟩, ⟨rfl, ⟨rfl, ⟨rfl, ⟨rfl, trivial⟩⟩⟩⟩, rfl⟩ (by exact ⟨rfl, Nat.zero_le _⟩) ?_
  rintro ⟨vs, m⟩ hI ih0
  try dsimp only at hI ih0
  obtain ⟨i0, i1⟩ := hI; have tl := tkL_len (vs := vs) (L := findL rs fs a0) (by omega); have fr := filt_room (p := actOk rs fs a0 a1 a2 a3 a4) (L := findL rs fs a0) (m := m) g1
  refine t_seq ?_
  refine tsr ?_
  refine r_op oM ?_
  refine r_op oM ?_
  refine r_op (o_leno rfl rfl rfl rfl) ?_
  refine r_op oB ?_
  refine r_end ?_
  refine t_cond rfl (fun h2 => ?_) (fun h2 => ?_)
  ·
   have h2' := of_decide_eq_true h2
   refine t_skip ?_
   refine t_seq ?_
   refine t_block ?_
   refine t_seq ?_
   obtain ⟨z3, hz4, b5⟩ := at_get (xs := findL rs fs a0) (n := (m : Int)) (by omega) (by omega)
   refine gt_take0 5 4 rfl rfl (tkL_at (by omega) hz4) fun e6 v7 => ?_
   refine t_draw (fun _ => true) (by kernel_rfl) ?_
   refine dT 0 rfl (pC 2) ?_
   refine dT 1 rfl (pC 5) ?_
   refine dT 2 rfl pM ?_
   refine dT 3 rfl pM ?_
   obtain ⟨z8, hz9, b10⟩ := at_get (xs := (tkL vs (findL rs fs a0)).set (m : Int).toNat (.inl v7)) (n := (m : Int)) (by omega) (by (rw [List.length_set]; omega))
   refine dT 4 rfl (p_indexo (by kernel_rfl) rfl rfl rfl b10 (at_lt b10 hz9)) ?_
   refine dT 5 rfl (p_loadpin (k := 5) (o := 0) (by kernel_rfl) rfl rfl (tk_got (by omega) (by omega)) rfl) ?_
   refine dO 6 rfl (o_call 6 6 false (Go.Proofs.enters_of Tryz.func25 (by kernel_rfl) rfl) (c_spec_IsActiveTrigger (rs) (fs) (a0) (a1) (a2) (a3) (a4) (z3) (by omega) (by omega) (by omega) (by omega) (by omega) (by exact findL_ok (fun f hf => ho f hf) (List.mem_of_getElem? (by assumption))) (by (have e5 := findL_five (List.mem_of_getElem? (by assumption)); omega))) rfl (.cons rfl (.agg (.cons .t0 (.cons .t0 .nil))) (.cons rfl (.agg (.cons .t0 (.cons .t0 (.cons .t0 (.cons .t0 (.cons .t0 .nil)))))) (.cons rfl (.c (.own rfl)) .nil))) rfl rfl rfl) ?_
   refine d_end (by kernel_rfl) ?_
   refine t_cond rfl (fun h11 => ?_) (fun h11 => ?_)
   ·
    have h11' := h11
    refine t_region ?_
    refine r_op oM ?_
    refine r_op oM ?_
    refine r_op oM ?_
    refine r_op (o_indexo rfl (by kernel_rfl) rfl rfl rfl b10 (at_lt b10 hz9)) ?_
    refine r_op (o_loadpin rfl (k := 5) (o := 0) (by kernel_rfl) rfl rfl (tk_got (by omega) (by omega)) rfl) ?_
    refine r_op (o_litS 6 (e := 34) (sz := 1) (zs := [.slice none 0 0]) rfl rfl (by kernel_rfl) rfl rfl rfl rfl rfl) ?_
    refine r_op (o_append 2 (e := 34) (sz := 1) (by' := 24) (z3) rfl (by kernel_rfl) rfl rfl rfl rfl rfl rfl (.take (.own rfl) rfl .nil) rfl (by omega) (by omega)) ?_
    refine r_op oA ?_
    refine r_end ?_
    refine t_endblock ?_
    refine t_region ?_
    refine r_op oM ?_
    refine r_op oB ?_
    refine r_op oA ?_
    refine r_end ?_
    refine t_le ?_ (ih0 (vs ++ [v7], m + 1) (by (try dsimp only); omega) (by (try dsimp only); exact ⟨by simp; omega, by omega⟩))
    exact ⟨⟨rfl, ⟨rfl, ⟨rfl, ⟨rfl, ⟨rfl, ⟨(eqI (wr64 (by omega) (by omega))), trivial⟩⟩⟩⟩⟩⟩, ⟨rfl, ⟨rfl, ⟨(eqR (by exact filt_hit hz4 rfl (by assumption))), ⟨(eqR (tkL_set i0 (by omega))), trivial⟩⟩⟩⟩, rfl⟩
   ·
    have h11' := h11
    refine t_skip ?_
    refine t_endblock ?_
    refine t_region ?_
    refine r_op oM ?_
    refine r_op oB ?_
    refine r_op oA ?_
    refine r_end ?_
    refine t_le ?_ (ih0 (vs ++ [v7], m + 1) (by (try dsimp only); omega) (by (try dsimp only); exact ⟨by simp; omega, by omega⟩))
    exact ⟨⟨rfl, ⟨rfl, ⟨rfl, ⟨rfl, ⟨rfl, ⟨(eqI (wr64 (by omega) (by omega))), trivial⟩⟩⟩⟩⟩⟩, ⟨rfl, ⟨rfl, ⟨(eqR (by exact filt_miss hz4 rfl (by assumption))), ⟨(eqR (tkL_set i0 (by omega))), trivial⟩⟩⟩⟩, rfl⟩
  ·
   have h2' := of_decide_eq_false h2
   refine t_exit rfl ?_
   refine tsr ?_
   refine r_op oM ?_
   refine r_op oA ?_
   refine r_end ?_
   refine t_ret Tryz.func27 (.tmp rfl .nil) rfl fun E S w u hI hd => ?_
   refine post_mk hI hd ?_ ⟨eqR ?_, trivial⟩ rfl rfl rfl <;> clear hI hd <;> (try clear ih0)
   all_goals first | rfl | ((exact actL_yes (by assumption) (by omega)))
set_option maxHeartbeats 1000000 in
set_option maxRecDepth 10000 in
theorem c_spec_FirstViolation (rs : Rels) (fs : Atoms) (ds : List Dep) (hrs : rs.length ≤ 4611686018427387904) (hfs : szS (fun (x : Int × (List (Int))) => (x.2).length) fs ≤ 1048576) (hds : szS (fun (x : (List (Int × (List (Int)))) × (List (Int × (List (Int)))) × Bool × Int × Int) => (szS (fun (x : Int × (List (Int))) => (x.2).length) (x.1)) + (szS (fun (x : Int × (List (Int))) => (x.2).length) (x.2.1))) ds ≤ 1048576) (ho : ∀ z ∈ fs, ∀ x ∈ z.2, okI x) (hod : ∀ d ∈ ds, ∀ z ∈ d.1, ∀ x ∈ z.2, okI x) : PuE Tryz.prog 30 [.agg [.t none (.sl 3 (enS3 encS encI encB) (rs)), .t none (.sl 2 (enS2 encI (enSl 1 encI)) (fs))], .c (.t none (.sl 5 (enS5 (enSl 2 (enS2 encI (enSl 1 encI))) (enSl 2 (enS2 encI (enSl 1 encI))) encB encI encI) (ds)))] (fun et => [(0, some (.row none et true 1 encI (vioB rs fs ds)))]) 1 (.tup [(false, [.t none (.v (.int .i64 (vioI rs fs ds)))]), (false, [.own 0]), (false, [.t none (.v (.bool (vioOk rs fs ds)))])]) := by
 refine pu_enterE Tryz.func30 rfl (Nat.le_of_ble_eq_true rfl) fun w S => ?_
 have gl := sz_len (f := (fun (x : (List (Int × (List (Int)))) × (List (Int × (List (Int)))) × Bool × Int × Int) => (szS (fun (x : Int × (List (Int))) => (x.2).length) (x.1)) + (szS (fun (x : Int × (List (Int))) => (x.2).length) (x.2.1)))) (l := ds)
 refine tsr ?_
 refine r_op (o_box 0 rfl rfl rfl rfl) ?_
 refine r_op oA ?_
 refine r_op oA ?_
 refine r_op oA ?_
 refine r_end ?_
 refine t_seq ?_
 refine tsr ?_
 refine r_op oA ?_
 refine r_end ?_
 refine t_block ?_
 refine t_loopL (fun m => ⟨[(1, some (.c (.t none (.sl 5 (enS5 (enSl 2 (enS2 encI (enSl 1 encI))) (enSl 2 (enS2 encI (enSl 1 encI))) encB encI encI) (ds))))), (2, some (.c (.ptr 0 0))), (7, some (.c (.t none (.v (.int .i64 ((m : Int)))))))], [(0, some (.box [.t none (.sl 3 (enS3 encS encI encB) (rs)), .t none (.sl 2 (enS2 encI (enSl 1 encI)) (fs))]))], 1⟩ : Nat → St) (fun m => m ≤ ds.length ∧ ∀ j z, j < m → ds[j]? = some z → hotD rs fs z = false) (fun m => ds.length - m) 0 ⟨⟨rfl, ⟨rfl, ⟨rfl, trivial⟩⟩⟩, ⟨rfl, trivial⟩, rfl⟩ (by exact ⟨Nat.zero_le _, fun j z h => by omega⟩) ?_
 rintro m hI ih0
 try dsimp only at hI ih0
 obtain ⟨i1, i2⟩ := hI
 refine t_seq ?_
 refine tsr ?_
 refine r_op oM ?_
 refine r_op oM ?_
 refine r_op (o_len rfl rfl rfl) ?_
 refine r_op oB ?_
 refine r_op oM ?_
 refine r_guard rfl rfl rfl (fun g1 => ?_) (fun g1 => ?_)
 ·
  have g1' := of_decide_eq_true g1
  refine r_op (oF 0) ?_
  refine r_guard rfl rfl rfl (fun _ => ?_) (nc g1)
  refine r_op oL ?_
  refine r_guard rfl rfl rfl (fun _ => ?_) (nc g1)
  refine r_op oM ?_
  refine r_guard rfl rfl rfl (fun _ => ?_) (nc g1)
  refine r_op (o_call 1 1 false (Go.Proofs.enters_of Tryz.func35 (by kernel_rfl) rfl) (c_spec_AreValidDependencies (rs) (ds) (by omega) (by omega)) rfl (.cons rfl (.c .t0) (.cons rfl (.c .t0) .nil)) rfl rfl rfl) ?_
  refine r_op (o_pickT rfl rfl g1 rfl) ?_
  refine r_op oM ?_
  refine r_guard rfl rfl rfl (fun g2 => ?_) (fun g2 => ?_)
  ·
   have g2' := g2
   refine r_op (oC 2) ?_
   refine r_guard rfl rfl rfl (fun _ => ?_) (nc g2)
   refine r_op (o_call 1 1 false (Go.Proofs.enters_of Tryz.func34 (by kernel_rfl) rfl) (c_spec_IsValidInstance (rs) (fs) (by omega) (by omega) (by omega)) rfl (.cons rfl (.agg (.cons .t0 (.cons .t0 .nil))) .nil) rfl rfl rfl) ?_
   refine r_op (o_pickT rfl rfl g2 rfl) ?_
   refine r_end ?_
   refine t_cond rfl (fun h3 => ?_) (fun h3 => ?_)
   ·
    have h3' := h3
    refine t_skip ?_
    refine t_seq ?_
    refine t_block ?_
    refine t_seq ?_
    refine t_draw (fun _ => true) (by kernel_rfl) ?_
    refine dT 0 rfl (pC 2) ?_
    refine dT 1 rfl pM ?_
    refine dT 2 rfl pM ?_
    obtain ⟨z4, hz5, b6⟩ := at_get (xs := ds) (n := (m : Int)) (by omega) (by omega)
    refine dT 3 rfl (p_index (by kernel_rfl) rfl rfl b6 hz5) ?_
    refine dT 4 rfl (p_loadA (n := 5) (by kernel_rfl) (by kernel_rfl) rfl rfl) ?_
    refine dO 5 rfl (o_call 1 4 false (Go.Proofs.enters_of Tryz.func27 (by kernel_rfl) rfl) (c_spec_ActiveTriggers (rs) (fs) (z4.1) (z4.2.1) (z4.2.2.1) (z4.2.2.2.1) (z4.2.2.2.2) (by omega) (by omega) (by omega) (by (have e1 := sz_at (f := (fun (x : (List (Int × (List (Int)))) × (List (Int × (List (Int)))) × Bool × Int × Int) => (szS (fun (x : Int × (List (Int))) => (x.2).length) (x.1)) + (szS (fun (x : Int × (List (Int))) => (x.2).length) (x.2.1)))) (l := ds) (m := m) (by assumption); (try dsimp only at e1); omega)) (by exact hod _ (List.mem_of_getElem? (by assumption)))) rfl (.cons rfl (.agg (.cons .t0 (.cons .t0 .nil))) (.cons rfl (.agg (.cons .t0 (.cons .t0 (.cons .t0 (.cons .t0 (.cons .t0 .nil)))))) .nil)) rfl rfl rfl) ?_
    refine dT 6 rfl pA ?_
    refine d_end (by kernel_rfl) ?_
    refine tsr ?_
    refine r_op oM ?_
    refine r_op (o_leno rfl rfl rfl rfl) ?_
    refine r_op oB ?_
    refine r_end ?_
    refine t_cond rfl (fun h7 => ?_) (fun h7 => ?_)
    ·
     have h7' := of_decide_eq_true h7
     refine t_seq ?_
     refine gt_sum 3 rfl ?_
     obtain ⟨z8, hz9, b10⟩ := at_get (xs := actL rs fs z4.1 z4.2.1 z4.2.2.1 z4.2.2.2.1 z4.2.2.2.2) (n := (0 : Int)) (by omega) (by omega)
     refine gt_take0 4 3 rfl rfl (tkL_at (by rfl) hz9) fun e11 v12 => ?_
     refine t_draw (fun _ => true) (by kernel_rfl) ?_
     refine dT 0 rfl pM ?_
     refine dT 1 rfl pM ?_
     obtain ⟨z13, hz14, b15⟩ := at_get (xs := (tkL [] (actL rs fs z4.1 z4.2.1 z4.2.2.1 z4.2.2.2.1 z4.2.2.2.2)).set (0 : Int).toNat (.inl v12)) (n := 0) (by omega) (by (rw [tk_len2 (Nat.zero_le _)]; omega))
     refine dT 2 rfl (p_indexo (by kernel_rfl) rfl rfl rfl b15 (at_lt b15 hz14)) ?_
     refine dT 3 rfl (p_loadpin (k := 4) (o := 0) (by kernel_rfl) rfl rfl (tk_got (by rfl) (by omega)) rfl) ?_
     refine dT 4 rfl pA ?_
     refine dT 5 rfl pA ?_
     refine dT 6 rfl pA ?_
     refine d_end (by kernel_rfl) ?_
     refine gt_as [4] rfl ?_ rfl
     refine t_ret Tryz.func30 (.tmp rfl (.tmp rfl (.tmp rfl .nil))) rfl fun E S w u hI hd => ?_
     refine ⟨_, post_mk hI hd ?_ ⟨eqR ?_, trivial⟩ rfl rfl rfl⟩ <;> clear hI hd <;> (try clear ih0)
     all_goals ((have v1 := vio_hit (rs := rs) (fs := fs) (by assumption) (by assumption) i2 hz5 (hotD_pos (by assumption)) hz9; first | exact v1.2.2.symm | exact tup3V v1.2.1.symm v1.1.symm))
    ·
     have h7' := of_decide_eq_false h7
     refine t_skip ?_
     refine t_endblock ?_
     refine t_region ?_
     refine r_op oM ?_
     refine r_op oB ?_
     refine r_op oA ?_
     refine r_end ?_
     refine t_le ?_ (ih0 (m + 1) (by (try dsimp only); omega) (by (try dsimp only); exact ⟨by omega, no_step i2 hz5 rfl (hotD_not (by assumption))⟩))
     exact ⟨⟨rfl, ⟨rfl, ⟨(eqI (wr64 (by omega) (by omega))), trivial⟩⟩⟩, ⟨rfl, trivial⟩, rfl⟩
   ·
    have h3' := h3
    refine t_exit rfl ?_
    refine tsr ?_
    refine r_op (o_lit0 1 (e := 3) (sz := 1) (zs := [.int .i64 (0)]) encI rfl rfl (by kernel_rfl) rfl) ?_
    refine r_op oA ?_
    refine r_op oA ?_
    refine r_op oA ?_
    refine r_end ?_
    refine gt_as [1] rfl ?_ rfl
    refine t_ret Tryz.func30 (.tmp rfl (.tmp rfl (.tmp rfl .nil))) rfl fun E S w u hI hd => ?_
    refine ⟨_, post_mk hI hd ?_ ⟨eqR ?_, trivial⟩ rfl rfl rfl⟩ <;> clear hI hd <;> (try clear ih0)
    all_goals (((have v0 : vioOk rs fs ds = false := (by exact vio_bad1 (by assumption))); have v1 := vio_off v0; first | exact v1.2.symm | exact tup3V v1.1.symm v0.symm))
  ·
   have g2' := g2
   refine r_guard rfl rfl rfl (ncf g2) (fun _ => ?_)
   refine r_op (o_pickF rfl rfl g2 rfl) ?_
   refine r_end ?_
   refine t_cond rfl (ncf rfl) (fun _ => ?_)
   refine t_exit rfl ?_
   refine tsr ?_
   refine r_op (o_lit0 1 (e := 3) (sz := 1) (zs := [.int .i64 (0)]) encI rfl rfl (by kernel_rfl) rfl) ?_
   refine r_op oA ?_
   refine r_op oA ?_
   refine r_op oA ?_
   refine r_end ?_
   refine gt_as [1] rfl ?_ rfl
   refine t_ret Tryz.func30 (.tmp rfl (.tmp rfl (.tmp rfl .nil))) rfl fun E S w u hI hd => ?_
   refine ⟨_, post_mk hI hd ?_ ⟨eqR ?_, trivial⟩ rfl rfl rfl⟩ <;> clear hI hd <;> (try clear ih0)
   all_goals (((have v0 : vioOk rs fs ds = false := (by exact vio_bad2 (by assumption))); have v1 := vio_off v0; first | exact v1.2.symm | exact tup3V v1.1.symm v0.symm))
 ·
  have g1' := of_decide_eq_false g1
  refine r_guard rfl rfl rfl (ncf g1) (fun _ => ?_)
  refine r_guard rfl rfl rfl (ncf g1) (fun _ => ?_)
  refine r_guard rfl rfl rfl (ncf g1) (fun _ => ?_)
  refine r_op (o_pickF rfl rfl g1 rfl) ?_
  refine r_op oM ?_
  refine r_guard rfl rfl rfl (ncf rfl) (fun _ => ?_)
  refine r_guard rfl rfl rfl (ncf rfl) (fun _ => ?_)
  refine r_op (o_pickF rfl rfl rfl rfl) ?_
  refine r_end ?_
  refine t_cond rfl (ncf rfl) (fun _ => ?_)
  refine t_exit rfl ?_
  refine tsr ?_
  refine r_op (o_lit0 1 (e := 3) (sz := 1) (zs := [.int .i64 (0)]) encI rfl rfl (by kernel_rfl) rfl) ?_
  refine r_op oA ?_
  refine r_op oA ?_
  refine r_op oA ?_
  refine r_end ?_
  refine gt_as [1] rfl ?_ rfl
  refine t_ret Tryz.func30 (.tmp rfl (.tmp rfl (.tmp rfl .nil))) rfl fun E S w u hI hd => ?_
  refine ⟨_, post_mk hI hd ?_ ⟨eqR ?_, trivial⟩ rfl rfl rfl⟩ <;> clear hI hd <;> (try clear ih0)
  all_goals (((have v0 : vioOk rs fs ds = false := (by exact vio_none i2 (by omega))); have v1 := vio_off v0; first | exact v1.2.symm | exact tup3V v1.1.symm v0.symm))
set_option maxHeartbeats 1000000 in
set_option maxRecDepth 10000 in
theorem c_impl_Satisfies (rs : Rels) (fs : Atoms) (ds : List Dep) (hrs : rs.length ≤ 4611686018427387904) (hfs : szS (fun (x : Int × (List (Int))) => (x.2).length) fs ≤ 1048576) (hds : szS (fun (x : (List (Int × (List (Int)))) × (List (Int × (List (Int)))) × Bool × Int × Int) => (szS (fun (x : Int × (List (Int))) => (x.2).length) (x.1)) + (szS (fun (x : Int × (List (Int))) => (x.2).length) (x.2.1))) ds ≤ 1048576) (ho : ∀ z ∈ fs, ∀ x ∈ z.2, okI x) (hod : ∀ d ∈ ds, ∀ z ∈ d.1, ∀ x ∈ z.2, okI x) : Pu Tryz.prog 31 [.agg [.t none (.sl 3 (enS3 encS encI encB) (rs)), .t none (.sl 2 (enS2 encI (enSl 1 encI)) (fs))], .c (.t none (.sl 5 (enS5 (enSl 2 (enS2 encI (enSl 1 encI))) (enSl 2 (enS2 encI (enSl 1 encI))) encB encI encI) (ds)))] [] 0 (.c (.t none (.v (.bool (vioS rs fs ds))))) := by
 refine pu_enter Tryz.func31 rfl (Nat.le_of_ble_eq_true rfl) fun w S => ?_
 have gl := sz_len (f := (fun (x : (List (Int × (List (Int)))) × (List (Int × (List (Int)))) × Bool × Int × Int) => (szS (fun (x : Int × (List (Int))) => (x.2).length) (x.1)) + (szS (fun (x : Int × (List (Int))) => (x.2).length) (x.2.1)))) (l := ds)
 refine tsr ?_
 refine r_op (o_box 0 rfl rfl rfl rfl) ?_
 refine r_op oA ?_
 refine etr ?_
 refine r_op (oC 2) ?_
 refine r_op oM ?_
 refine r_opE (o_callE 1 2 (Go.Proofs.enters_of Tryz.func29 (by kernel_rfl) rfl) (c_impl_FirstViolation (rs) (fs) (ds) (by omega) (by omega) (by omega) (by omega) (by omega)) rfl (.cons rfl (.agg (.cons .t0 (.cons .t0 .nil))) (.cons rfl (.c .t0) .nil)) (fun _ => rfl) rfl rfl) fun e1 => ?_
 refine r_op oM ?_
 refine r_op (o_extract rfl rfl rfl rfl) ?_
 refine r_op (o_extract rfl rfl rfl rfl) ?_
 refine r_op (o_extract rfl rfl rfl rfl) ?_
 refine r_op oA ?_
 refine r_op oA ?_
 refine r_op oA ?_
 refine etr ?_
 refine r_op oM ?_
 refine r_op (o_not rfl rfl) ?_
 refine r_op oM ?_
 refine r_guard rfl rfl rfl (fun g2 => ?_) (fun g2 => ?_)
 ·
  have g2' := (bnt g2)
  refine r_op (oC 2) ?_
  refine r_guard rfl rfl rfl (fun _ => ?_) (nc g2)
  refine r_op (o_call 2 2 false (Go.Proofs.enters_of Tryz.func45 (by kernel_rfl) rfl) (c_impl_IsValidInstance (rs) (fs) (by omega) (by omega) (by omega)) rfl (.cons rfl (.agg (.cons .t0 (.cons .t0 .nil))) .nil) rfl rfl rfl) ?_
  refine r_op (o_pickT rfl rfl g2 rfl) ?_
  refine r_op oM ?_
  refine r_guard rfl rfl rfl (fun g3 => ?_) (fun g3 => ?_)
  ·
   have g3' := g3
   refine r_op (oF 0) ?_
   refine r_guard rfl rfl rfl (fun _ => ?_) (nc g3)
   refine r_op oL ?_
   refine r_guard rfl rfl rfl (fun _ => ?_) (nc g3)
   refine r_op oM ?_
   refine r_guard rfl rfl rfl (fun _ => ?_) (nc g3)
   refine r_op (o_call 2 2 false (Go.Proofs.enters_of Tryz.func73 (by kernel_rfl) rfl) (c_impl_AreValidDependencies (rs) (ds) (by omega) (by omega)) rfl (.cons rfl (.c .t0) (.cons rfl (.c .t0) .nil)) rfl rfl rfl) ?_
   refine r_op (o_pickT rfl rfl g3 rfl) ?_
   refine r_op oA ?_
   refine r_end ?_
   refine t_ret Tryz.func31 (.tmp rfl .nil) rfl fun E S w u hI hd => ?_
   refine post_mk hI hd ?_ trivial rfl rfl rfl <;> clear hI hd
   all_goals (refine scB ?_; unfold vioS; clear hrs hfs hds ho hod gl; grind)
  ·
   have g3' := g3
   refine r_guard rfl rfl rfl (ncf g3) (fun _ => ?_)
   refine r_guard rfl rfl rfl (ncf g3) (fun _ => ?_)
   refine r_guard rfl rfl rfl (ncf g3) (fun _ => ?_)
   refine r_op (o_pickF rfl rfl g3 rfl) ?_
   refine r_op oA ?_
   refine r_end ?_
   refine t_ret Tryz.func31 (.tmp rfl .nil) rfl fun E S w u hI hd => ?_
   refine post_mk hI hd ?_ trivial rfl rfl rfl <;> clear hI hd
   all_goals (refine scB ?_; unfold vioS; clear hrs hfs hds ho hod gl; grind)
 ·
  have g2' := (bnf g2)
  refine r_guard rfl rfl rfl (ncf g2) (fun _ => ?_)
  refine r_op (o_pickF rfl rfl g2 rfl) ?_
  refine r_op oM ?_
  refine r_guard rfl rfl rfl (ncf rfl) (fun _ => ?_)
  refine r_guard rfl rfl rfl (ncf rfl) (fun _ => ?_)
  refine r_guard rfl rfl rfl (ncf rfl) (fun _ => ?_)
  refine r_guard rfl rfl rfl (ncf rfl) (fun _ => ?_)
  refine r_op (o_pickF rfl rfl rfl rfl) ?_
  refine r_op oA ?_
  refine r_end ?_
  refine t_ret Tryz.func31 (.tmp rfl .nil) rfl fun E S w u hI hd => ?_
  refine post_mk hI hd ?_ trivial rfl rfl rfl <;> clear hI hd
  all_goals (refine scB ?_; unfold vioS; clear hrs hfs hds ho hod gl; grind)
set_option maxHeartbeats 1000000 in
set_option maxRecDepth 10000 in
theorem c_laws_sameInts (a b : List Int) (ha : a.length ≤ 4611686018427387904) : Pu Tryz.prog 32 [.c (.t none (.sl 1 encI (a))), .c (.t none (.sl 1 encI (b)))] [] 0 (.c (.t none (.v (.bool (decide (a = b)))))) := by
 refine pu_enter Tryz.func32 rfl (Nat.le_of_ble_eq_true rfl) fun w S => ?_
 refine tsr ?_
 refine r_op oA ?_
 refine r_end ?_
 refine t_seq ?_
 refine tsr ?_
 refine r_op oM ?_
 refine r_op (o_len rfl rfl rfl) ?_
 refine r_op oM ?_
 refine r_op (o_len rfl rfl rfl) ?_
 refine r_op oB ?_
 refine r_end ?_
 refine t_cond rfl (fun h1 => ?_) (fun h1 => ?_)
 ·
  have h1' := of_decide_eq_true h1
  refine tsr ?_
  refine r_op oA ?_
  refine r_end ?_
  refine t_ret Tryz.func32 (.tmp rfl .nil) rfl fun E S w u hI hd => ?_
  refine post_mk hI hd ?_ trivial rfl rfl rfl <;> clear hI hd <;> (try clear ih0)
  all_goals ((have : a ≠ b := by rintro rfl; simp at *); simp [this])
 ·
  have h1' := of_decide_eq_false h1
  refine t_skip ?_
  refine t_seq ?_
  refine tsr ?_
  refine r_op oA ?_
  refine r_end ?_
  refine t_block ?_
  refine t_loopL (fun m => ⟨[(0, some (.c (.t none (.sl 1 encI (a))))), (1, some (.c (.t none (.sl 1 encI (b))))), (5, some (.c (.t none (.v (.int .i64 ((m : Int)))))))], [], 0⟩ : Nat → St) (fun m => m ≤ a.length ∧ a.length = b.length ∧ a.take m = b.take m) (fun m => a.length - m) 0 ⟨⟨rfl, ⟨rfl, ⟨rfl, trivial⟩⟩⟩, trivial, rfl⟩ (by exact ⟨Nat.zero_le _, by omega, rfl⟩) ?_
  rintro m hI ih0
  try dsimp only at hI ih0
  obtain ⟨i1, i2, i3⟩ := hI
  refine t_seq ?_
  refine tsr ?_
  refine r_op oM ?_
  refine r_op oM ?_
  refine r_op (o_len rfl rfl rfl) ?_
  refine r_op oB ?_
  refine r_end ?_
  refine t_cond rfl (fun h2 => ?_) (fun h2 => ?_)
  ·
   have h2' := of_decide_eq_true h2
   refine t_skip ?_
   refine t_seq ?_
   refine t_block ?_
   refine t_seq ?_
   refine t_draw (fun _ => true) (by kernel_rfl) ?_
   refine dT 0 rfl pM ?_
   refine dT 1 rfl pM ?_
   obtain ⟨z3, hz4, b5⟩ := at_get (xs := a) (n := (m : Int)) (by omega) (by omega)
   refine dT 2 rfl (p_index (by kernel_rfl) rfl rfl b5 hz4) ?_
   refine dT 3 rfl (p_load1 (by kernel_rfl) rfl rfl) ?_
   refine dT 4 rfl pM ?_
   refine dT 5 rfl pM ?_
   obtain ⟨z6, hz7, b8⟩ := at_get (xs := b) (n := (m : Int)) (by omega) (by omega)
   refine dT 6 rfl (p_index (by kernel_rfl) rfl rfl b8 hz7) ?_
   refine dT 7 rfl (p_load1 (by kernel_rfl) rfl rfl) ?_
   refine dT 8 rfl pB ?_
   refine d_end (by kernel_rfl) ?_
   refine t_cond rfl (fun h9 => ?_) (fun h9 => ?_)
   ·
    have h9' := of_decide_eq_true h9
    refine tsr ?_
    refine r_op oA ?_
    refine r_end ?_
    refine t_ret Tryz.func32 (.tmp rfl .nil) rfl fun E S w u hI hd => ?_
    refine post_mk hI hd ?_ trivial rfl rfl rfl <;> clear hI hd <;> (try clear ih0)
    all_goals (have := ne_at (a := a) (b := b) (by assumption) (by assumption) (by assumption); simp_all)
   ·
    have h9' := of_decide_eq_false h9
    refine t_skip ?_
    refine t_endblock ?_
    refine t_region ?_
    refine r_op oM ?_
    refine r_op oB ?_
    refine r_op oA ?_
    refine r_end ?_
    refine t_le ?_ (ih0 (m + 1) (by (try dsimp only); omega) (by (try dsimp only); exact ⟨by omega, i2, take_same i3 (same_at (by assumption) (by assumption) (by omega))⟩))
    exact ⟨⟨rfl, ⟨rfl, ⟨(eqI (wr64 (by omega) (by omega))), trivial⟩⟩⟩, trivial, rfl⟩
  ·
   have h2' := of_decide_eq_false h2
   refine t_exit rfl ?_
   refine tsr ?_
   refine r_op oA ?_
   refine r_end ?_
   refine t_ret Tryz.func32 (.tmp rfl .nil) rfl fun E S w u hI hd => ?_
   refine post_mk hI hd ?_ trivial rfl rfl rfl <;> clear hI hd <;> (try clear ih0)
   all_goals ((obtain rfl : m = a.length := by omega); rw [List.take_length, i2, List.take_length] at i3; simp [i3])
set_option maxHeartbeats 1000000 in
set_option maxRecDepth 10000 in
theorem c_spec_Satisfies (rs : Rels) (fs : Atoms) (ds : List Dep) (hrs : rs.length ≤ 4611686018427387904) (hfs : szS (fun (x : Int × (List (Int))) => (x.2).length) fs ≤ 1048576) (hds : szS (fun (x : (List (Int × (List (Int)))) × (List (Int × (List (Int)))) × Bool × Int × Int) => (szS (fun (x : Int × (List (Int))) => (x.2).length) (x.1)) + (szS (fun (x : Int × (List (Int))) => (x.2).length) (x.2.1))) ds ≤ 1048576) (ho : ∀ z ∈ fs, ∀ x ∈ z.2, okI x) (hod : ∀ d ∈ ds, ∀ z ∈ d.1, ∀ x ∈ z.2, okI x) : Pu Tryz.prog 33 [.agg [.t none (.sl 3 (enS3 encS encI encB) (rs)), .t none (.sl 2 (enS2 encI (enSl 1 encI)) (fs))], .c (.t none (.sl 5 (enS5 (enSl 2 (enS2 encI (enSl 1 encI))) (enSl 2 (enS2 encI (enSl 1 encI))) encB encI encI) (ds)))] [] 0 (.c (.t none (.v (.bool (vioS rs fs ds))))) := by
 refine pu_enter Tryz.func33 rfl (Nat.le_of_ble_eq_true rfl) fun w S => ?_
 have gl := sz_len (f := (fun (x : (List (Int × (List (Int)))) × (List (Int × (List (Int)))) × Bool × Int × Int) => (szS (fun (x : Int × (List (Int))) => (x.2).length) (x.1)) + (szS (fun (x : Int × (List (Int))) => (x.2).length) (x.2.1)))) (l := ds)
 refine tsr ?_
 refine r_op (o_box 0 rfl rfl rfl rfl) ?_
 refine r_op oA ?_
 refine etr ?_
 refine r_op (oC 2) ?_
 refine r_op oM ?_
 refine r_opE (o_callE 1 2 (Go.Proofs.enters_of Tryz.func30 (by kernel_rfl) rfl) (c_spec_FirstViolation (rs) (fs) (ds) (by omega) (by omega) (by omega) (by omega) (by omega)) rfl (.cons rfl (.agg (.cons .t0 (.cons .t0 .nil))) (.cons rfl (.c .t0) .nil)) (fun _ => rfl) rfl rfl) fun e1 => ?_
 refine r_op oM ?_
 refine r_op (o_extract rfl rfl rfl rfl) ?_
 refine r_op (o_extract rfl rfl rfl rfl) ?_
 refine r_op (o_extract rfl rfl rfl rfl) ?_
 refine r_op oA ?_
 refine r_op oA ?_
 refine r_op oA ?_
 refine etr ?_
 refine r_op (oC 2) ?_
 refine r_op (o_call 2 2 false (Go.Proofs.enters_of Tryz.func34 (by kernel_rfl) rfl) (c_spec_IsValidInstance (rs) (fs) (by omega) (by omega) (by omega)) rfl (.cons rfl (.agg (.cons .t0 (.cons .t0 .nil))) .nil) rfl rfl rfl) ?_
 refine r_op oM ?_
 refine r_guard rfl rfl rfl (fun g2 => ?_) (fun g2 => ?_)
 ·
  have g2' := g2
  refine r_op (oF 0) ?_
  refine r_guard rfl rfl rfl (fun _ => ?_) (nc g2)
  refine r_op oL ?_
  refine r_guard rfl rfl rfl (fun _ => ?_) (nc g2)
  refine r_op oM ?_
  refine r_guard rfl rfl rfl (fun _ => ?_) (nc g2)
  refine r_op (o_call 2 2 false (Go.Proofs.enters_of Tryz.func35 (by kernel_rfl) rfl) (c_spec_AreValidDependencies (rs) (ds) (by omega) (by omega)) rfl (.cons rfl (.c .t0) (.cons rfl (.c .t0) .nil)) rfl rfl rfl) ?_
  refine r_op (o_pickT rfl rfl g2 rfl) ?_
  refine r_op oM ?_
  refine r_guard rfl rfl rfl (fun g3 => ?_) (fun g3 => ?_)
  ·
   have g3' := g3
   refine r_op oM ?_
   refine r_guard rfl rfl rfl (fun _ => ?_) (nc g3)
   refine r_op (o_not rfl rfl) ?_
   refine r_op (o_pickT rfl rfl g3 rfl) ?_
   refine r_op oA ?_
   refine r_end ?_
   refine t_ret Tryz.func33 (.tmp rfl .nil) rfl fun E S w u hI hd => ?_
   refine post_mk hI hd ?_ trivial rfl rfl rfl <;> clear hI hd
   all_goals (refine scB ?_; unfold vioS; clear hrs hfs hds ho hod gl; grind)
  ·
   have g3' := g3
   refine r_guard rfl rfl rfl (ncf g3) (fun _ => ?_)
   refine r_op (o_pickF rfl rfl g3 rfl) ?_
   refine r_op oA ?_
   refine r_end ?_
   refine t_ret Tryz.func33 (.tmp rfl .nil) rfl fun E S w u hI hd => ?_
   refine post_mk hI hd ?_ trivial rfl rfl rfl <;> clear hI hd
   all_goals (refine scB ?_; unfold vioS; clear hrs hfs hds ho hod gl; grind)
 ·
  have g2' := g2
  refine r_guard rfl rfl rfl (ncf g2) (fun _ => ?_)
  refine r_guard rfl rfl rfl (ncf g2) (fun _ => ?_)
  refine r_guard rfl rfl rfl (ncf g2) (fun _ => ?_)
  refine r_op (o_pickF rfl rfl g2 rfl) ?_
  refine r_op oM ?_
  refine r_guard rfl rfl rfl (ncf rfl) (fun _ => ?_)
  refine r_guard rfl rfl rfl (ncf rfl) (fun _ => ?_)
  refine r_op (o_pickF rfl rfl rfl rfl) ?_
  refine r_op oA ?_
  refine r_end ?_
  refine t_ret Tryz.func33 (.tmp rfl .nil) rfl fun E S w u hI hd => ?_
  refine post_mk hI hd ?_ trivial rfl rfl rfl <;> clear hI hd
  all_goals (refine scB ?_; unfold vioS; clear hrs hfs hds ho hod gl; grind)
set_option maxHeartbeats 1000000 in
set_option maxRecDepth 10000 in
theorem c_spec_Restrict (rs : Rels) (fs : Atoms) (t : Bool) (hrs : rs.length ≤ 1048576) (hfs : szS (fun (x : Int × (List (Int))) => (x.2).length) fs ≤ 1048576) (ho : ∀ z ∈ fs, ∀ x ∈ z.2, okI x) : Pu Tryz.prog 77 [.agg [.t none (.sl 3 (enS3 encS encI encB) (rs)), .t none (.sl 2 (enS2 encI (enSl 1 encI)) (fs))], .c (.t none (.v (.bool (t))))] [] 0 (.agg [.t none (.sl 3 (enS3 encS encI encB) (rstR rs fs)), .t none (.sl 2 (enS2 encI (enSl 1 encI)) (rstF rs fs t))]) := by
 refine pu_enter Tryz.func77 rfl (Nat.le_of_ble_eq_true rfl) fun w S => ?_
 have gl := sz_len (f := (fun (x : Int × (List (Int))) => (x.2).length)) (l := fs)
 refine tsr ?_
 refine r_op (o_box 0 rfl rfl rfl rfl) ?_
 refine r_op (o_alloc 1 (zs := [.slice none 0 0, .slice none 0 0]) rfl rfl (by kernel_rfl) rfl) ?_
 refine r_end ?_
 refine t_seq ?_
 refine tsr ?_
 refine r_op (oC 2) ?_
 refine r_op (o_call 2 2 false (Go.Proofs.enters_of Tryz.func34 (by kernel_rfl) rfl) (c_spec_IsValidInstance (rs) (fs) (by omega) (by omega) (by omega)) rfl (.cons rfl (.agg (.cons .t0 (.cons .t0 .nil))) .nil) rfl rfl rfl) ?_
 refine r_op (o_not rfl rfl) ?_
 refine r_end ?_
 refine t_cond rfl (fun h1 => ?_) (fun h1 => ?_)
 ·
  have h1' := (bnt h1)
  refine tsr ?_
  refine r_op (o_build rfl (pl := [(0, 1), (1, 1)]) (zs := [.slice none 0 0, .slice none 0 0]) (by kernel_rfl) (by kernel_rfl) rfl rfl rfl) ?_
  refine r_op (oS 2) ?_
  refine r_end ?_
  refine gt_nilb 2 (b := 1) (o := 0) (et := 94) (sz := 3) true (enS3 encS encI encB) rfl rfl rfl ?_
  refine gt_nilb 3 (b := 1) (o := 1) (et := 36) (sz := 2) true (enS2 encI (enSl 1 encI)) rfl rfl rfl ?_
  refine gt_freeze 2 rfl (frz_pu rfl) ?_
  refine gt_freeze 3 rfl (frz_pu rfl) ?_
  refine t_ret Tryz.func77 (.cells (n := 2) (by kernel_rfl) (by kernel_rfl) rfl rfl rfl .nil) rfl fun E S w u hI hd => ?_
  refine post_mk hI hd ?_ trivial rfl rfl rfl <;> clear hI hd <;> (try clear ih0)
  all_goals (have e7 : instOk rs fs = false := (by assumption); have e8 := res_no (t := t) e7; rw [e8.1, e8.2]; rfl)
 ·
  have h1' := (bnf h1)
  refine t_skip ?_
  refine tsr ?_
  refine r_op (o_lit0 2 (e := 94) (sz := 3) (zs := [.string (mkS ([])), .int .i64 (0), .bool (false)]) (enS3 encS encI encB) rfl rfl (by kernel_rfl) rfl) ?_
  refine r_op (oF 0) ?_
  refine r_op oL ?_
  refine r_op (o_appendS 2 (e := 94) (sz := 3) (by' := 32) rfl (by kernel_rfl) rfl rfl rfl rfl (fun _ j => by rcases j with _ | _ | j <;> exact ⟨_, rfl⟩) (by (simp; omega)) (by (simp; omega))) ?_
  refine r_op (o_build rfl (pl := [(0, 1), (1, 1)]) (zs := [.slice none 0 0, .slice none 0 0]) (by kernel_rfl) (by kernel_rfl) rfl rfl rfl) ?_
  refine r_op (o_alloc 3 (zs := [.slice none 0 0, .slice none 0 0]) rfl rfl (by kernel_rfl) rfl) ?_
  refine r_op (oS 2) ?_
  refine r_end ?_
  refine t_seq ?_
  refine tsr ?_
  refine r_op oA ?_
  refine r_end ?_
  refine t_block ?_
  refine gt_nilb 4 (b := 3) (o := 1) (et := 36) (sz := 2) true (enS2 encI (enSl 1 encI)) rfl rfl rfl ?_
  refine t_loopL (fun m => ⟨[(1, some (.c (.t none (.v (.bool (t)))))), (2, some (.c (.ptr 0 0))), (4, some (.c (.ptr 1 0))), (5, some (.c (.ptr 3 0))), (6, some (.c (.t none (.v (.int .i64 ((m : Int)))))))], [(0, some (.box [.t none (.sl 3 (enS3 encS encI encB) (rs)), .t none (.sl 2 (enS2 encI (enSl 1 encI)) (fs))])), (1, some (.box [.t none (.v (.slice none 0 0)), .t none (.v (.slice none 0 0))])), (2, some (.row none 94 true 3 (enS3 encS encI encB) ([] ++ rs))), (3, some (.box [.own 2, .own 4])), (4, some (.row none 36 true 2 (enS2 encI (enSl 1 encI)) ((fs.take m).filter (keepF rs t))))], 5⟩ : Nat → St) (fun m => m ≤ fs.length) (fun m => fs.length - m) 0 ⟨⟨rfl, ⟨rfl, ⟨rfl, ⟨rfl, ⟨rfl, trivial⟩⟩⟩⟩⟩, ⟨rfl, ⟨rfl, ⟨rfl, ⟨rfl, ⟨rfl, trivial⟩⟩⟩⟩⟩, rfl⟩ (by exact Nat.zero_le _) ?_
  rintro m hI ih0
  try dsimp only at hI ih0
  have i1 := hI
  refine t_seq ?_
  refine tsr ?_
  refine r_op oM ?_
  refine r_op (oF 1) ?_
  refine r_op oL ?_
  refine r_op (o_len rfl rfl rfl) ?_
  refine r_op oB ?_
  refine r_end ?_
  refine t_cond rfl (fun h2 => ?_) (fun h2 => ?_)
  ·
   have h2' := of_decide_eq_true h2
   refine t_skip ?_
   refine t_seq ?_
   refine t_block ?_
   refine t_seq ?_
   refine t_draw (fun _ => true) (by kernel_rfl) ?_
   refine dT 0 rfl (pF 0) ?_
   refine dT 1 rfl pL ?_
   refine dT 2 rfl (pF 1) ?_
   refine dT 3 rfl pL ?_
   refine dT 4 rfl pM ?_
   obtain ⟨z3, hz4, b5⟩ := at_get (xs := fs) (n := (m : Int)) (by omega) (by omega)
   refine dT 5 rfl (p_index (by kernel_rfl) rfl rfl b5 hz4) ?_
   refine dT 6 rfl (p_field (off := 0) (by kernel_rfl) rfl) ?_
   refine dT 7 rfl (p_load1 (by kernel_rfl) rfl rfl) ?_
   obtain ⟨z6, hz7, b8⟩ := at_get (xs := rs) (n := z3.1) (by (have e7 := fact_rel (by assumption) (List.mem_of_getElem? (by assumption)); omega)) (by (have e7 := fact_rel (by assumption) (List.mem_of_getElem? (by assumption)); omega))
   refine dT 8 rfl (p_index (by kernel_rfl) rfl rfl b8 hz7) ?_
   refine dT 9 rfl (p_field (off := 2) (by kernel_rfl) rfl) ?_
   refine dT 10 rfl (p_load1 (by kernel_rfl) rfl rfl) ?_
   refine dT 11 rfl pM ?_
   refine dT 12 rfl (p_eqB Tryz.underlying4 rfl rfl) ?_
   refine d_end (by kernel_rfl) ?_
   refine t_cond rfl (fun h9 => ?_) (fun h9 => ?_)
   ·
    have h9' := h9
    refine t_draw (fun i => !(Nat.beq i 9 || Nat.beq i 11)) (by kernel_rfl) ?_
    refine dT 0 rfl (pF 1) ?_
    refine dT 1 rfl pL ?_
    refine dT 2 rfl (pF 1) ?_
    refine dT 3 rfl pL ?_
    refine dT 4 rfl pM ?_
    refine dT 5 rfl (p_index (by kernel_rfl) rfl rfl b5 hz4) ?_
    refine dT 6 rfl (p_loadA (n := 2) (by kernel_rfl) (by kernel_rfl) rfl rfl) ?_
    refine dO 7 rfl (o_call 5 8 false (Go.Proofs.enters_of Tryz.func132 (by kernel_rfl) rfl) (c_spec_l5Fact (z3.1) (z3.2) (by (have e1 := sz_at (f := (fun (x : Int × (List (Int))) => (x.2).length)) (l := fs) (m := m) (by assumption); (try dsimp only at e1); omega))) rfl (.cons rfl (.agg (.cons .t0 (.cons .t0 .nil))) .nil) rfl rfl rfl) ?_
    refine dO 8 rfl (o_litS 8 (e := 36) (sz := 2) (zs := [.int .i64 (0), .slice none 0 0]) rfl rfl (by kernel_rfl) rfl rfl rfl rfl rfl) ?_
    refine dO 9 rfl (o_append 4 (e := 36) (sz := 2) (by' := 32) (((z3.1), (z3.2))) rfl (by kernel_rfl) rfl rfl rfl rfl rfl rfl (.cons .sc (.take (.own rfl) rfl .nil)) rfl (by (have e7 := List.length_filter_le (keepF rs t) (fs.take m); rw [List.length_take] at e7; omega)) (by (have e7 := List.length_filter_le (keepF rs t) (fs.take m); rw [List.length_take] at e7; omega))) ?_
    refine dT 10 rfl (pF 1) ?_
    refine dO 11 rfl (oS 1) ?_
    refine d_end (by kernel_rfl) ?_
    refine t_endblock ?_
    refine t_region ?_
    refine r_op oM ?_
    refine r_op oB ?_
    refine r_op oA ?_
    refine r_end ?_
    refine t_le ?_ (ih0 (m + 1) (by (try dsimp only); omega) (by (try dsimp only); omega))
    exact ⟨⟨rfl, ⟨rfl, ⟨rfl, ⟨rfl, ⟨(eqI (wr64 (by omega) (by omega))), trivial⟩⟩⟩⟩⟩, ⟨rfl, ⟨rfl, ⟨rfl, ⟨rfl, ⟨(eqR (by exact filtG_hit hz4 rfl (by unfold keepF; rw [srcA_at hz7]; grind))), trivial⟩⟩⟩⟩⟩, rfl⟩
   ·
    have h9' := h9
    refine t_skip ?_
    refine t_endblock ?_
    refine t_region ?_
    refine r_op oM ?_
    refine r_op oB ?_
    refine r_op oA ?_
    refine r_end ?_
    refine t_le ?_ (ih0 (m + 1) (by (try dsimp only); omega) (by (try dsimp only); omega))
    exact ⟨⟨rfl, ⟨rfl, ⟨rfl, ⟨rfl, ⟨(eqI (wr64 (by omega) (by omega))), trivial⟩⟩⟩⟩⟩, ⟨rfl, ⟨rfl, ⟨rfl, ⟨rfl, ⟨(eqR (by exact filtG_miss hz4 rfl (by unfold keepF; rw [srcA_at hz7]; grind))), trivial⟩⟩⟩⟩⟩, rfl⟩
  ·
   have h2' := of_decide_eq_false h2
   refine t_exit rfl ?_
   refine tsr ?_
   refine r_op (oC 2) ?_
   refine r_op (oS 2) ?_
   refine r_end ?_
   refine gt_freeze 2 rfl (frz_pu rfl) ?_
   refine gt_freeze 4 rfl (frz_pu rfl) ?_
   refine t_ret Tryz.func77 (.cells (n := 2) (by kernel_rfl) (by kernel_rfl) rfl rfl rfl .nil) rfl fun E S w u hI hd => ?_
   refine post_mk hI hd ?_ trivial rfl rfl rfl <;> clear hI hd <;> (try clear ih0)
   all_goals ((have e7 : instOk rs fs = true := (by assumption)); have e8 := res_yes (t := t) e7; rw [e8.1, e8.2, List.take_of_length_le (by omega)]; rfl)
set_option maxHeartbeats 1000000 in
set_option maxRecDepth 10000 in
theorem c_spec_DrawIsSolution (code : List Int) (hc : code.length ≤ 1048576) : PuG Tryz.prog 36 [.c (.t none (.sl 1 encU (code)))] (fun (⟨rs, fs, rs2, fs2, ds⟩ : Rels × Atoms × Rels × Atoms × (List Dep)) => instL rs fs ∧ instL rs2 fs2 ∧ ds.length ≤ 6 ∧ (∀ d ∈ ds, depL d)) (fun (⟨rs, fs, rs2, fs2, ds⟩ : Rels × Atoms × Rels × Atoms × (List Dep)) => []) 0 (fun (⟨rs, fs, rs2, fs2, ds⟩ : Rels × Atoms × Rels × Atoms × (List Dep)) => .tup [(true, [.t none (.sl 3 (enS3 encS encI encB) (rs)), .t none (.sl 2 (enS2 encI (enSl 1 encI)) (fs))]), (true, [.t none (.sl 3 (enS3 encS encI encB) (rs2)), .t none (.sl 2 (enS2 encI (enSl 1 encI)) (fs2))]), (false, [.t none (.sl 5 (enS5 (enSl 2 (enS2 encI (enSl 1 encI))) (enSl 2 (enS2 encI (enSl 1 encI))) encB encI encI) (ds))])]) := by
 refine pu_enterG Tryz.func36 rfl (Nat.le_of_ble_eq_true rfl) fun w S => ?_
 refine tsr ?_
 refine r_op (o_alloc 0 (zs := [.slice none 0 0, .slice none 0 0]) rfl rfl (by kernel_rfl) rfl) ?_
 refine r_op (o_alloc 1 (zs := [.slice none 0 0, .slice none 0 0]) rfl rfl (by kernel_rfl) rfl) ?_
 refine r_op oA ?_
 refine etr ?_
 refine r_op oM ?_
 refine r_opX (o_callG 2 4 (Go.Proofs.enters_of Tryz.func72 (by kernel_rfl) rfl) (c_spec_l12Draw (code) (by omega)) rfl (.cons rfl (.c .t0) .nil) rfl rfl) ?_
 rintro ⟨⟨rs1, fs2, ds3, i24, h25⟩, hq6⟩
 try dsimp only at hq6
 try dsimp only
 obtain ⟨q7, q8, q9, q10⟩ := hq6
 have dd : instL rs1 fs2 := (by assumption); have d1 := dd.1; have d3 := dd.2.2.1; have ds1 := szF_L dd.2.2.2; have xs3 := factL_ok dd.2.2.2; have rr := rst_instL dd true
 refine r_op oM ?_
 refine r_op (o_extract rfl rfl rfl rfl) ?_
 refine r_op (o_extract rfl rfl rfl rfl) ?_
 refine r_op (o_extract rfl rfl rfl rfl) ?_
 refine r_op (o_alloc 4 (zs := [.slice none 0 0, .slice none 0 0]) rfl rfl (by kernel_rfl) rfl) ?_
 refine r_op oA ?_
 refine r_op (oS 2) ?_
 refine r_op oA ?_
 refine etr ?_
 refine r_op (oC 2) ?_
 refine r_op (o_call 5 5 true (Go.Proofs.enters_of Tryz.func77 (by kernel_rfl) rfl) (c_spec_Restrict ((rs1)) ((fs2)) (true) (by omega) (by omega) (by omega)) rfl (.cons rfl (.agg (.cons .t0 (.cons .t0 .nil))) (.cons rfl (.c .t0) .nil)) rfl rfl rfl) ?_
 refine r_op (o_alloc 5 (zs := [.slice none 0 0, .slice none 0 0]) rfl rfl (by kernel_rfl) rfl) ?_
 refine r_op (oS 2) ?_
 refine r_end ?_
 refine t_seq ?_
 refine tsr ?_
 refine r_op oM ?_
 refine r_opX (o_callGM 3 6 7 (pv := none) (Go.Proofs.enters_of Tryz.func61 (by kernel_rfl) rfl) (c_spec_l1Once ((code)) ((i24)) ((h25)) (5) (by omega) (by omega) (by omega) (by omega) (by omega)) rfl rfl (.cur rfl (.cons rfl .nil)) rfl (fun ⟨_, _, _⟩ => rfl) (fun _ => rfl) (fun ⟨_, _, _⟩ => rfl) rfl rfl) ?_
 rintro ⟨⟨b11, i212, h213⟩, hq14⟩
 try dsimp only at hq14
 try dsimp only
 refine r_end ?_
 refine t_cond rfl (fun h16 => ?_) (fun h16 => ?_)
 ·
  have h16' := h16
  refine t_region ?_
  refine r_op oM ?_
  refine r_opX (o_callGM 3 7 12 (pv := none) (Go.Proofs.enters_of Tryz.func78 (by kernel_rfl) rfl) (c_spec_l5Source (((code))) ((i212)) ((h213)) (3) (by omega) (by omega) (by omega) (by omega)) rfl rfl (.cur rfl (.cons rfl .nil)) rfl (fun ⟨_, _, _⟩ => rfl) (fun _ => rfl) (fun ⟨_, _, _⟩ => rfl) rfl rfl) ?_
  rintro ⟨⟨fs17, i218, h219⟩, hq20⟩
  try dsimp only at hq20
  try dsimp only
  obtain ⟨q21, q22, q23⟩ := hq20
  have r5 : instL sigs5 fs17 := ⟨by decide, relS, by omega, by assumption⟩
  refine r_op (oS 2) ?_
  refine r_end ?_
  refine t_seq ?_
  refine t_draw (fun i => !(Nat.beq i 3 || Nat.beq i 4)) (by kernel_rfl) ?_
  refine dT 0 rfl (pC 2) ?_
  refine d_takeP 2 rfl rfl (by kernel_rfl) (by kernel_rfl) (by kernel_rfl) (pw_move rfl) ?_
  refine d_two 1 3 rfl rfl (by kernel_rfl) rfl rfl (oC 2) (oS 2) ?_ ?_
  ·
   refine dO 3 rfl (oS 2) ?_
   refine dO 4 rfl (oS 2) ?_
   refine dT 5 rfl pA ?_
   refine d_end (by kernel_rfl) ?_
   refine gt_freeze 10 rfl (frz_pu rfl) ?_
   refine gt_freeze 11 rfl (frz_pu rfl) ?_
   refine t_ret Tryz.func36 (.cells (n := 2) (by kernel_rfl) (by kernel_rfl) rfl rfl rfl (.cells (n := 2) (by kernel_rfl) (by kernel_rfl) rfl rfl rfl (.tmp rfl .nil))) rfl fun E S w u hI hd => ?_
   refine post_mkG (⟨sigs5, (fs17), (rs1), (fs2), (ds3)⟩) ?_ hI hd ?_ trivial rfl rfl <;> clear hI hd
   · (try dsimp only) <;> (exact ⟨by assumption, by assumption, by assumption, by assumption⟩)
   · rfl
  ·
   refine dT 1 rfl (pC 2) ?_
   refine dO 4 rfl (oS 2) ?_
   refine dT 5 rfl pA ?_
   refine d_end (by kernel_rfl) ?_
   refine gt_freeze 10 rfl (frz_pu rfl) ?_
   refine gt_freeze 11 rfl (frz_pu rfl) ?_
   refine t_ret Tryz.func36 (.cells (n := 2) (by kernel_rfl) (by kernel_rfl) rfl rfl rfl (.cells (n := 2) (by kernel_rfl) (by kernel_rfl) rfl rfl rfl (.tmp rfl .nil))) rfl fun E S w u hI hd => ?_
   refine post_mkG (⟨sigs5, (fs17), (rs1), (fs2), (ds3)⟩) ?_ hI hd ?_ trivial rfl rfl <;> clear hI hd
   · (try dsimp only) <;> (exact ⟨by assumption, by assumption, by assumption, by assumption⟩)
   · rfl
 ·
  have h16' := h16
  refine t_skip ?_
  refine t_seq ?_
  refine t_draw (fun i => !(Nat.beq i 3 || Nat.beq i 4)) (by kernel_rfl) ?_
  refine dT 0 rfl (pC 2) ?_
  refine d_takeP 2 rfl rfl (by kernel_rfl) (by kernel_rfl) (by kernel_rfl) (pw_move rfl) ?_
  refine d_two 1 3 rfl rfl (by kernel_rfl) rfl rfl (oC 2) (oS 2) ?_ ?_
  ·
   refine dO 3 rfl (oS 2) ?_
   refine dO 4 rfl (oS 2) ?_
   refine dT 5 rfl pA ?_
   refine d_end (by kernel_rfl) ?_
   refine t_ret Tryz.func36 (.cells (n := 2) (by kernel_rfl) (by kernel_rfl) rfl rfl rfl (.cells (n := 2) (by kernel_rfl) (by kernel_rfl) rfl rfl rfl (.tmp rfl .nil))) rfl fun E S w u hI hd => ?_
   refine post_mkG (⟨rstR ((rs1)) ((fs2)), rstF ((rs1)) ((fs2)) (true), (rs1), (fs2), (ds3)⟩) ?_ hI hd ?_ trivial rfl rfl <;> clear hI hd
   · (try dsimp only) <;> (exact ⟨by assumption, by assumption, by assumption, by assumption⟩)
   · rfl
  ·
   refine dT 1 rfl (pC 2) ?_
   refine dO 4 rfl (oS 2) ?_
   refine dT 5 rfl pA ?_
   refine d_end (by kernel_rfl) ?_
   refine t_ret Tryz.func36 (.cells (n := 2) (by kernel_rfl) (by kernel_rfl) rfl rfl rfl (.cells (n := 2) (by kernel_rfl) (by kernel_rfl) rfl rfl rfl (.tmp rfl .nil))) rfl fun E S w u hI hd => ?_
   refine post_mkG (⟨rstR ((rs1)) ((fs2)), rstF ((rs1)) ((fs2)) (true), (rs1), (fs2), (ds3)⟩) ?_ hI hd ?_ trivial rfl rfl <;> clear hI hd
   · (try dsimp only) <;> (exact ⟨by assumption, by assumption, by assumption, by assumption⟩)
   · rfl
set_option maxHeartbeats 1000000 in
set_option maxRecDepth 10000 in
theorem c_slices_Clone___impl_Relation_impl_Relation_ (l : Rels) (hl : l.length ≤ 1048576) : Pu Tryz.prog 140 [.c (.t none (.sl 3 (enS3 encS encI encB) (l)))] [(0, some (.row none 94 true 3 (enS3 encS encI encB) (l)))] 1 (.c (.own 0)) := by
 refine pu_enter Tryz.func140 rfl (Nat.le_of_ble_eq_true rfl) fun w S => ?_
 refine tsr ?_
 refine r_op oA ?_
 refine r_end ?_
 refine t_seq ?_
 refine tsr ?_
 refine r_op oM ?_
 refine r_eqnil rfl rfl rfl (fun en1 => ?_) ?_
 ·
  refine r_end ?_
  refine t_cond rfl (fun _ => ?_) (nc rfl)
  refine tsr ?_
  refine r_op oA ?_
  refine r_end ?_
  refine gt_nil 0 (t := 2) (et := 94) (sz := 3) true (enS3 encS encI encB) rfl rfl ?_
  refine t_ret Tryz.func140 (.tmp rfl .nil) rfl fun E S w u hI hd => ?_
  refine post_mk hI hd ?_ ⟨eqR ?_, trivial⟩ rfl rfl rfl <;> clear hI hd
  all_goals first | rfl | ((exact en1.symm))
 ·
  refine r_end ?_
  refine t_cond rfl (ncf rfl) (fun _ => ?_)
  refine t_skip ?_
  refine tsr ?_
  refine r_op (o_lit0 0 (e := 94) (sz := 3) (zs := [.string (mkS ([])), .int .i64 (0), .bool (false)]) (enS3 encS encI encB) rfl rfl (by kernel_rfl) rfl) ?_
  refine r_op oM ?_
  refine r_op (o_appendS 0 (e := 94) (sz := 3) (by' := 32) rfl (by kernel_rfl) rfl rfl rfl rfl (fun _ j => by rcases j with _ | _ | j <;> exact ⟨_, rfl⟩) (by (simp; omega)) (by (simp; omega))) ?_
  refine r_op oA ?_
  refine r_end ?_
  refine t_ret Tryz.func140 (.tmp rfl .nil) rfl fun E S w u hI hd => ?_
  refine post_mk hI hd ?_ ⟨eqR ?_, trivial⟩ rfl rfl rfl <;> clear hI hd
  all_goals (rfl)
set_option maxHeartbeats 1000000 in
set_option maxRecDepth 10000 in
theorem c_impl_factCopy (r : Int) (ts : List Int) (hl : ts.length ≤ 1048576) : Pu Tryz.prog 172 [.agg [.t none (.v (.int .i64 (r))), .t none (.sl 1 encI (ts))]] [(2, some (.row none 3 true 1 encI (ts)))] 3 (.agg [.t none (.v (.int .i64 (r))), .own 2]) := by
 refine pu_enter Tryz.func172 rfl (Nat.le_of_ble_eq_true rfl) fun w S => ?_
 refine tsr ?_
 refine r_op (o_box 0 rfl rfl rfl rfl) ?_
 refine r_op (o_alloc 1 (zs := [.int .i64 (0), .slice none 0 0]) rfl rfl (by kernel_rfl) rfl) ?_
 refine r_end ?_
 refine t_seq ?_
 refine t_draw (fun i => !(Nat.beq i 6)) (by kernel_rfl) ?_
 refine dT 0 rfl (pF 0) ?_
 refine dT 1 rfl pL ?_
 refine dT 2 rfl (pF 1) ?_
 refine dT 3 rfl pL ?_
 refine dO 4 rfl (o_call 2 3 false (Go.Proofs.enters_of Tryz.func59 (by kernel_rfl) rfl) (c_slices_Clone___int_int_ (ts) (by omega)) rfl (.cons rfl (.c .t0) .nil) rfl rfl rfl) ?_
 refine dT 5 rfl (p_build (pl := [(0, 1), (1, 1)]) (zs := [.int .i64 (0), .slice none 0 0]) (by kernel_rfl) (by kernel_rfl) rfl rfl rfl) ?_
 refine dO 6 rfl (oS 2) ?_
 refine d_end (by kernel_rfl) ?_
 refine t_ret Tryz.func172 (.cells (n := 2) (by kernel_rfl) (by kernel_rfl) rfl rfl rfl .nil) rfl fun E S w u hI hd => ?_
 refine post_mk hI hd ?_ ⟨eqR ?_, trivial⟩ rfl rfl rfl <;> clear hI hd
 all_goals (rfl)
set_option maxHeartbeats 1000000 in
set_option maxRecDepth 10000 in
theorem c_impl_factsCopy (fs : Atoms) (hfs : szS (fun (x : Int × (List (Int))) => (x.2).length) fs ≤ 1048576) : Pu Tryz.prog 141 [.c (.t none (.sl 2 (enS2 encI (enSl 1 encI)) (fs)))] [(0, some (.row none 36 true 2 (enS2 encI (enSl 1 encI)) (fs)))] 1 (.c (.own 0)) := by
 refine pu_enter Tryz.func141 rfl (Nat.le_of_ble_eq_true rfl) fun w S => ?_
 have gl := sz_len (f := (fun (x : Int × (List (Int))) => (x.2).length)) (l := fs)
 refine tsr ?_
 refine r_op oA ?_
 refine etr ?_
 refine r_op (o_lit0 0 (e := 36) (sz := 2) (zs := [.int .i64 (0), .slice none 0 0]) (enS2 encI (enSl 1 encI)) rfl rfl (by kernel_rfl) rfl) ?_
 refine r_op oA ?_
 refine r_end ?_
 refine t_seq ?_
 refine tsr ?_
 refine r_op oM ?_
 refine r_op (o_len rfl rfl rfl) ?_
 refine r_op oM ?_
 refine r_end ?_
 refine t_block ?_
 refine t_loopL (fun m => ⟨[(2, some (.c (.t none (.v (.slice none 0 0))))), (3, some (.c (.own 0))), (7, some (.c (.t none (.sl 2 (enS2 encI (enSl 1 encI)) (fs))))), (8, some (.c (.t none (.v (.int .i64 (((fs).length : Int))))))), (9, some (.c (.t none (.v (.int .i64 ((m : Int)))))))], [(0, some (.row none 36 true 2 (enS2 encI (enSl 1 encI)) (fs.take m)))], 1⟩ : Nat → St) (fun m => m ≤ fs.length) (fun m => fs.length - m) 0 ⟨⟨rfl, ⟨rfl, ⟨rfl, ⟨rfl, ⟨rfl, trivial⟩⟩⟩⟩⟩, ⟨rfl, trivial⟩, rfl⟩ (by exact Nat.zero_le _) ?_
 rintro m hI ih0
 try dsimp only at hI ih0
 have i1 := hI
 refine tsr ?_
 refine r_op oB ?_
 refine r_end ?_
 refine t_seq ?_
 refine t_cond rfl (fun h1 => ?_) (fun h1 => ?_)
 ·
  have h1' := of_decide_eq_true h1
  refine t_skip ?_
  refine t_seq ?_
  refine t_block ?_
  refine tsr ?_
  obtain ⟨z2, hz3, b4⟩ := at_get (xs := fs) (n := (m : Int)) (by omega) (by omega)
  refine r_op (o_index rfl (by kernel_rfl) rfl rfl b4 hz3) ?_
  refine r_op (o_loadA rfl (n := 2) (by kernel_rfl) (by kernel_rfl) rfl rfl) ?_
  refine r_op (o_alloc 1 (zs := [.int .i64 (0), .slice none 0 0]) rfl rfl (by kernel_rfl) rfl) ?_
  refine r_op (oS 2) ?_
  refine rtr ?_
  refine r_op oM ?_
  refine r_op (oC 2) ?_
  refine r_op (o_call 2 5 false (Go.Proofs.enters_of Tryz.func172 (by kernel_rfl) rfl) (c_impl_factCopy (z2.1) (z2.2) (by (have e1 := sz_at (f := (fun (x : Int × (List (Int))) => (x.2).length)) (l := fs) (m := m) (by assumption); (try dsimp only at e1); omega))) rfl (.cons rfl (.agg (.cons .t0 (.cons .t0 .nil))) .nil) rfl rfl rfl) ?_
  refine r_op (o_litS 5 (e := 36) (sz := 2) (zs := [.int .i64 (0), .slice none 0 0]) rfl rfl (by kernel_rfl) rfl rfl rfl rfl rfl) ?_
  refine r_op (o_append 0 (e := 36) (sz := 2) (by' := 32) (((z2.1), (z2.2))) rfl (by kernel_rfl) rfl rfl rfl rfl rfl rfl (.cons .sc (.take (.own rfl) rfl .nil)) rfl (by (simp; omega)) (by (simp; omega))) ?_
  refine r_op oA ?_
  refine r_end ?_
  refine t_endblock ?_
  refine t_region ?_
  refine r_op oB ?_
  refine r_op oM ?_
  refine r_end ?_
  refine t_le ?_ (ih0 (m + 1) (by (try dsimp only); omega) (by (try dsimp only); omega))
  exact ⟨⟨rfl, ⟨rfl, ⟨rfl, ⟨rfl, ⟨(eqI (wr64 (by omega) (by omega))), trivial⟩⟩⟩⟩⟩, ⟨(eqR (take_snoc hz3)), trivial⟩, rfl⟩
 ·
  have h1' := of_decide_eq_false h1
  refine t_exit rfl ?_
  refine tsr ?_
  refine r_op oM ?_
  refine r_op oA ?_
  refine r_end ?_
  refine t_ret Tryz.func141 (.tmp rfl .nil) rfl fun E S w u hI hd => ?_
  refine post_mk hI hd ?_ ⟨eqR ?_, trivial⟩ rfl rfl rfl <;> clear hI hd <;> (try clear ih0)
  all_goals first | rfl | ((rw [List.take_of_length_le (by omega)]))
set_option maxHeartbeats 1000000 in
set_option maxRecDepth 10000 in
theorem c_impl_instanceCopy (rs : Rels) (fs : Atoms) (hrs : rs.length ≤ 1048576) (hfs : szS (fun (x : Int × (List (Int))) => (x.2).length) fs ≤ 1048576) : Pu Tryz.prog 82 [.agg [.t none (.sl 3 (enS3 encS encI encB) (rs)), .t none (.sl 2 (enS2 encI (enSl 1 encI)) (fs))]] [(2, some (.row none 94 true 3 (enS3 encS encI encB) (rs))), (3, some (.row none 36 true 2 (enS2 encI (enSl 1 encI)) (fs)))] 4 (.agg [.own 2, .own 3]) := by
 refine pu_enter Tryz.func82 rfl (Nat.le_of_ble_eq_true rfl) fun w S => ?_
 refine tsr ?_
 refine r_op (o_box 0 rfl rfl rfl rfl) ?_
 refine r_op (o_alloc 1 (zs := [.slice none 0 0, .slice none 0 0]) rfl rfl (by kernel_rfl) rfl) ?_
 refine r_end ?_
 refine t_seq ?_
 refine t_draw (fun i => !(Nat.beq i 7)) (by kernel_rfl) ?_
 refine dT 0 rfl (pF 0) ?_
 refine dT 1 rfl pL ?_
 refine dT 3 rfl (pF 1) ?_
 refine dT 4 rfl pL ?_
 refine dO 2 rfl (o_call 2 3 false (Go.Proofs.enters_of Tryz.func140 (by kernel_rfl) rfl) (c_slices_Clone___impl_Relation_impl_Relation_ (rs) (by omega)) rfl (.cons rfl (.c .t0) .nil) rfl rfl rfl) ?_
 refine dO 5 rfl (o_call 3 4 false (Go.Proofs.enters_of Tryz.func141 (by kernel_rfl) rfl) (c_impl_factsCopy (fs) (by omega)) rfl (.cons rfl (.c .t0) .nil) rfl rfl rfl) ?_
 refine dT 6 rfl (p_build (pl := [(0, 1), (1, 1)]) (zs := [.slice none 0 0, .slice none 0 0]) (by kernel_rfl) (by kernel_rfl) rfl rfl rfl) ?_
 refine dO 7 rfl (oS 2) ?_
 refine d_end (by kernel_rfl) ?_
 refine t_ret Tryz.func82 (.cells (n := 2) (by kernel_rfl) (by kernel_rfl) rfl rfl rfl .nil) rfl fun E S w u hI hd => ?_
 refine post_mk hI hd ?_ ⟨eqR ?_, ⟨eqR ?_, trivial⟩⟩ rfl rfl rfl <;> clear hI hd
 all_goals (rfl)
set_option maxHeartbeats 1000000 in
set_option maxRecDepth 10000 in
theorem c_impl_Restrict_1 (r : Int) (ts : List Int) (rs : Rels) (t : Bool) (hr : 0 ≤ r ∧ r < rs.length) : Pu Tryz.prog 138 [.agg [.t none (.v (.int .i64 (r))), .t none (.sl 1 encI (ts))], .c (.pel none ((enSl 3 (enS3 encS encI encB)) (rs)) 1), .c (.pel none (encB (t)) 1)] [] 0 (.c (.t none (.v (.bool (!(keepF rs t (r, ts))))))) := by
 refine pu_enter Tryz.func138 rfl (Nat.le_of_ble_eq_true rfl) fun w S => ?_
 refine tsr ?_
 refine r_op (o_box 0 rfl rfl rfl rfl) ?_
 refine r_op oA ?_
 refine r_end ?_
 refine t_seq ?_
 refine t_draw (fun _ => true) (by kernel_rfl) ?_
 refine dT 0 rfl (p_field (off := 0) (by kernel_rfl) rfl) ?_
 refine dT 1 rfl (p_load1 (by kernel_rfl) rfl rfl) ?_
 refine dT 2 rfl (pF 0) ?_
 refine dT 3 rfl pL ?_
 obtain ⟨z1, hz2, b3⟩ := at_get (xs := rs) (n := r) (by omega) (by omega)
 refine dT 4 rfl (p_index (by kernel_rfl) rfl rfl b3 hz2) ?_
 refine dT 5 rfl (p_field (off := 2) (by kernel_rfl) rfl) ?_
 refine dT 6 rfl (p_load1 (by kernel_rfl) rfl rfl) ?_
 refine dT 7 rfl (p_load1 (by kernel_rfl) rfl rfl) ?_
 refine dT 8 rfl (p_neB Tryz.underlying4 rfl rfl) ?_
 refine dT 9 rfl pA ?_
 refine d_end (by kernel_rfl) ?_
 refine t_ret Tryz.func138 (.tmp rfl .nil) rfl fun E S w u hI hd => ?_
 refine post_mk hI hd ?_ trivial rfl rfl rfl <;> clear hI hd
 all_goals (refine scB ?_; unfold keepF; rw [srcA_at (by assumption)]; grind)
set_option maxHeartbeats 1000000 in
set_option maxRecDepth 10000 in
theorem c_slices_DeleteFunc___impl_Fact_impl_Fact_ (U : Nat → Value) (e0 : Nat) (l : Atoms) (rs : Rels) (t : Bool) (hl : l.length ≤ 1048576) (hr : ∀ f ∈ l, 0 ≤ f.1 ∧ f.1 < rs.length) : Mu Tryz.prog 137 [.c (.own 0), .c (.clo 138 [(1, 0), (2, 0)])] [(0, some (.row (some (U 0)) e0 false 2 (enS2 encI (enSl 1 encI)) (l))), (1, some (.pbox (U 1) [.t none (.sl 3 (enS3 encS encI encB) (rs)), .top])), (2, some (.pbox (U 2) [.t none (.v (.bool (t)))]))] 3 [(0, some (.row none e0 false 2 (enS2 encI (enSl 1 encI)) (l.filter (keepF rs t)))), (1, some (.pbox (U 1) [.t none (.sl 3 (enS3 encS encI encB) (rs)), .top])), (2, some (.pbox (U 2) [.t none (.v (.bool (t)))]))] 3 (.c (.own 0)) := by
 refine mu_enter Tryz.func137 rfl (Nat.le_of_ble_eq_true rfl) fun w S M => ?_
 refine tsr ?_
 refine r_op oA ?_
 refine etr ?_
 refine r_op oM ?_
 refine r_op oM ?_
 refine r_op (o_call 3 3 false (Go.Proofs.enters_of Tryz.func157 (by kernel_rfl) rfl) (c_slices_IndexFunc___impl_Fact_impl_Fact_ (l) (138) ([((enSl 3 (enS3 encS encI encB)) (rs), 1), (encB (t), 1)]) (fun (x0 : Int × (List (Int))) => !(keepF (rs) (t) ((x0.1), (x0.2)))) (by omega) (fun x0 mx0 => ⟨Go.Proofs.enters_of Tryz.func138 (by kernel_rfl) rfl, c_impl_Restrict_1 (x0.1) (x0.2) (rs) (t) (by exact hr _ (by assumption))⟩)) rfl (.cons rfl (.c (.own rfl)) (.cons rfl (.c (.clo (.pcons rfl rfl rfl (.cons .t .nil) (.pcons rfl rfl rfl (.cons .t .nil) .nil)))) .nil)) rfl rfl rfl) ?_
 refine r_op oA ?_
 refine r_end ?_
 refine t_seq ?_
 refine tsr ?_
 refine r_op oM ?_
 refine r_op oB ?_
 refine r_end ?_
 refine t_cond rfl (fun h1 => ?_) (fun h1 => ?_)
 ·
  have h1' := of_decide_eq_true h1
  refine tsr ?_
  refine r_op oM ?_
  refine r_op oA ?_
  refine r_end ?_
  refine gt_unpin 0 rfl ?_
  refine t_ret Tryz.func137 (.tmp rfl .nil) rfl fun E S w u hI hd => ?_
  refine postM_mk hI hd ?_ ⟨eqR ?_, ⟨rfl, ⟨rfl, trivial⟩⟩⟩ rfl rfl <;> clear hI hd <;> (try clear ih0)
  all_goals first | rfl | (exact (dl_none (by assumption)).symm)
 ·
  have h1' := of_decide_eq_false h1
  refine t_skip ?_
  refine t_seq ?_
  refine tsr ?_
  refine r_op oM ?_
  refine r_op oB ?_
  refine r_op oA ?_
  refine r_end ?_
  refine t_block ?_
  obtain ⟨m0, mi, ml, mk⟩ := dl_idx (K := keepF rs t) (l := l) (by assumption)
  refine t_loopL (fun (k, j, q) => ⟨[(0, some (.c (.own 0))), (1, some (.c (.clo 138 [(1, 0), (2, 0)]))), (4, some (.c (.t none (.v (.slice none 0 0))))), (5, some (.c (.t none (.v (.int .i64 ((k : Int))))))), (6, some (.c (.t none (.v (.int .i64 ((j : Int)))))))], [(0, some (.row (some (U 0)) e0 false 2 (enS2 encI (enSl 1 encI)) (q))), (1, some (.pbox (U 1) [.t none (.sl 3 (enS3 encS encI encB) (rs)), .top])), (2, some (.pbox (U 2) [.t none (.v (.bool (t)))]))], 3⟩ : Nat × Nat × Atoms → St) (fun (k, j, q) => dlK (keepF rs t) l q k j) (fun (k, j, q) => l.length - j) (m0, m0 + 1, l) ⟨⟨rfl, ⟨rfl, ⟨rfl, ⟨(eqI mi), ⟨(eqI ((congrArg (fun z => IntKind.i64.wrap (z + 1)) mi).trans (wr64 (by omega) (by omega)))), trivial⟩⟩⟩⟩⟩, ⟨rfl, ⟨rfl, ⟨rfl, trivial⟩⟩⟩, rfl⟩ (by exact mk) ?_
  rintro ⟨k, j, q⟩ hI ih0
  try dsimp only at hI ih0
  have j1 := hI; have j2 := j1.1; have j3 := j1.2.1; have j4 := j1.2.2.1
  refine t_seq ?_
  refine tsr ?_
  refine r_op oM ?_
  refine r_op oM ?_
  refine r_op (o_leno rfl rfl rfl rfl) ?_
  refine r_op oB ?_
  refine r_end ?_
  refine t_cond rfl (fun h2 => ?_) (fun h2 => ?_)
  ·
   have h2' := of_decide_eq_true h2
   refine t_skip ?_
   refine t_seq ?_
   refine t_block ?_
   refine tsr ?_
   refine r_op oM ?_
   refine r_op oM ?_
   obtain ⟨z3, hz4, b5⟩ := at_get (xs := q) (n := (j : Int)) (by omega) (by omega)
   refine r_op (o_indexo rfl (by kernel_rfl) rfl rfl rfl b5 (at_lt b5 hz4)) ?_
   refine r_op (o_loadAo rfl (by kernel_rfl) (by kernel_rfl) rfl rfl hz4) ?_
   refine r_op (o_alloc 3 (zs := [.int .i64 (0), .slice none 0 0]) rfl rfl (by kernel_rfl) rfl) ?_
   refine r_op (oS 2) ?_
   refine etr ?_
   refine r_op oM ?_
   refine r_op (oC 2) ?_
   refine r_op (o_callv (cargs := [.agg [.t none (.v (.int .i64 ((z3.1)))), .t none (.sl 1 encI ((z3.2)))]]) (cs := [((enSl 3 (enS3 encS encI encB)) (rs), 1), (encB (t), 1)]) 4 4 false (Go.Proofs.enters_of Tryz.func138 (by kernel_rfl) rfl) (c_impl_Restrict_1 (z3.1) (z3.2) (rs) (t) (by (have e7 := dl_at j1 (by assumption); exact hr _ (List.mem_of_getElem? e7)))) rfl rfl (.c (.clo (.pcons rfl rfl rfl (.cons .t .nil) (.pcons rfl rfl rfl (.cons .t .nil) .nil)))) (.cons rfl (.agg (.cons .t0 (.cons .t0 .nil))) .nil) rfl rfl rfl) ?_
   refine r_op (o_not rfl rfl) ?_
   refine r_end ?_
   refine t_cond rfl (fun h6 => ?_) (fun h6 => ?_)
   ·
    have h6' := (bnf (bnt h6))
    refine tsr ?_
    refine r_op oM ?_
    refine r_op oM ?_
    refine r_op (oC 2) ?_
    obtain ⟨z7, hz8, b9⟩ := at_get (xs := q) (n := (k : Int)) (by omega) (by omega)
    refine r_op (o_indexo rfl (by kernel_rfl) rfl rfl rfl b9 (at_lt b9 hz8)) ?_
    refine r_op (o_storeo (z3) (n := 2) (by kernel_rfl) rfl rfl hz8 rfl rfl rfl rfl (.cons .sc (.cons .sh .nil)) rfl (fun j h1 h2 => by (exact h2.elim (fun h => by omega) (fun h => absurd (show 2 ≤ j from h) (by omega))))) ?_
    refine rtr ?_
    refine r_op oM ?_
    refine r_op oB ?_
    refine r_op oA ?_
    refine r_end ?_
    refine t_endblock ?_
    refine t_region ?_
    refine r_op oM ?_
    refine r_op oB ?_
    refine r_op oA ?_
    refine r_end ?_
    refine t_le ?_ (ih0 (k + 1, j + 1, (q).set ((k : Int)).toNat (z3)) (by (try dsimp only); omega) (by (try dsimp only); exact dl_keep j1 hz4 (by simpa using (by assumption))))
    exact ⟨⟨rfl, ⟨rfl, ⟨rfl, ⟨(eqI (wr64 (by omega) (by omega))), ⟨(eqI (wr64 (by omega) (by omega))), trivial⟩⟩⟩⟩⟩, ⟨rfl, ⟨rfl, ⟨rfl, trivial⟩⟩⟩, rfl⟩
   ·
    have h6' := (bnt (bnf h6))
    refine t_skip ?_
    refine t_endblock ?_
    refine t_region ?_
    refine r_op oM ?_
    refine r_op oB ?_
    refine r_op oA ?_
    refine r_end ?_
    refine t_le ?_ (ih0 (k, j + 1, q) (by (try dsimp only); omega) (by (try dsimp only); exact dl_skip j1 hz4 (by simpa using (by assumption))))
    exact ⟨⟨rfl, ⟨rfl, ⟨rfl, ⟨rfl, ⟨(eqI (wr64 (by omega) (by omega))), trivial⟩⟩⟩⟩⟩, ⟨rfl, ⟨rfl, ⟨rfl, trivial⟩⟩⟩, rfl⟩
  ·
   have h2' := of_decide_eq_false h2
   refine t_exit rfl ?_
   refine tsr ?_
   refine r_op oM ?_
   refine r_op oM ?_
   refine r_op (o_subvl rfl (by kernel_rfl) rfl rfl rfl (by omega) (by omega)) ?_
   refine r_op (o_clearF ((0, [])) rfl rfl Tryz.underlying25 (by kernel_rfl) rfl rfl (.cons (.v rfl) (.cons .sl .nil)) (by omega) (by omega)) ?_
   refine etr ?_
   refine r_op oM ?_
   refine r_op oM ?_
   refine r_op (o_subvh rfl (by kernel_rfl) rfl rfl rfl (by omega) (by (simp only [List.length_append, List.length_take, List.length_replicate, List.length_drop]; omega)) (by (simp only [List.length_append, List.length_take, List.length_replicate, List.length_drop]; omega))) ?_
   refine r_op oA ?_
   refine r_end ?_
   refine gt_shrinkF 4 0 rfl rfl (by (simp only [List.length_append, List.length_take, List.length_replicate, List.length_drop]; omega)) (by (simp only [List.length_append, List.length_take, List.length_replicate, List.length_drop]; omega)) ?_
   refine t_ret Tryz.func137 (.tmp rfl .nil) rfl fun E S w u hI hd => ?_
   refine postM_mk hI hd ?_ ⟨eqR ?_, ⟨rfl, ⟨rfl, trivial⟩⟩⟩ rfl rfl <;> clear hI hd <;> (try clear ih0)
   all_goals first | rfl | ((rw [List.append_assoc]; exact dl_end j1 (by omega) _))
set_option maxHeartbeats 1000000 in
set_option maxRecDepth 10000 in
theorem c_impl_Restrict (rs : Rels) (fs : Atoms) (t : Bool) (hrs : rs.length ≤ 1048576) (hfs : szS (fun (x : Int × (List (Int))) => (x.2).length) fs ≤ 1048576) (ho : ∀ z ∈ fs, ∀ x ∈ z.2, okI x) : Pu Tryz.prog 80 [.agg [.t none (.sl 3 (enS3 encS encI encB) (rs)), .t none (.sl 2 (enS2 encI (enSl 1 encI)) (fs))], .c (.t none (.v (.bool (t))))] [] 0 (.agg [.t none (.sl 3 (enS3 encS encI encB) (rstR rs fs)), .t none (.sl 2 (enS2 encI (enSl 1 encI)) (rstF rs fs t))]) := by
 refine pu_enter Tryz.func80 rfl (Nat.le_of_ble_eq_true rfl) fun w S => ?_
 have gl := sz_len (f := (fun (x : Int × (List (Int))) => (x.2).length)) (l := fs)
 refine tsr ?_
 refine r_op (o_box 0 rfl rfl rfl rfl) ?_
 refine r_op (o_box 1 rfl rfl rfl rfl) ?_
 refine r_op (o_alloc 2 (zs := [.slice none 0 0, .slice none 0 0]) rfl rfl (by kernel_rfl) rfl) ?_
 refine r_end ?_
 refine t_seq ?_
 refine tsr ?_
 refine r_op (oC 2) ?_
 refine r_op (o_call 3 3 false (Go.Proofs.enters_of Tryz.func45 (by kernel_rfl) rfl) (c_impl_IsValidInstance (rs) (fs) (by omega) (by omega) (by omega)) rfl (.cons rfl (.agg (.cons .t0 (.cons .t0 .nil))) .nil) rfl rfl rfl) ?_
 refine r_op (o_not rfl rfl) ?_
 refine r_end ?_
 refine t_cond rfl (fun h1 => ?_) (fun h1 => ?_)
 ·
  have h1' := (bnt h1)
  refine tsr ?_
  refine r_op (o_build rfl (pl := [(0, 1), (1, 1)]) (zs := [.slice none 0 0, .slice none 0 0]) (by kernel_rfl) (by kernel_rfl) rfl rfl rfl) ?_
  refine r_op (oS 2) ?_
  refine r_end ?_
  refine gt_nilb 3 (b := 2) (o := 0) (et := 94) (sz := 3) true (enS3 encS encI encB) rfl rfl rfl ?_
  refine gt_nilb 4 (b := 2) (o := 1) (et := 36) (sz := 2) true (enS2 encI (enSl 1 encI)) rfl rfl rfl ?_
  refine gt_freeze 3 rfl (frz_pu rfl) ?_
  refine gt_freeze 4 rfl (frz_pu rfl) ?_
  refine t_ret Tryz.func80 (.cells (n := 2) (by kernel_rfl) (by kernel_rfl) rfl rfl rfl .nil) rfl fun E S w u hI hd => ?_
  refine post_mk hI hd ?_ trivial rfl rfl rfl <;> clear hI hd
  all_goals (have e7 : instOk rs fs = false := (by assumption); have e8 := res_no (t := t) e7; rw [e8.1, e8.2]; rfl)
 ·
  have h1' := (bnf h1)
  refine t_skip ?_
  refine tsr ?_
  refine r_op (oC 2) ?_
  refine r_op (o_call 3 7 false (Go.Proofs.enters_of Tryz.func82 (by kernel_rfl) rfl) (c_impl_instanceCopy (rs) (fs) (by omega) (by omega)) rfl (.cons rfl (.agg (.cons .t0 (.cons .t0 .nil))) .nil) rfl rfl rfl) ?_
  refine r_op (o_alloc 7 (zs := [.slice none 0 0, .slice none 0 0]) rfl rfl (by kernel_rfl) rfl) ?_
  refine r_op (oS 2) ?_
  refine etr ?_
  refine r_op (oF 1) ?_
  refine r_op oL ?_
  refine r_op (o_makeFunc rfl (.cons rfl (.cons rfl .nil))) ?_
  refine r_freeze 5 rfl (frz_pu rfl) ?_
  refine r_half 6 rfl (frz_pu rfl) ?_
  refine r_op (o_callF 6 7 1 (((fs)).filter (keepF ((rs)) (t))) (Go.Proofs.enters_of Tryz.func137 (by kernel_rfl) rfl) (fun U => c_slices_DeleteFunc___impl_Fact_impl_Fact_ U 36 ((fs)) ((rs)) (t) (by omega) (by (intro f hf; exact fact_rel (by assumption) hf))) rfl rfl rfl rfl rfl rfl rfl rfl rfl) ?_
  refine r_op (oF 1) ?_
  refine r_op (oS 1) ?_
  refine etr ?_
  refine r_op (oC 2) ?_
  refine r_op (oS 2) ?_
  refine r_end ?_
  refine gt_freeze 6 rfl (frz_pu rfl) ?_
  refine t_ret Tryz.func80 (.cells (n := 2) (by kernel_rfl) (by kernel_rfl) rfl rfl rfl .nil) rfl fun E S w u hI hd => ?_
  refine post_mk hI hd ?_ trivial rfl rfl rfl <;> clear hI hd
  all_goals (have e7 : instOk rs fs = true := (by assumption); have e8 := res_yes (t := t) e7; rw [e8.1, e8.2]; rfl)
theorem eq_c_slices_Equal___impl_Relation_impl_Relation__neq_94 (p0 : List UInt8) (p1 : Int) (p2 : Bool) (q0 : List UInt8) (q1 : Int) (q2 : Bool) : EqS Tryz.prog .neq 94 [.string (mkS p0), .int .i64 p1, .bool p2] [.string (mkS q0), .int .i64 q1, .bool q2] (.bool (!(decide ((p0, p1, p2) = (q0, q1, q2))))) := by
 refine ⟨rfl, fun x y w => ?_⟩
 have hS : Tryz.prog.underlying 94 = some (.struct (Tryz.prog.fieldsOf 94)) := by kernel_rfl
 have hp : Tryz.prog.stoodInHeld 94 = false := by kernel_rfl
 have u3 := Tryz.underlying3; have a3 := Tryz.isAgg3; have z3 := Tryz.sizeOf3; have u4 := Tryz.underlying4; have a4 := Tryz.isAgg4; have z4 := Tryz.sizeOf4; have u9 := Tryz.underlying9; have a9 := Tryz.isAgg9; have z9 := Tryz.sizeOf9
 rw [Sem.run_bind, run_eqGuard_agg w _ _ _ _ _ _ (by kernel_rfl), Result.andThen_ok, run_neq_struct, show (10000 : Nat) = 9999 + 1 from rfl, run_equalIn_agg w 9999 94 _ _ hS hp]
 simp only [Program.fieldsOf, Tryz.underlying94]
 go_simp
 by_cases h0 : p0 = q0 <;> by_cases h1 : p1 = q1 <;> by_cases h2 : p2 = q2 <;> simp [h0, h1, h2, mkS_toList]
set_option maxHeartbeats 1000000 in
set_option maxRecDepth 10000 in
theorem c_slices_Equal___impl_Relation_impl_Relation_ (a b : Rels) (ha : a.length ≤ 1048576) (hb : b.length ≤ 1048576) : Pu Tryz.prog 135 [.c (.t none (.sl 3 (enS3 encS encI encB) (a))), .c (.t none (.sl 3 (enS3 encS encI encB) (b)))] [] 0 (.c (.t none (.v (.bool (decide (a = b)))))) := by
 refine pu_enter Tryz.func135 rfl (Nat.le_of_ble_eq_true rfl) fun w S => ?_
 refine tsr ?_
 refine r_op oA ?_
 refine r_end ?_
 refine t_seq ?_
 refine tsr ?_
 refine r_op oM ?_
 refine r_op (o_len rfl rfl rfl) ?_
 refine r_op oM ?_
 refine r_op (o_len rfl rfl rfl) ?_
 refine r_op oB ?_
 refine r_end ?_
 refine t_cond rfl (fun h1 => ?_) (fun h1 => ?_)
 ·
  have h1' := of_decide_eq_true h1
  refine tsr ?_
  refine r_op oA ?_
  refine r_end ?_
  refine t_ret Tryz.func135 (.tmp rfl .nil) rfl fun E S w u hI hd => ?_
  refine post_mk hI hd ?_ trivial rfl rfl rfl <;> clear hI hd <;> (try clear ih0)
  all_goals (refine scB ?_; (have : a ≠ b := by rintro rfl; simp at *); simp [this])
 ·
  have h1' := of_decide_eq_false h1
  refine t_skip ?_
  refine t_seq ?_
  refine tsr ?_
  refine r_op oM ?_
  refine r_op (o_len rfl rfl rfl) ?_
  refine r_op oM ?_
  refine r_end ?_
  refine t_block ?_
  refine t_loopL (fun m => ⟨[(0, some (.c (.t none (.sl 3 (enS3 encS encI encB) (a))))), (1, some (.c (.t none (.sl 3 (enS3 encS encI encB) (b))))), (12, some (.c (.t none (.v (.int .i64 (((a).length : Int))))))), (13, some (.c (.t none (.v (.int .i64 ((m : Int)))))))], [], 0⟩ : Nat → St) (fun m => m ≤ a.length ∧ a.length = b.length ∧ a.take m = b.take m) (fun m => a.length - m) 0 ⟨⟨rfl, ⟨rfl, ⟨rfl, ⟨rfl, trivial⟩⟩⟩⟩, trivial, rfl⟩ (by exact ⟨Nat.zero_le _, by omega, rfl⟩) ?_
  rintro m hI ih0
  try dsimp only at hI ih0
  obtain ⟨i1, i2, i3⟩ := hI
  refine tsr ?_
  refine r_op oB ?_
  refine r_end ?_
  refine t_seq ?_
  refine t_cond rfl (fun h2 => ?_) (fun h2 => ?_)
  ·
   have h2' := of_decide_eq_true h2
   refine t_skip ?_
   refine t_seq ?_
   refine t_block ?_
   refine tsr ?_
   refine r_op oM ?_
   refine r_op oA ?_
   refine r_end ?_
   refine t_seq ?_
   refine t_draw (fun _ => true) (by kernel_rfl) ?_
   refine dT 0 rfl pM ?_
   refine dT 1 rfl pM ?_
   obtain ⟨z3, hz4, b5⟩ := at_get (xs := a) (n := (m : Int)) (by omega) (by omega)
   refine dT 2 rfl (p_index (by kernel_rfl) rfl rfl b5 hz4) ?_
   refine dT 3 rfl (p_loadA (n := 3) (by kernel_rfl) (by kernel_rfl) rfl rfl) ?_
   refine dT 4 rfl pM ?_
   refine dT 5 rfl pM ?_
   obtain ⟨z6, hz7, b8⟩ := at_get (xs := b) (n := (m : Int)) (by omega) (by omega)
   refine dT 6 rfl (p_index (by kernel_rfl) rfl rfl b8 hz7) ?_
   refine dT 7 rfl (p_loadA (n := 3) (by kernel_rfl) (by kernel_rfl) rfl rfl) ?_
   refine dT 8 rfl (p_eqA rfl rfl (eq_c_slices_Equal___impl_Relation_impl_Relation__neq_94 _ _ _ _ _ _)) ?_
   refine d_end (by kernel_rfl) ?_
   refine t_cond rfl (fun h9 => ?_) (fun h9 => ?_)
   ·
    have h9' := of_decide_eq_false (bnt h9)
    refine tsr ?_
    refine r_op oA ?_
    refine r_end ?_
    refine t_ret Tryz.func135 (.tmp rfl .nil) rfl fun E S w u hI hd => ?_
    refine post_mk hI hd ?_ trivial rfl rfl rfl <;> clear hI hd <;> (try clear ih0)
    all_goals (refine scB ?_; have := ne_at (a := a) (b := b) hz4 hz7 (fun e => by subst e; simp_all); simp [this])
   ·
    have h9' := of_decide_eq_true (bnf h9)
    refine t_skip ?_
    refine t_endblock ?_
    refine t_region ?_
    refine r_op oB ?_
    refine r_op oM ?_
    refine r_end ?_
    refine t_le ?_ (ih0 (m + 1) (by (try dsimp only); omega) (by (try dsimp only); exact ⟨by omega, i2, take_same i3 (same_at hz4 hz7 (by assumption))⟩))
    exact ⟨⟨rfl, ⟨rfl, ⟨rfl, ⟨(eqI (wr64 (by omega) (by omega))), trivial⟩⟩⟩⟩, trivial, rfl⟩
  ·
   have h2' := of_decide_eq_false h2
   refine t_exit rfl ?_
   refine tsr ?_
   refine r_op oA ?_
   refine r_end ?_
   refine t_ret Tryz.func135 (.tmp rfl .nil) rfl fun E S w u hI hd => ?_
   refine post_mk hI hd ?_ trivial rfl rfl rfl <;> clear hI hd <;> (try clear ih0)
   all_goals ((obtain rfl : m = a.length := by omega); rw [List.take_length, i2, List.take_length] at i3; refine scB ?_; simp [i3])
set_option maxHeartbeats 1000000 in
set_option maxRecDepth 10000 in
theorem c_slices_EqualFunc___impl_Fact___impl_Fact_impl_Fact_impl_Fact_ (a b : List (Int × (List (Int)))) (f : Nat) (cs : List ((Nat → T) × Nat)) (p : (Int × (List (Int))) → (Int × (List (Int))) → Bool) (hl : a.length ≤ 4611686018427387904) (hf : ∀ x ∈ a, ∀ y ∈ b, Fu Tryz.prog f ([.agg [.t none (.v (.int .i64 (x.1))), .t none (.sl 1 encI (x.2))], .agg [.t none (.v (.int .i64 (y.1))), .t none (.sl 1 encI (y.2))]] ++ pels cs) (.c (.t none (.v (.bool (p x y)))))) : Pu Tryz.prog 136 [.c (.t none (.sl 2 (enS2 encI (enSl 1 encI)) (a))), .c (.t none (.sl 2 (enS2 encI (enSl 1 encI)) (b))), .c (.fv f cs)] [] 0 (.c (.t none (.v (.bool (allEq p a b))))) := by
 refine pu_enter Tryz.func136 rfl (Nat.le_of_ble_eq_true rfl) fun w S => ?_
 refine tsr ?_
 refine r_op oA ?_
 refine r_end ?_
 refine t_seq ?_
 refine tsr ?_
 refine r_op oM ?_
 refine r_op (o_len rfl rfl rfl) ?_
 refine r_op oM ?_
 refine r_op (o_len rfl rfl rfl) ?_
 refine r_op oB ?_
 refine r_end ?_
 refine t_cond rfl (fun h1 => ?_) (fun h1 => ?_)
 ·
  have h1' := of_decide_eq_true h1
  refine tsr ?_
  refine r_op oA ?_
  refine r_end ?_
  refine t_ret Tryz.func136 (.tmp rfl .nil) rfl fun E S w u hI hd => ?_
  refine post_mk hI hd ?_ trivial rfl rfl rfl <;> clear hI hd <;> (try clear ih0)
  all_goals (rw [allEq_len (by omega)])
 ·
  have h1' := of_decide_eq_false h1
  refine t_skip ?_
  refine t_seq ?_
  refine tsr ?_
  refine r_op oM ?_
  refine r_op (o_len rfl rfl rfl) ?_
  refine r_op oM ?_
  refine r_end ?_
  refine t_block ?_
  refine t_loopL (fun m => ⟨[(1, some (.c (.t none (.sl 2 (enS2 encI (enSl 1 encI)) (b))))), (2, some (.c (.fv f cs))), (15, some (.c (.t none (.sl 2 (enS2 encI (enSl 1 encI)) (a))))), (16, some (.c (.t none (.v (.int .i64 (((a).length : Int))))))), (17, some (.c (.t none (.v (.int .i64 ((m : Int)))))))], [], 0⟩ : Nat → St) (fun m => m ≤ a.length ∧ a.length = b.length ∧ ∀ j x y, j < m → a[j]? = some x → b[j]? = some y → p x y = true) (fun m => a.length - m) 0 ⟨⟨rfl, ⟨rfl, ⟨rfl, ⟨rfl, ⟨rfl, trivial⟩⟩⟩⟩⟩, trivial, rfl⟩ (by exact ⟨Nat.zero_le _, by omega, fun j x y h => by omega⟩) ?_
  rintro m hI ih0
  try dsimp only at hI ih0
  obtain ⟨i1, i2, i3⟩ := hI
  refine tsr ?_
  refine r_op oB ?_
  refine r_end ?_
  refine t_seq ?_
  refine t_cond rfl (fun h2 => ?_) (fun h2 => ?_)
  ·
   have h2' := of_decide_eq_true h2
   refine t_skip ?_
   refine t_seq ?_
   refine t_block ?_
   refine tsr ?_
   refine r_op oM ?_
   obtain ⟨z3, hz4, b5⟩ := at_get (xs := a) (n := (m : Int)) (by omega) (by omega)
   refine r_op (o_index rfl (by kernel_rfl) rfl rfl b5 hz4) ?_
   refine r_op (o_loadA rfl (n := 2) (by kernel_rfl) (by kernel_rfl) rfl rfl) ?_
   refine r_op (o_alloc 0 (zs := [.int .i64 (0), .slice none 0 0]) rfl rfl (by kernel_rfl) rfl) ?_
   refine r_op oA ?_
   refine r_op (oS 2) ?_
   refine etr ?_
   refine r_op oM ?_
   refine r_op oM ?_
   obtain ⟨z6, hz7, b8⟩ := at_get (xs := b) (n := (m : Int)) (by omega) (by omega)
   refine r_op (o_index rfl (by kernel_rfl) rfl rfl b8 hz7) ?_
   refine r_op (o_loadA rfl (n := 2) (by kernel_rfl) (by kernel_rfl) rfl rfl) ?_
   refine r_op (o_alloc 1 (zs := [.int .i64 (0), .slice none 0 0]) rfl rfl (by kernel_rfl) rfl) ?_
   refine r_op (oS 2) ?_
   refine etr ?_
   refine r_op oM ?_
   refine r_op (oC 2) ?_
   refine r_op (oC 2) ?_
   refine r_op (o_callv 2 2 false (hf z3 (List.mem_of_getElem? (by assumption)) z6 (List.mem_of_getElem? (by assumption))).1 (hf z3 (List.mem_of_getElem? (by assumption)) z6 (List.mem_of_getElem? (by assumption))).2 rfl rfl (.c .fv) (.cons rfl (.agg (.cons .t0 (.cons .t0 .nil))) (.cons rfl (.agg (.cons .t0 (.cons .t0 .nil))) .nil)) rfl rfl rfl) ?_
   refine r_op (o_not rfl rfl) ?_
   refine r_end ?_
   refine t_cond rfl (fun h9 => ?_) (fun h9 => ?_)
   ·
    have h9' := (bnt h9)
    refine tsr ?_
    refine r_op oA ?_
    refine r_end ?_
    refine t_ret Tryz.func136 (.tmp rfl .nil) rfl fun E S w u hI hd => ?_
    refine post_mk hI hd ?_ trivial rfl rfl rfl <;> clear hI hd <;> (try clear ih0)
    all_goals (rw [allEq_bad (by assumption) (by assumption) (by assumption)])
   ·
    have h9' := (bnf h9)
    refine t_skip ?_
    refine t_endblock ?_
    refine t_region ?_
    refine r_op oB ?_
    refine r_op oM ?_
    refine r_end ?_
    refine t_le ?_ (ih0 (m + 1) (by (try dsimp only); omega) (by (try dsimp only); exact ⟨by omega, i2, pair_step i3 (by assumption) (by assumption) rfl (by assumption)⟩))
    exact ⟨⟨rfl, ⟨rfl, ⟨rfl, ⟨rfl, ⟨(eqI (wr64 (by omega) (by omega))), trivial⟩⟩⟩⟩⟩, trivial, rfl⟩
  ·
   have h2' := of_decide_eq_false h2
   refine t_exit rfl ?_
   refine tsr ?_
   refine r_op oA ?_
   refine r_end ?_
   refine t_ret Tryz.func136 (.tmp rfl .nil) rfl fun E S w u hI hd => ?_
   refine post_mk hI hd ?_ trivial rfl rfl rfl <;> clear hI hd <;> (try clear ih0)
   all_goals (rw [allEq_good i3 i2 (by omega)])
set_option maxHeartbeats 1000000 in
set_option maxRecDepth 10000 in
theorem c_impl_EqualInstances (rs : Rels) (fs : Atoms) (rs2 : Rels) (fs2 : Atoms) (hrs : rs.length ≤ 1048576) (hfs : szS (fun (x : Int × (List (Int))) => (x.2).length) fs ≤ 1048576) (hrs2 : rs2.length ≤ 1048576) (hfs2 : szS (fun (x : Int × (List (Int))) => (x.2).length) fs2 ≤ 1048576) : Pu Tryz.prog 79 [.agg [.t none (.sl 3 (enS3 encS encI encB) (rs)), .t none (.sl 2 (enS2 encI (enSl 1 encI)) (fs))], .agg [.t none (.sl 3 (enS3 encS encI encB) (rs2)), .t none (.sl 2 (enS2 encI (enSl 1 encI)) (fs2))]] [] 0 (.c (.t none (.v (.bool (decide (rs = rs2) && decide (fs = fs2)))))) := by
 refine pu_enter Tryz.func79 rfl (Nat.le_of_ble_eq_true rfl) fun w S => ?_
 have gl := sz_len (f := (fun (x : Int × (List (Int))) => (x.2).length)) (l := fs); have gl2 := sz_len (f := (fun (x : Int × (List (Int))) => (x.2).length)) (l := fs2)
 refine tsr ?_
 refine r_op (o_box 0 rfl rfl rfl rfl) ?_
 refine r_op (o_box 1 rfl rfl rfl rfl) ?_
 refine r_op oA ?_
 refine etr ?_
 refine r_op (oF 0) ?_
 refine r_op oL ?_
 refine r_op (oF 0) ?_
 refine r_op oL ?_
 refine r_op (o_call 2 2 false (Go.Proofs.enters_of Tryz.func135 (by kernel_rfl) rfl) (c_slices_Equal___impl_Relation_impl_Relation_ (rs) (rs2) (by omega) (by omega)) rfl (.cons rfl (.c .t0) (.cons rfl (.c .t0) .nil)) rfl rfl rfl) ?_
 refine r_op oM ?_
 refine r_guard rfl rfl rfl (fun g1 => ?_) (fun g1 => ?_)
 ·
  have g1' := of_decide_eq_true g1
  refine r_op (oF 1) ?_
  refine r_guard rfl rfl rfl (fun _ => ?_) (nc g1)
  refine r_op oL ?_
  refine r_guard rfl rfl rfl (fun _ => ?_) (nc g1)
  refine r_op (oF 1) ?_
  refine r_guard rfl rfl rfl (fun _ => ?_) (nc g1)
  refine r_op oL ?_
  refine r_guard rfl rfl rfl (fun _ => ?_) (nc g1)
  refine r_op (o_call 2 2 false (Go.Proofs.enters_of Tryz.func136 (by kernel_rfl) rfl) (c_slices_EqualFunc___impl_Fact___impl_Fact_impl_Fact_impl_Fact_ (fs) (fs2) (119) ([]) (fun (x0 : Int × (List (Int))) (x1 : Int × (List (Int))) => decide (cmpF ((x0.1), (x0.2)) ((x1.1), (x1.2)) = 0)) (by omega) (fun x0 mx0 x1 mx1 => ⟨Go.Proofs.enters_of Tryz.func119 (by kernel_rfl) rfl, c_impl_sameFact (x0.1) (x0.2) (x1.1) (x1.2) (by (have e1 := sz_mem (f := (fun (x : Int × (List (Int))) => (x.2).length)) (l := fs) (by assumption); (try dsimp only at e1); omega)) (by (have e1 := sz_mem (f := (fun (x : Int × (List (Int))) => (x.2).length)) (l := fs2) (by assumption); (try dsimp only at e1); omega))⟩)) rfl (.cons rfl (.c .t0) (.cons rfl (.c .t0) (.cons rfl (.c (.clo .nil)) .nil))) rfl rfl rfl) ?_
  refine r_op (o_pickT rfl rfl g1 rfl) ?_
  refine r_op oA ?_
  refine r_end ?_
  refine t_ret Tryz.func79 (.tmp rfl .nil) rfl fun E S w u hI hd => ?_
  refine post_mk hI hd ?_ trivial rfl rfl rfl <;> clear hI hd
  all_goals (refine scB ?_; (have e7 := allEq_dec (p := fun x y => decide (cmpF (x.1, x.2) (y.1, y.2) = 0)) (a := fs) (b := fs2) (fun x y => decide_eq_decide.2 cmpF_zero)); grind)
 ·
  have g1' := of_decide_eq_false g1
  refine r_guard rfl rfl rfl (ncf g1) (fun _ => ?_)
  refine r_guard rfl rfl rfl (ncf g1) (fun _ => ?_)
  refine r_guard rfl rfl rfl (ncf g1) (fun _ => ?_)
  refine r_guard rfl rfl rfl (ncf g1) (fun _ => ?_)
  refine r_op (o_pickF rfl rfl g1 rfl) ?_
  refine r_op oA ?_
  refine r_end ?_
  refine t_ret Tryz.func79 (.tmp rfl .nil) rfl fun E S w u hI hd => ?_
  refine post_mk hI hd ?_ trivial rfl rfl rfl <;> clear hI hd
  all_goals (refine scB ?_; (have e7 := allEq_dec (p := fun x y => decide (cmpF (x.1, x.2) (y.1, y.2) = 0)) (a := fs) (b := fs2) (fun x y => decide_eq_decide.2 cmpF_zero)); grind)
set_option maxHeartbeats 1000000 in
set_option maxRecDepth 10000 in
theorem c_impl_IsSolution (rs : Rels) (fs : Atoms) (rs2 : Rels) (fs2 : Atoms) (ds : List Dep) (hrs : rs.length ≤ 1048576) (hfs : szS (fun (x : Int × (List (Int))) => (x.2).length) fs ≤ 1048576) (ho : ∀ z ∈ fs, ∀ x ∈ z.2, okI x) (hrs2 : rs2.length ≤ 1048576) (hfs2 : szS (fun (x : Int × (List (Int))) => (x.2).length) fs2 ≤ 1048576) (ho2 : ∀ z ∈ fs2, ∀ x ∈ z.2, okI x) (hds : szS (fun (x : (List (Int × (List (Int)))) × (List (Int × (List (Int)))) × Bool × Int × Int) => (szS (fun (x : Int × (List (Int))) => (x.2).length) (x.1)) + (szS (fun (x : Int × (List (Int))) => (x.2).length) (x.2.1))) ds ≤ 1048576) (hod : ∀ d ∈ ds, ∀ z ∈ d.1, ∀ x ∈ z.2, okI x) : Pu Tryz.prog 37 [.agg [.t none (.sl 3 (enS3 encS encI encB) (rs)), .t none (.sl 2 (enS2 encI (enSl 1 encI)) (fs))], .agg [.t none (.sl 3 (enS3 encS encI encB) (rs2)), .t none (.sl 2 (enS2 encI (enSl 1 encI)) (fs2))], .c (.t none (.sl 5 (enS5 (enSl 2 (enS2 encI (enSl 1 encI))) (enSl 2 (enS2 encI (enSl 1 encI))) encB encI encI) (ds)))] [] 0 (.c (.t none (.v (.bool (solB rs fs rs2 fs2 ds))))) := by
 refine pu_enter Tryz.func37 rfl (Nat.le_of_ble_eq_true rfl) fun w S => ?_
 have r1 := rstR_len rs fs; have r2 := rstR_len rs2 fs2; have r3 := rstF_sz rs fs true; have r4 := rstF_sz rs2 fs2 true
 refine tsr ?_
 refine r_op (o_box 0 rfl rfl rfl rfl) ?_
 refine r_op (o_box 1 rfl rfl rfl rfl) ?_
 refine r_op oA ?_
 refine r_end ?_
 refine t_seq ?_
 refine t_draw (fun _ => true) (by kernel_rfl) ?_
 refine dT 0 rfl (pC 2) ?_
 refine dT 1 rfl pM ?_
 refine dO 2 rfl (o_call 2 2 false (Go.Proofs.enters_of Tryz.func31 (by kernel_rfl) rfl) (c_impl_Satisfies (rs2) (fs2) (ds) (by omega) (by omega) (by omega) (by omega) (by omega)) rfl (.cons rfl (.agg (.cons .t0 (.cons .t0 .nil))) (.cons rfl (.c .t0) .nil)) rfl rfl rfl) ?_
 refine dT 3 rfl pM ?_
 refine dH 4 rfl (fun _ => pC 2) (fun g1 => ?_) (fun g1 => ?_)
 ·
  have g1' := g1
  refine d_onlyG 5 rfl rfl (by kernel_rfl) rfl rfl rfl (fun _ => (o_call 2 2 false (Go.Proofs.enters_of Tryz.func45 (by kernel_rfl) rfl) (c_impl_IsValidInstance (rs) (fs) (by omega) (by omega) (by omega)) rfl (.cons rfl (.agg (.cons .t0 (.cons .t0 .nil))) .nil) rfl rfl rfl)) (fun _ => ?_) (nc g1)
  refine dT 6 rfl (p_pickT rfl g1 rfl) ?_
  refine dT 7 rfl pM ?_
  refine dH 8 rfl (fun _ => pC 2) (fun g2 => ?_) (fun g2 => ?_)
  ·
   have g2' := g2
   refine dH 10 rfl (fun _ => pC 2) (fun _ => ?_) (nc g2)
   refine d_onlyG 9 rfl rfl (by kernel_rfl) rfl rfl rfl (fun _ => (o_call 2 2 true (Go.Proofs.enters_of Tryz.func80 (by kernel_rfl) rfl) (c_impl_Restrict (rs) (fs) (true) (by omega) (by omega) (by omega)) rfl (.cons rfl (.agg (.cons .t0 (.cons .t0 .nil))) (.cons rfl (.c .t0) .nil)) rfl rfl rfl)) (fun _ => ?_) (nc g2)
   refine d_onlyG 11 rfl rfl (by kernel_rfl) rfl rfl rfl (fun _ => (o_call 2 2 true (Go.Proofs.enters_of Tryz.func80 (by kernel_rfl) rfl) (c_impl_Restrict (rs2) (fs2) (true) (by omega) (by omega) (by omega)) rfl (.cons rfl (.agg (.cons .t0 (.cons .t0 .nil))) (.cons rfl (.c .t0) .nil)) rfl rfl rfl)) (fun _ => ?_) (nc g2)
   refine d_onlyG 12 rfl rfl (by kernel_rfl) rfl rfl rfl (fun _ => (o_call 2 2 false (Go.Proofs.enters_of Tryz.func79 (by kernel_rfl) rfl) (c_impl_EqualInstances (rstR (rs) (fs)) (rstF (rs) (fs) (true)) (rstR (rs2) (fs2)) (rstF (rs2) (fs2) (true)) (by omega) (by omega) (by omega) (by omega)) rfl (.cons rfl (.agg (.cons .t0 (.cons .t0 .nil))) (.cons rfl (.agg (.cons .t0 (.cons .t0 .nil))) .nil)) rfl rfl rfl)) (fun _ => ?_) (nc g2)
   refine dT 13 rfl (p_pickT rfl g2 rfl) ?_
   refine dT 14 rfl pA ?_
   refine d_end (by kernel_rfl) ?_
   refine t_ret Tryz.func37 (.tmp rfl .nil) rfl fun E S w u hI hd => ?_
   refine post_mk hI hd ?_ trivial rfl rfl rfl <;> clear hI hd
   all_goals (refine scB ?_; unfold solB; clear hrs hfs ho hrs2 hfs2 ho2 hds hod r1 r2 r3 r4; grind)
  ·
   have g2' := g2
   refine dG 9 (ncf g2) (fun _ => ?_)
   refine dG 10 (ncf g2) (fun _ => ?_)
   refine dG 11 (ncf g2) (fun _ => ?_)
   refine dG 12 (ncf g2) (fun _ => ?_)
   refine dT 13 rfl (p_pickF rfl g2 rfl) ?_
   refine dT 14 rfl pA ?_
   refine d_end (by kernel_rfl) ?_
   refine t_ret Tryz.func37 (.tmp rfl .nil) rfl fun E S w u hI hd => ?_
   refine post_mk hI hd ?_ trivial rfl rfl rfl <;> clear hI hd
   all_goals (refine scB ?_; unfold solB; clear hrs hfs ho hrs2 hfs2 ho2 hds hod r1 r2 r3 r4; grind)
 ·
  have g1' := g1
  refine dG 5 (ncf g1) (fun _ => ?_)
  refine dT 6 rfl (p_pickF rfl g1 rfl) ?_
  refine dT 7 rfl pM ?_
  refine dG 8 (ncf rfl) (fun _ => ?_)
  refine dG 9 (ncf rfl) (fun _ => ?_)
  refine dG 10 (ncf rfl) (fun _ => ?_)
  refine dG 11 (ncf rfl) (fun _ => ?_)
  refine dG 12 (ncf rfl) (fun _ => ?_)
  refine dT 13 rfl (p_pickF rfl rfl rfl) ?_
  refine dT 14 rfl pA ?_
  refine d_end (by kernel_rfl) ?_
  refine t_ret Tryz.func37 (.tmp rfl .nil) rfl fun E S w u hI hd => ?_
  refine post_mk hI hd ?_ trivial rfl rfl rfl <;> clear hI hd
  all_goals (refine scB ?_; unfold solB; clear hrs hfs ho hrs2 hfs2 ho2 hds hod r1 r2 r3 r4; grind)
theorem eq_c_spec_l5Sigs_neq_94 (p0 : List UInt8) (p1 : Int) (p2 : Bool) (q0 : List UInt8) (q1 : Int) (q2 : Bool) : EqS Tryz.prog .neq 94 [.string (mkS p0), .int .i64 p1, .bool p2] [.string (mkS q0), .int .i64 q1, .bool q2] (.bool (!(decide ((p0, p1, p2) = (q0, q1, q2))))) := by
 refine ⟨rfl, fun x y w => ?_⟩
 have hS : Tryz.prog.underlying 94 = some (.struct (Tryz.prog.fieldsOf 94)) := by kernel_rfl
 have hp : Tryz.prog.stoodInHeld 94 = false := by kernel_rfl
 have u3 := Tryz.underlying3; have a3 := Tryz.isAgg3; have z3 := Tryz.sizeOf3; have u4 := Tryz.underlying4; have a4 := Tryz.isAgg4; have z4 := Tryz.sizeOf4; have u9 := Tryz.underlying9; have a9 := Tryz.isAgg9; have z9 := Tryz.sizeOf9
 rw [Sem.run_bind, run_eqGuard_agg w _ _ _ _ _ _ (by kernel_rfl), Result.andThen_ok, run_neq_struct, show (10000 : Nat) = 9999 + 1 from rfl, run_equalIn_agg w 9999 94 _ _ hS hp]
 simp only [Program.fieldsOf, Tryz.underlying94]
 go_simp
 by_cases h0 : p0 = q0 <;> by_cases h1 : p1 = q1 <;> by_cases h2 : p2 = q2 <;> simp [h0, h1, h2, mkS_toList]
set_option maxHeartbeats 1000000 in
set_option maxRecDepth 10000 in
theorem c_spec_l5Sigs (a b : Rels) (ha : a.length ≤ 1048576) (hb : b.length ≤ 1048576) : Pu Tryz.prog 94 [.c (.t none (.sl 3 (enS3 encS encI encB) (a))), .c (.t none (.sl 3 (enS3 encS encI encB) (b)))] [] 0 (.c (.t none (.v (.bool (decide (a = b)))))) := by
 refine pu_enter Tryz.func94 rfl (Nat.le_of_ble_eq_true rfl) fun w S => ?_
 refine tsr ?_
 refine r_op oA ?_
 refine r_end ?_
 refine t_seq ?_
 refine tsr ?_
 refine r_op oM ?_
 refine r_op (o_len rfl rfl rfl) ?_
 refine r_op oM ?_
 refine r_op (o_len rfl rfl rfl) ?_
 refine r_op oB ?_
 refine r_end ?_
 refine t_cond rfl (fun h1 => ?_) (fun h1 => ?_)
 ·
  have h1' := of_decide_eq_true h1
  refine tsr ?_
  refine r_op oA ?_
  refine r_end ?_
  refine t_ret Tryz.func94 (.tmp rfl .nil) rfl fun E S w u hI hd => ?_
  refine post_mk hI hd ?_ trivial rfl rfl rfl <;> clear hI hd <;> (try clear ih0)
  all_goals (refine scB ?_; (have : a ≠ b := by rintro rfl; simp at *); simp [this])
 ·
  have h1' := of_decide_eq_false h1
  refine t_skip ?_
  refine t_seq ?_
  refine tsr ?_
  refine r_op oA ?_
  refine r_end ?_
  refine t_block ?_
  refine t_loopL (fun m => ⟨[(0, some (.c (.t none (.sl 3 (enS3 encS encI encB) (a))))), (1, some (.c (.t none (.sl 3 (enS3 encS encI encB) (b))))), (5, some (.c (.t none (.v (.int .i64 ((m : Int)))))))], [], 0⟩ : Nat → St) (fun m => m ≤ a.length ∧ a.length = b.length ∧ a.take m = b.take m) (fun m => a.length - m) 0 ⟨⟨rfl, ⟨rfl, ⟨rfl, trivial⟩⟩⟩, trivial, rfl⟩ (by exact ⟨Nat.zero_le _, by omega, rfl⟩) ?_
  rintro m hI ih0
  try dsimp only at hI ih0
  obtain ⟨i1, i2, i3⟩ := hI
  refine t_seq ?_
  refine tsr ?_
  refine r_op oM ?_
  refine r_op oM ?_
  refine r_op (o_len rfl rfl rfl) ?_
  refine r_op oB ?_
  refine r_end ?_
  refine t_cond rfl (fun h2 => ?_) (fun h2 => ?_)
  ·
   have h2' := of_decide_eq_true h2
   refine t_skip ?_
   refine t_seq ?_
   refine t_block ?_
   refine t_seq ?_
   refine t_draw (fun _ => true) (by kernel_rfl) ?_
   refine dT 0 rfl pM ?_
   refine dT 1 rfl pM ?_
   obtain ⟨z3, hz4, b5⟩ := at_get (xs := a) (n := (m : Int)) (by omega) (by omega)
   refine dT 2 rfl (p_index (by kernel_rfl) rfl rfl b5 hz4) ?_
   refine dT 3 rfl (p_loadA (n := 3) (by kernel_rfl) (by kernel_rfl) rfl rfl) ?_
   refine dT 4 rfl pM ?_
   refine dT 5 rfl pM ?_
   obtain ⟨z6, hz7, b8⟩ := at_get (xs := b) (n := (m : Int)) (by omega) (by omega)
   refine dT 6 rfl (p_index (by kernel_rfl) rfl rfl b8 hz7) ?_
   refine dT 7 rfl (p_loadA (n := 3) (by kernel_rfl) (by kernel_rfl) rfl rfl) ?_
   refine dT 8 rfl (p_eqA rfl rfl (eq_c_spec_l5Sigs_neq_94 _ _ _ _ _ _)) ?_
   refine d_end (by kernel_rfl) ?_
   refine t_cond rfl (fun h9 => ?_) (fun h9 => ?_)
   ·
    have h9' := of_decide_eq_false (bnt h9)
    refine tsr ?_
    refine r_op oA ?_
    refine r_end ?_
    refine t_ret Tryz.func94 (.tmp rfl .nil) rfl fun E S w u hI hd => ?_
    refine post_mk hI hd ?_ trivial rfl rfl rfl <;> clear hI hd <;> (try clear ih0)
    all_goals (refine scB ?_; have := ne_at (a := a) (b := b) hz4 hz7 (fun e => by subst e; simp_all); simp [this])
   ·
    have h9' := of_decide_eq_true (bnf h9)
    refine t_skip ?_
    refine t_endblock ?_
    refine t_region ?_
    refine r_op oM ?_
    refine r_op oB ?_
    refine r_op oA ?_
    refine r_end ?_
    refine t_le ?_ (ih0 (m + 1) (by (try dsimp only); omega) (by (try dsimp only); exact ⟨by omega, i2, take_same i3 (same_at hz4 hz7 (by assumption))⟩))
    exact ⟨⟨rfl, ⟨rfl, ⟨(eqI (wr64 (by omega) (by omega))), trivial⟩⟩⟩, trivial, rfl⟩
  ·
   have h2' := of_decide_eq_false h2
   refine t_exit rfl ?_
   refine tsr ?_
   refine r_op oA ?_
   refine r_end ?_
   refine t_ret Tryz.func94 (.tmp rfl .nil) rfl fun E S w u hI hd => ?_
   refine post_mk hI hd ?_ trivial rfl rfl rfl <;> clear hI hd <;> (try clear ih0)
   all_goals ((obtain rfl : m = a.length := by omega); rw [List.take_length, i2, List.take_length] at i3; refine scB ?_; simp [i3])
set_option maxHeartbeats 1000000 in
set_option maxRecDepth 10000 in
theorem c_spec_EqualInstances (rs : Rels) (fs : Atoms) (rs2 : Rels) (fs2 : Atoms) (hrs : rs.length ≤ 1048576) (hfs : szS (fun (x : Int × (List (Int))) => (x.2).length) fs ≤ 1048576) (hrs2 : rs2.length ≤ 1048576) (hfs2 : szS (fun (x : Int × (List (Int))) => (x.2).length) fs2 ≤ 1048576) : Pu Tryz.prog 42 [.agg [.t none (.sl 3 (enS3 encS encI encB) (rs)), .t none (.sl 2 (enS2 encI (enSl 1 encI)) (fs))], .agg [.t none (.sl 3 (enS3 encS encI encB) (rs2)), .t none (.sl 2 (enS2 encI (enSl 1 encI)) (fs2))]] [] 0 (.c (.t none (.v (.bool (decide (rs = rs2) && decide (fs = fs2)))))) := by
 refine pu_enter Tryz.func42 rfl (Nat.le_of_ble_eq_true rfl) fun w S => ?_
 have gl := sz_len (f := (fun (x : Int × (List (Int))) => (x.2).length)) (l := fs); have gl2 := sz_len (f := (fun (x : Int × (List (Int))) => (x.2).length)) (l := fs2)
 refine tsr ?_
 refine r_op (o_box 0 rfl rfl rfl rfl) ?_
 refine r_op (o_box 1 rfl rfl rfl rfl) ?_
 refine r_op oA ?_
 refine r_end ?_
 refine t_seq ?_
 refine tsr ?_
 refine r_op (oF 0) ?_
 refine r_op oL ?_
 refine r_op (oF 0) ?_
 refine r_op oL ?_
 refine r_op (o_call 2 2 false (Go.Proofs.enters_of Tryz.func94 (by kernel_rfl) rfl) (c_spec_l5Sigs (rs) (rs2) (by omega) (by omega)) rfl (.cons rfl (.c .t0) (.cons rfl (.c .t0) .nil)) rfl rfl rfl) ?_
 refine r_op (o_not rfl rfl) ?_
 refine r_op oM ?_
 refine r_guard rfl rfl rfl (fun g1 => ?_) (fun g1 => ?_)
 ·
  have g1' := of_decide_eq_true (bnf g1)
  refine r_op (oF 1) ?_
  refine r_guard rfl rfl rfl (fun _ => ?_) (ncf g1)
  refine r_op oL ?_
  refine r_guard rfl rfl rfl (fun _ => ?_) (ncf g1)
  refine r_op (o_len rfl rfl rfl) ?_
  refine r_guard rfl rfl rfl (fun _ => ?_) (ncf g1)
  refine r_op (oF 1) ?_
  refine r_guard rfl rfl rfl (fun _ => ?_) (ncf g1)
  refine r_op oL ?_
  refine r_guard rfl rfl rfl (fun _ => ?_) (ncf g1)
  refine r_op (o_len rfl rfl rfl) ?_
  refine r_guard rfl rfl rfl (fun _ => ?_) (ncf g1)
  refine r_op oB ?_
  refine r_op (o_pickF rfl rfl g1 rfl) ?_
  refine r_end ?_
  refine t_cond rfl (fun h2 => ?_) (fun h2 => ?_)
  ·
   have h2' := of_decide_eq_true h2
   refine tsr ?_
   refine r_op oA ?_
   refine r_end ?_
   refine t_ret Tryz.func42 (.tmp rfl .nil) rfl fun E S w u hI hd => ?_
   refine post_mk hI hd ?_ trivial rfl rfl rfl <;> clear hI hd <;> (try clear ih0)
   all_goals (refine scB ?_; (have e7 : fs.length ≠ fs2.length → ¬ fs = fs2 := fun h e => h (by rw [e])); grind)
  ·
   have h2' := of_decide_eq_false h2
   refine t_skip ?_
   refine t_seq ?_
   refine tsr ?_
   refine r_op oA ?_
   refine r_end ?_
   refine t_block ?_
   refine t_loopL (fun m => ⟨[(2, some (.c (.ptr 0 0))), (3, some (.c (.ptr 1 0))), (5, some (.c (.t none (.v (.int .i64 ((m : Int)))))))], [(0, some (.box [.t none (.sl 3 (enS3 encS encI encB) (rs)), .t none (.sl 2 (enS2 encI (enSl 1 encI)) (fs))])), (1, some (.box [.t none (.sl 3 (enS3 encS encI encB) (rs2)), .t none (.sl 2 (enS2 encI (enSl 1 encI)) (fs2))]))], 2⟩ : Nat → St) (fun m => m ≤ fs.length ∧ fs.length = fs2.length ∧ decide (rs = rs2) = true ∧ fs.take m = fs2.take m) (fun m => fs.length - m) 0 ⟨⟨rfl, ⟨rfl, ⟨rfl, trivial⟩⟩⟩, ⟨rfl, ⟨rfl, trivial⟩⟩, rfl⟩ (by exact ⟨Nat.zero_le _, by grind, by grind, rfl⟩) ?_
   rintro m hI ih0
   try dsimp only at hI ih0
   obtain ⟨i1, i2, i4, i3⟩ := hI
   refine t_seq ?_
   refine tsr ?_
   refine r_op oM ?_
   refine r_op (oF 1) ?_
   refine r_op oL ?_
   refine r_op (o_len rfl rfl rfl) ?_
   refine r_op oB ?_
   refine r_end ?_
   refine t_cond rfl (fun h3 => ?_) (fun h3 => ?_)
   ·
    have h3' := of_decide_eq_true h3
    refine t_skip ?_
    refine t_seq ?_
    refine t_block ?_
    refine t_seq ?_
    refine t_draw (fun _ => true) (by kernel_rfl) ?_
    refine dT 0 rfl (pF 1) ?_
    refine dT 1 rfl pL ?_
    refine dT 2 rfl pM ?_
    obtain ⟨z4, hz5, b6⟩ := at_get (xs := fs) (n := (m : Int)) (by omega) (by omega)
    refine dT 3 rfl (p_index (by kernel_rfl) rfl rfl b6 hz5) ?_
    refine dT 4 rfl (p_loadA (n := 2) (by kernel_rfl) (by kernel_rfl) rfl rfl) ?_
    refine dT 5 rfl (pF 1) ?_
    refine dT 6 rfl pL ?_
    refine dT 7 rfl pM ?_
    obtain ⟨z7, hz8, b9⟩ := at_get (xs := fs2) (n := (m : Int)) (by omega) (by omega)
    refine dT 8 rfl (p_index (by kernel_rfl) rfl rfl b9 hz8) ?_
    refine dT 9 rfl (p_loadA (n := 2) (by kernel_rfl) (by kernel_rfl) rfl rfl) ?_
    refine dO 10 rfl (o_call 2 2 false (Go.Proofs.enters_of Tryz.func20 (by kernel_rfl) rfl) (c_spec_CompareFacts (z4.1) (z4.2) (z7.1) (z7.2) (by (have e1 := sz_at (f := (fun (x : Int × (List (Int))) => (x.2).length)) (l := fs) (m := m) (by assumption); (try dsimp only at e1); omega)) (by (have e1 := sz_at (f := (fun (x : Int × (List (Int))) => (x.2).length)) (l := fs2) (m := m) (by assumption); (try dsimp only at e1); omega))) rfl (.cons rfl (.agg (.cons .t0 (.cons .t0 .nil))) (.cons rfl (.agg (.cons .t0 (.cons .t0 .nil))) .nil)) rfl rfl rfl) ?_
    refine dT 11 rfl pB ?_
    refine d_end (by kernel_rfl) ?_
    refine t_cond rfl (fun h10 => ?_) (fun h10 => ?_)
    ·
     have h10' := of_decide_eq_true h10
     refine tsr ?_
     refine r_op oA ?_
     refine r_end ?_
     refine t_ret Tryz.func42 (.tmp rfl .nil) rfl fun E S w u hI hd => ?_
     refine post_mk hI hd ?_ trivial rfl rfl rfl <;> clear hI hd <;> (try clear ih0)
     all_goals (refine scB ?_; have e7 := ne_at (a := fs) (b := fs2) hz5 hz8 (fun e => (by assumption : ¬ cmpF _ _ = 0) (cmpF_zero.2 e)); simp [e7])
    ·
     have h10' := of_decide_eq_false h10
     refine t_skip ?_
     refine t_endblock ?_
     refine t_region ?_
     refine r_op oM ?_
     refine r_op oB ?_
     refine r_op oA ?_
     refine r_end ?_
     refine t_le ?_ (ih0 (m + 1) (by (try dsimp only); omega) (by (try dsimp only); exact ⟨by omega, i2, i4, take_same i3 (same_at hz5 hz8 (cmpF_zero.1 (by simp only [Decidable.not_not] at *; assumption)))⟩))
     exact ⟨⟨rfl, ⟨rfl, ⟨(eqI (wr64 (by omega) (by omega))), trivial⟩⟩⟩, ⟨rfl, ⟨rfl, trivial⟩⟩, rfl⟩
   ·
    have h3' := of_decide_eq_false h3
    refine t_exit rfl ?_
    refine tsr ?_
    refine r_op oA ?_
    refine r_end ?_
    refine t_ret Tryz.func42 (.tmp rfl .nil) rfl fun E S w u hI hd => ?_
    refine post_mk hI hd ?_ trivial rfl rfl rfl <;> clear hI hd <;> (try clear ih0)
    all_goals ((obtain rfl : m = fs.length := by omega); rw [List.take_length, i2, List.take_length] at i3; refine scB ?_; grind)
 ·
  have g1' := of_decide_eq_false (bnt g1)
  refine r_guard rfl rfl rfl (nc g1) (fun _ => ?_)
  refine r_guard rfl rfl rfl (nc g1) (fun _ => ?_)
  refine r_guard rfl rfl rfl (nc g1) (fun _ => ?_)
  refine r_guard rfl rfl rfl (nc g1) (fun _ => ?_)
  refine r_guard rfl rfl rfl (nc g1) (fun _ => ?_)
  refine r_guard rfl rfl rfl (nc g1) (fun _ => ?_)
  refine r_op (o_pickT rfl rfl g1 rfl) ?_
  refine r_end ?_
  refine t_cond rfl (fun _ => ?_) (nc rfl)
  refine tsr ?_
  refine r_op oA ?_
  refine r_end ?_
  refine t_ret Tryz.func42 (.tmp rfl .nil) rfl fun E S w u hI hd => ?_
  refine post_mk hI hd ?_ trivial rfl rfl rfl <;> clear hI hd <;> (try clear ih0)
  all_goals (simp_all <;> omega)
set_option maxHeartbeats 1000000 in
set_option maxRecDepth 10000 in
theorem c_spec_IsSolution (rs : Rels) (fs : Atoms) (rs2 : Rels) (fs2 : Atoms) (ds : List Dep) (hrs : rs.length ≤ 1048576) (hfs : szS (fun (x : Int × (List (Int))) => (x.2).length) fs ≤ 1048576) (ho : ∀ z ∈ fs, ∀ x ∈ z.2, okI x) (hrs2 : rs2.length ≤ 1048576) (hfs2 : szS (fun (x : Int × (List (Int))) => (x.2).length) fs2 ≤ 1048576) (ho2 : ∀ z ∈ fs2, ∀ x ∈ z.2, okI x) (hds : szS (fun (x : (List (Int × (List (Int)))) × (List (Int × (List (Int)))) × Bool × Int × Int) => (szS (fun (x : Int × (List (Int))) => (x.2).length) (x.1)) + (szS (fun (x : Int × (List (Int))) => (x.2).length) (x.2.1))) ds ≤ 1048576) (hod : ∀ d ∈ ds, ∀ z ∈ d.1, ∀ x ∈ z.2, okI x) : Pu Tryz.prog 38 [.agg [.t none (.sl 3 (enS3 encS encI encB) (rs)), .t none (.sl 2 (enS2 encI (enSl 1 encI)) (fs))], .agg [.t none (.sl 3 (enS3 encS encI encB) (rs2)), .t none (.sl 2 (enS2 encI (enSl 1 encI)) (fs2))], .c (.t none (.sl 5 (enS5 (enSl 2 (enS2 encI (enSl 1 encI))) (enSl 2 (enS2 encI (enSl 1 encI))) encB encI encI) (ds)))] [] 0 (.c (.t none (.v (.bool (solB rs fs rs2 fs2 ds))))) := by
 refine pu_enter Tryz.func38 rfl (Nat.le_of_ble_eq_true rfl) fun w S => ?_
 have r1 := rstR_len rs fs; have r2 := rstR_len rs2 fs2; have r3 := rstF_sz rs fs true; have r4 := rstF_sz rs2 fs2 true
 refine tsr ?_
 refine r_op (o_box 0 rfl rfl rfl rfl) ?_
 refine r_op (o_box 1 rfl rfl rfl rfl) ?_
 refine r_op oA ?_
 refine r_end ?_
 refine t_seq ?_
 refine t_draw (fun _ => true) (by kernel_rfl) ?_
 refine dT 0 rfl (pC 2) ?_
 refine dT 1 rfl pM ?_
 refine dO 2 rfl (o_call 2 2 false (Go.Proofs.enters_of Tryz.func33 (by kernel_rfl) rfl) (c_spec_Satisfies (rs2) (fs2) (ds) (by omega) (by omega) (by omega) (by omega) (by omega)) rfl (.cons rfl (.agg (.cons .t0 (.cons .t0 .nil))) (.cons rfl (.c .t0) .nil)) rfl rfl rfl) ?_
 refine dT 3 rfl pM ?_
 refine dH 4 rfl (fun _ => pC 2) (fun g1 => ?_) (fun g1 => ?_)
 ·
  have g1' := g1
  refine d_onlyG 5 rfl rfl (by kernel_rfl) rfl rfl rfl (fun _ => (o_call 2 2 false (Go.Proofs.enters_of Tryz.func34 (by kernel_rfl) rfl) (c_spec_IsValidInstance (rs) (fs) (by omega) (by omega) (by omega)) rfl (.cons rfl (.agg (.cons .t0 (.cons .t0 .nil))) .nil) rfl rfl rfl)) (fun _ => ?_) (nc g1)
  refine dT 6 rfl (p_pickT rfl g1 rfl) ?_
  refine dT 7 rfl pM ?_
  refine dH 8 rfl (fun _ => pC 2) (fun g2 => ?_) (fun g2 => ?_)
  ·
   have g2' := g2
   refine dH 10 rfl (fun _ => pC 2) (fun _ => ?_) (nc g2)
   refine d_onlyG 9 rfl rfl (by kernel_rfl) rfl rfl rfl (fun _ => (o_call 2 2 true (Go.Proofs.enters_of Tryz.func77 (by kernel_rfl) rfl) (c_spec_Restrict (rs2) (fs2) (true) (by omega) (by omega) (by omega)) rfl (.cons rfl (.agg (.cons .t0 (.cons .t0 .nil))) (.cons rfl (.c .t0) .nil)) rfl rfl rfl)) (fun _ => ?_) (nc g2)
   refine d_onlyG 11 rfl rfl (by kernel_rfl) rfl rfl rfl (fun _ => (o_call 2 2 true (Go.Proofs.enters_of Tryz.func77 (by kernel_rfl) rfl) (c_spec_Restrict (rs) (fs) (true) (by omega) (by omega) (by omega)) rfl (.cons rfl (.agg (.cons .t0 (.cons .t0 .nil))) (.cons rfl (.c .t0) .nil)) rfl rfl rfl)) (fun _ => ?_) (nc g2)
   refine d_onlyG 12 rfl rfl (by kernel_rfl) rfl rfl rfl (fun _ => (o_call 2 2 false (Go.Proofs.enters_of Tryz.func42 (by kernel_rfl) rfl) (c_spec_EqualInstances (rstR (rs2) (fs2)) (rstF (rs2) (fs2) (true)) (rstR (rs) (fs)) (rstF (rs) (fs) (true)) (by omega) (by omega) (by omega) (by omega)) rfl (.cons rfl (.agg (.cons .t0 (.cons .t0 .nil))) (.cons rfl (.agg (.cons .t0 (.cons .t0 .nil))) .nil)) rfl rfl rfl)) (fun _ => ?_) (nc g2)
   refine dT 13 rfl (p_pickT rfl g2 rfl) ?_
   refine dT 14 rfl pA ?_
   refine d_end (by kernel_rfl) ?_
   refine t_ret Tryz.func38 (.tmp rfl .nil) rfl fun E S w u hI hd => ?_
   refine post_mk hI hd ?_ trivial rfl rfl rfl <;> clear hI hd
   all_goals (refine scB ?_; unfold solB; clear hrs hfs ho hrs2 hfs2 ho2 hds hod r1 r2 r3 r4; grind)
  ·
   have g2' := g2
   refine dG 9 (ncf g2) (fun _ => ?_)
   refine dG 10 (ncf g2) (fun _ => ?_)
   refine dG 11 (ncf g2) (fun _ => ?_)
   refine dG 12 (ncf g2) (fun _ => ?_)
   refine dT 13 rfl (p_pickF rfl g2 rfl) ?_
   refine dT 14 rfl pA ?_
   refine d_end (by kernel_rfl) ?_
   refine t_ret Tryz.func38 (.tmp rfl .nil) rfl fun E S w u hI hd => ?_
   refine post_mk hI hd ?_ trivial rfl rfl rfl <;> clear hI hd
   all_goals (refine scB ?_; unfold solB; clear hrs hfs ho hrs2 hfs2 ho2 hds hod r1 r2 r3 r4; grind)
 ·
  have g1' := g1
  refine dG 5 (ncf g1) (fun _ => ?_)
  refine dT 6 rfl (p_pickF rfl g1 rfl) ?_
  refine dT 7 rfl pM ?_
  refine dG 8 (ncf rfl) (fun _ => ?_)
  refine dG 9 (ncf rfl) (fun _ => ?_)
  refine dG 10 (ncf rfl) (fun _ => ?_)
  refine dG 11 (ncf rfl) (fun _ => ?_)
  refine dG 12 (ncf rfl) (fun _ => ?_)
  refine dT 13 rfl (p_pickF rfl rfl rfl) ?_
  refine dT 14 rfl pA ?_
  refine d_end (by kernel_rfl) ?_
  refine t_ret Tryz.func38 (.tmp rfl .nil) rfl fun E S w u hI hd => ?_
  refine post_mk hI hd ?_ trivial rfl rfl rfl <;> clear hI hd
  all_goals (refine scB ?_; unfold solB; clear hrs hfs ho hrs2 hfs2 ho2 hds hod r1 r2 r3 r4; grind)
set_option maxHeartbeats 1000000 in
set_option maxRecDepth 10000 in
theorem c_laws_FnSatisfaction (code : List Int) (hcl : code.length ≤ 9223372036854775807) : Pu Tryz.prog 5 [.c (.t none (.sl 1 encU (code)))] [] 0 (.c (.t none (.v (.bool (true))))) := by
 refine pu_enter Tryz.func5 rfl (Nat.le_of_ble_eq_true rfl) fun w S => ?_
 refine tsr ?_
 refine r_op oA ?_
 refine r_end ?_
 refine t_seq ?_
 refine tsr ?_
 refine r_op oM ?_
 refine r_op (o_call 0 0 false (Go.Proofs.enters_of Tryz.func7 (by kernel_rfl) rfl) (c_laws_big (code)) rfl (.cons rfl (.c .t0) .nil) rfl rfl rfl) ?_
 refine r_end ?_
 refine t_cond rfl (fun h1 => ?_) (fun h1 => ?_)
 ·
  have h1' := of_decide_eq_true h1
  refine tsr ?_
  refine r_op oA ?_
  refine r_end ?_
  refine t_ret Tryz.func5 (.tmp rfl .nil) rfl fun E S w u hI hd => ?_
  refine post_mk hI hd ?_ trivial rfl rfl rfl <;> clear hI hd <;> (try clear ih0)
  all_goals (rfl)
 ·
  have h1' := of_decide_eq_false h1
  refine t_skip ?_
  refine tsr ?_
  refine r_op oM ?_
  refine r_opX (o_callG 0 0 (Go.Proofs.enters_of Tryz.func28 (by kernel_rfl) rfl) (c_spec_DrawFirstViolation (code) (by omega)) rfl (.cons rfl (.c .t0) .nil) rfl rfl) ?_
  rintro ⟨⟨rs2, fs3, ds4⟩, hq5⟩
  try dsimp only at hq5
  try dsimp only
  obtain ⟨q6, q7, q8⟩ := hq5
  have hx0 : instL rs2 fs3 := (by assumption); obtain ⟨hx1, hx2, hx3, hx4⟩ := hx0; have xs1 := szF_L hx4; have xs3 := factL_ok hx4; have dd : ∀ d ∈ ds4, depL d := (by assumption); have dl : ds4.length ≤ 6 := (by assumption); have ds1 := dep6_sz dl dd; have hod : ∀ d ∈ ds4, ∀ z ∈ d.1, ∀ x ∈ z.2, okI x := fun d hd => atomL_okI (dd d hd).2.2.1; have SA : ∀ (k : Nat) d, ds4[k]? = some d → szS (fun (x : Int × (List (Int))) => (x.2).length) d.1 + szS (fun (x : Int × (List (Int))) => (x.2).length) d.2.1 ≤ 1048576 ∧ (∀ z ∈ d.1, ∀ x ∈ z.2, okI x) := fun k d h => ⟨by have := szA_dep (dd d (List.mem_of_getElem? h)); omega, hod d (List.mem_of_getElem? h)⟩; have VB := vioB_len (rs := rs2) (fs := fs3) (ds := ds4); have VO : vioOk rs2 fs3 ds4 = (instOk rs2 fs3 && (depsOk rs2 ds4 && ds4.any (hotD rs2 fs3))) := rfl; have VS : vioS rs2 fs3 ds4 = (!vioOk rs2 fs3 ds4 && (instOk rs2 fs3 && depsOk rs2 ds4)) := rfl; have NA : ∀ m : Nat, ds4.length ≤ m → ds4.any (hotD rs2 fs3) = decide (0 < actN rs2 fs3 ds4 m) := fun m h => actN_any h; have NL : ∀ m : Nat, actN rs2 fs3 ds4 m ≤ 27000 * m := fun m => actN_le
  refine r_op oM ?_
  refine r_op (o_extract rfl rfl rfl rfl) ?_
  refine r_op (o_extract rfl rfl rfl rfl) ?_
  refine r_op (o_alloc 0 (zs := [.slice none 0 0, .slice none 0 0]) rfl rfl (by kernel_rfl) rfl) ?_
  refine r_op (oS 2) ?_
  refine r_op oA ?_
  refine etr ?_
  refine r_op (oC 2) ?_
  refine r_op oM ?_
  refine r_opE (o_callE 1 2 (Go.Proofs.enters_of Tryz.func29 (by kernel_rfl) rfl) (c_impl_FirstViolation ((rs2)) ((fs3)) ((ds4)) (by omega) (by omega) (by omega) (by omega) (by omega)) rfl (.cons rfl (.agg (.cons .t0 (.cons .t0 .nil))) (.cons rfl (.c .t0) .nil)) (fun _ => rfl) rfl rfl) fun e9 => ?_
  refine r_op oM ?_
  refine r_op (o_extract rfl rfl rfl rfl) ?_
  refine r_op (o_extract rfl rfl rfl rfl) ?_
  refine r_op (o_extract rfl rfl rfl rfl) ?_
  refine r_op oA ?_
  refine r_op oA ?_
  refine r_op oA ?_
  refine etr ?_
  refine r_op (oC 2) ?_
  refine r_op oM ?_
  refine r_opE (o_callE 2 3 (Go.Proofs.enters_of Tryz.func30 (by kernel_rfl) rfl) (c_spec_FirstViolation ((rs2)) ((fs3)) ((ds4)) (by omega) (by omega) (by omega) (by omega) (by omega)) rfl (.cons rfl (.agg (.cons .t0 (.cons .t0 .nil))) (.cons rfl (.c .t0) .nil)) (fun _ => rfl) rfl rfl) fun e10 => ?_
  refine r_op oM ?_
  refine r_op (o_extract rfl rfl rfl rfl) ?_
  refine r_op (o_extract rfl rfl rfl rfl) ?_
  refine r_op (o_extract rfl rfl rfl rfl) ?_
  refine r_op oA ?_
  refine r_op oA ?_
  refine r_op oA ?_
  refine etr ?_
  refine r_op (oC 2) ?_
  refine r_op oM ?_
  refine r_op (o_call 3 3 false (Go.Proofs.enters_of Tryz.func31 (by kernel_rfl) rfl) (c_impl_Satisfies ((rs2)) ((fs3)) ((ds4)) (by omega) (by omega) (by omega) (by omega) (by omega)) rfl (.cons rfl (.agg (.cons .t0 (.cons .t0 .nil))) (.cons rfl (.c .t0) .nil)) rfl rfl rfl) ?_
  refine r_op oA ?_
  refine r_end ?_
  refine t_seq ?_
  refine tsr ?_
  refine r_op oM ?_
  refine r_op oM ?_
  refine r_op oB ?_
  refine r_op oM ?_
  refine r_guard rfl rfl rfl (fun g11 => ?_) (fun g11 => ?_)
  ·
   have g11' := of_decide_eq_false g11
   refine r_op oM ?_
   refine r_guard rfl rfl rfl (fun _ => ?_) (ncf g11)
   refine r_op oM ?_
   refine r_guard rfl rfl rfl (fun _ => ?_) (ncf g11)
   refine r_op (o_call 3 3 false (Go.Proofs.enters_of Tryz.func32 (by kernel_rfl) rfl) (c_laws_sameInts (vioB ((rs2)) ((fs3)) ((ds4))) (vioB ((rs2)) ((fs3)) ((ds4))) (by omega)) rfl (.cons rfl (.c (.own rfl)) (.cons rfl (.c (.own rfl)) .nil)) rfl rfl rfl) ?_
   refine r_guard rfl rfl rfl (fun _ => ?_) (ncf g11)
   refine r_op (o_not rfl rfl) ?_
   refine r_op (o_pickF rfl rfl g11 rfl) ?_
   refine r_op oM ?_
   refine r_guard rfl rfl rfl (fun g12 => ?_) (fun g12 => ?_)
   ·
    have g12' := of_decide_eq_true (bnf g12)
    refine r_op oM ?_
    refine r_guard rfl rfl rfl (fun _ => ?_) (ncf g12)
    refine r_op oM ?_
    refine r_guard rfl rfl rfl (fun _ => ?_) (ncf g12)
    refine r_op (o_neB rfl Tryz.underlying4 rfl rfl) ?_
    refine r_op (o_pickF rfl rfl g12 rfl) ?_
    refine r_op oM ?_
    refine r_guard rfl rfl rfl (fun g13 => ?_) (fun g13 => ?_)
    ·
     have g13' := g13
     refine r_op oM ?_
     refine r_guard rfl rfl rfl (fun _ => ?_) (ncf g13)
     refine r_op (oC 2) ?_
     refine r_guard rfl rfl rfl (fun _ => ?_) (ncf g13)
     refine r_op oM ?_
     refine r_guard rfl rfl rfl (fun _ => ?_) (ncf g13)
     refine r_op (o_call 3 3 false (Go.Proofs.enters_of Tryz.func33 (by kernel_rfl) rfl) (c_spec_Satisfies ((rs2)) ((fs3)) ((ds4)) (by omega) (by omega) (by omega) (by omega) (by omega)) rfl (.cons rfl (.agg (.cons .t0 (.cons .t0 .nil))) (.cons rfl (.c .t0) .nil)) rfl rfl rfl) ?_
     refine r_guard rfl rfl rfl (fun _ => ?_) (ncf g13)
     refine r_op (o_neB rfl Tryz.underlying4 rfl rfl) ?_
     refine r_op (o_pickF rfl rfl g13 rfl) ?_
     refine r_end ?_
     refine t_cond rfl (fun h14 => ?_) (fun h14 => ?_)
     ·
      have h14' := h14
      refine tsr ?_
      refine r_op oA ?_
      refine r_end ?_
      refine t_ret Tryz.func5 (.tmp rfl .nil) rfl fun E S w u hI hd => ?_
      refine post_mk hI hd ?_ trivial rfl rfl rfl <;> clear hI hd <;> (try clear ih0)
      all_goals ((exfalso; clear hod SA xs3 hx2 hx4 dd; grind))
     ·
      have h14' := h14
      refine t_skip ?_
      refine t_seq ?_
      refine tsr ?_
      refine r_op (oC 2) ?_
      refine r_op (o_call 3 3 false (Go.Proofs.enters_of Tryz.func34 (by kernel_rfl) rfl) (c_spec_IsValidInstance ((rs2)) ((fs3)) (by omega) (by omega) (by omega)) rfl (.cons rfl (.agg (.cons .t0 (.cons .t0 .nil))) .nil) rfl rfl rfl) ?_
      refine r_op (o_not rfl rfl) ?_
      refine r_op oM ?_
      refine r_guard rfl rfl rfl (fun g15 => ?_) (fun g15 => ?_)
      ·
       have g15' := (bnf g15)
       refine r_op (oF 0) ?_
       refine r_guard rfl rfl rfl (fun _ => ?_) (ncf g15)
       refine r_op oL ?_
       refine r_guard rfl rfl rfl (fun _ => ?_) (ncf g15)
       refine r_op oM ?_
       refine r_guard rfl rfl rfl (fun _ => ?_) (ncf g15)
       refine r_op (o_call 3 3 false (Go.Proofs.enters_of Tryz.func35 (by kernel_rfl) rfl) (c_spec_AreValidDependencies ((rs2)) ((ds4)) (by omega) (by omega)) rfl (.cons rfl (.c .t0) (.cons rfl (.c .t0) .nil)) rfl rfl rfl) ?_
       refine r_guard rfl rfl rfl (fun _ => ?_) (ncf g15)
       refine r_op (o_not rfl rfl) ?_
       refine r_op (o_pickF rfl rfl g15 rfl) ?_
       refine r_end ?_
       refine t_cond rfl (fun h16 => ?_) (fun h16 => ?_)
       ·
        have h16' := (bnt h16)
        refine tsr ?_
        refine r_op oM ?_
        refine r_op (o_not rfl rfl) ?_
        refine r_op oM ?_
        refine r_guard rfl rfl rfl (fun g17 => ?_) (fun g17 => ?_)
        ·
         have g17' := (bnt g17)
         refine r_op oM ?_
         refine r_guard rfl rfl rfl (fun _ => ?_) (nc g17)
         refine r_op (o_not rfl rfl) ?_
         refine r_op (o_pickT rfl rfl g17 rfl) ?_
         refine r_op oA ?_
         refine r_end ?_
         refine t_ret Tryz.func5 (.tmp rfl .nil) rfl fun E S w u hI hd => ?_
         refine post_mk hI hd ?_ trivial rfl rfl rfl <;> clear hI hd <;> (try clear ih0)
         all_goals ((refine scB ?_; (try (have na := NA m (by omega))); clear hod SA xs3 hx2 hx4 dd; grind))
        ·
         have g17' := (bnf g17)
         refine r_guard rfl rfl rfl (ncf g17) (fun _ => ?_)
         refine r_op (o_pickF rfl rfl g17 rfl) ?_
         refine r_op oA ?_
         refine r_end ?_
         refine t_ret Tryz.func5 (.tmp rfl .nil) rfl fun E S w u hI hd => ?_
         refine post_mk hI hd ?_ trivial rfl rfl rfl <;> clear hI hd <;> (try clear ih0)
         all_goals ((exfalso; clear hod SA xs3 hx2 hx4 dd; grind))
       ·
        have h16' := (bnf h16)
        refine t_skip ?_
        refine tsr ?_
        refine r_op oA ?_
        refine r_end ?_
        refine t_seq ?_
        refine tsr ?_
        refine r_op oA ?_
        refine r_end ?_
        refine t_block ?_
        refine t_loopL (fun m => ⟨[(0, some (.c (.t none (.sl 1 encU (code))))), (2, some (.c (.t none (.v (.bool (false)))))), (3, some (.c (.ptr 0 0))), (4, some (.c (.t none (.sl 5 (enS5 (enSl 2 (enS2 encI (enSl 1 encI))) (enSl 2 (enS2 encI (enSl 1 encI))) encB encI encI) ((ds4)))))), (7, some (.c (.t none (.v (.bool (vioOk ((rs2)) ((fs3)) ((ds4)))))))), (11, some (.c (.t none (.v (.bool (vioS ((rs2)) ((fs3)) ((ds4)))))))), (12, some (.c (.t none (.v (.int .i64 (((actN rs2 fs3 ds4 m : Nat) : Int))))))), (13, some (.c (.t none (.v (.int .i64 ((m : Int)))))))], [(0, some (.box [.t none (.sl 3 (enS3 encS encI encB) ((rs2))), .t none (.sl 2 (enS2 encI (enSl 1 encI)) ((fs3)))])), (1, some (.row none e9 true 1 encI (vioB ((rs2)) ((fs3)) ((ds4))))), (2, some (.row none e10 true 1 encI (vioB ((rs2)) ((fs3)) ((ds4)))))], 3⟩ : Nat → St) (fun m => m ≤ ds4.length) (fun m => ds4.length - m) 0 ⟨⟨rfl, ⟨rfl, ⟨rfl, ⟨rfl, ⟨rfl, ⟨rfl, ⟨(eqI (by simp [actN])), ⟨rfl, trivial⟩⟩⟩⟩⟩⟩⟩⟩, ⟨rfl, ⟨rfl, ⟨rfl, trivial⟩⟩⟩, rfl⟩ (by exact Nat.zero_le _) ?_
        rintro m hI ih0
        try dsimp only at hI ih0
        have i1 := hI; have nl := NL m; have nl2 := NL (m + 1)
        refine t_seq ?_
        refine tsr ?_
        refine r_op oM ?_
        refine r_op oM ?_
        refine r_op (o_len rfl rfl rfl) ?_
        refine r_op oB ?_
        refine r_end ?_
        refine t_cond rfl (fun h18 => ?_) (fun h18 => ?_)
        ·
         have h18' := of_decide_eq_true h18
         refine t_skip ?_
         refine t_seq ?_
         refine t_block ?_
         refine t_draw (fun _ => true) (by kernel_rfl) ?_
         refine dT 0 rfl pM ?_
         refine dT 1 rfl (pC 2) ?_
         refine dT 2 rfl pM ?_
         refine dT 3 rfl pM ?_
         obtain ⟨z19, hz20, b21⟩ := at_get (xs := (ds4)) (n := (m : Int)) (by omega) (by omega)
         refine dT 4 rfl (p_index (by kernel_rfl) rfl rfl b21 hz20) ?_
         refine dT 5 rfl (p_loadA (n := 5) (by kernel_rfl) (by kernel_rfl) rfl rfl) ?_
         refine dO 6 rfl (o_call 3 6 false (Go.Proofs.enters_of Tryz.func24 (by kernel_rfl) rfl) (c_impl_ActiveTriggers ((rs2)) ((fs3)) (z19.1) (z19.2.1) (z19.2.2.1) (z19.2.2.2.1) (z19.2.2.2.2) (by omega) (by omega) (by omega) (by exact (SA _ _ (by assumption)).1) (by exact (SA _ _ (by assumption)).2)) rfl (.cons rfl (.agg (.cons .t0 (.cons .t0 .nil))) (.cons rfl (.agg (.cons .t0 (.cons .t0 (.cons .t0 (.cons .t0 (.cons .t0 .nil)))))) .nil)) rfl rfl rfl) ?_
         refine dT 7 rfl (p_leno rfl rfl rfl) ?_
         refine dT 8 rfl pB ?_
         refine dT 9 rfl pA ?_
         refine d_end (by kernel_rfl) ?_
         refine t_endblock ?_
         refine t_region ?_
         refine r_op oM ?_
         refine r_op oB ?_
         refine r_op oA ?_
         refine r_end ?_
         refine t_le ?_ (ih0 (m + 1) (by (try dsimp only); omega) (by (try dsimp only); omega))
         exact ⟨⟨rfl, ⟨rfl, ⟨rfl, ⟨rfl, ⟨rfl, ⟨rfl, ⟨(eqI (by have e1 := actN_step (rs := rs2) (fs := fs3) (m := m) hz20; simp only [IntKind.wrap_i64]; omega)), ⟨(eqI (wr64 (by omega) (by omega))), trivial⟩⟩⟩⟩⟩⟩⟩⟩, ⟨rfl, ⟨rfl, ⟨rfl, trivial⟩⟩⟩, rfl⟩
        ·
         have h18' := of_decide_eq_false h18
         refine t_exit rfl ?_
         refine tsr ?_
         refine r_op oM ?_
         refine r_opX (o_callG 3 3 (Go.Proofs.enters_of Tryz.func36 (by kernel_rfl) rfl) (c_spec_DrawIsSolution (code) (by omega)) rfl (.cons rfl (.c .t0) .nil) rfl rfl) ?_
         rintro ⟨⟨rs22, fs23, rs224, fs225, ds26⟩, hq27⟩
         try dsimp only at hq27
         try dsimp only
         obtain ⟨q28, q29, q30, q31⟩ := hq27
         have u0 : instL rs22 fs23 := (by assumption); have u00 : instL rs224 fs225 := (by assumption); have u1 := szF_L u0.2.2.2; have u2 := szF_L u00.2.2.2; have u3 := u0.2.2.1; have u4 := u00.2.2.1; have u5 := u0.1; have u6 := u00.1; have u7 := factL_ok u0.2.2.2; have u8 := factL_ok u00.2.2.2; have uu : ∀ d ∈ ds26, depL d := (by assumption); have u9 := dep6_sz (ds := ds26) (by assumption) uu; have u10 : ∀ d ∈ ds26, ∀ z ∈ d.1, ∀ x ∈ z.2, okI x := fun d hd => atomL_okI (uu d hd).2.2.1
         refine r_op oM ?_
         refine r_op (o_extract rfl rfl rfl rfl) ?_
         refine r_op (o_extract rfl rfl rfl rfl) ?_
         refine r_op (o_extract rfl rfl rfl rfl) ?_
         refine r_op (o_alloc 3 (zs := [.slice none 0 0, .slice none 0 0]) rfl rfl (by kernel_rfl) rfl) ?_
         refine r_op (o_alloc 4 (zs := [.slice none 0 0, .slice none 0 0]) rfl rfl (by kernel_rfl) rfl) ?_
         refine r_op (oS 2) ?_
         refine r_op (oS 2) ?_
         refine r_op oA ?_
         refine r_end ?_
         refine t_seq ?_
         refine t_draw (fun _ => true) (by kernel_rfl) ?_
         refine dT 0 rfl pM ?_
         refine dT 1 rfl pM ?_
         refine dT 2 rfl pB ?_
         refine dT 3 rfl (p_eqB Tryz.underlying4 rfl rfl) ?_
         refine dT 4 rfl pM ?_
         refine dH 5 rfl (fun _ => pM) (fun g32 => ?_) (fun g32 => ?_)
         ·
          have g32' := g32
          try simp only [decide_eq_true_eq, decide_eq_false_iff_not, Bool.not_eq_true', Bool.not_eq_false', Bool.not_false, Bool.not_true] at g32'
          refine dH 6 rfl (fun _ => pM) (fun _ => ?_) (nc g32)
          refine dH 7 rfl (fun _ => pB) (fun _ => ?_) (nc g32)
          refine dH 8 rfl (fun _ => p_eqB Tryz.underlying4 rfl rfl) (fun _ => ?_) (nc g32)
          refine dT 9 rfl (p_pickT rfl g32 rfl) ?_
          refine dT 10 rfl pM ?_
          refine dH 11 rfl (fun _ => pC 2) (fun g33 => ?_) (fun g33 => ?_)
          ·
           have g33' := g33
           try simp only [decide_eq_true_eq, decide_eq_false_iff_not, Bool.not_eq_true', Bool.not_eq_false', Bool.not_false, Bool.not_true] at g33'
           refine dH 12 rfl (fun _ => pC 2) (fun _ => ?_) (nc g33)
           refine dH 13 rfl (fun _ => pM) (fun _ => ?_) (nc g33)
           refine dH 15 rfl (fun _ => pC 2) (fun _ => ?_) (nc g33)
           refine dH 16 rfl (fun _ => pC 2) (fun _ => ?_) (nc g33)
           refine dH 17 rfl (fun _ => pM) (fun _ => ?_) (nc g33)
           refine d_onlyG 14 rfl rfl (by kernel_rfl) rfl rfl rfl (fun _ => (o_call 5 5 false (Go.Proofs.enters_of Tryz.func37 (by kernel_rfl) rfl) (c_impl_IsSolution ((rs22)) ((fs23)) ((rs224)) ((fs225)) ((ds26)) (by omega) (by omega) (by omega) (by omega) (by omega) (by omega) (by omega) (by omega)) rfl (.cons rfl (.agg (.cons .t0 (.cons .t0 .nil))) (.cons rfl (.agg (.cons .t0 (.cons .t0 .nil))) (.cons rfl (.c .t0) .nil))) rfl rfl rfl)) (fun _ => ?_) (nc g33)
           refine d_onlyG 18 rfl rfl (by kernel_rfl) rfl rfl rfl (fun _ => (o_call 5 5 false (Go.Proofs.enters_of Tryz.func38 (by kernel_rfl) rfl) (c_spec_IsSolution ((rs22)) ((fs23)) ((rs224)) ((fs225)) ((ds26)) (by omega) (by omega) (by omega) (by omega) (by omega) (by omega) (by omega) (by omega)) rfl (.cons rfl (.agg (.cons .t0 (.cons .t0 .nil))) (.cons rfl (.agg (.cons .t0 (.cons .t0 .nil))) (.cons rfl (.c .t0) .nil))) rfl rfl rfl)) (fun _ => ?_) (nc g33)
           refine dH 19 rfl (fun _ => p_eqB Tryz.underlying4 rfl rfl) (fun _ => ?_) (nc g33)
           refine dT 20 rfl (p_pickT rfl g33 rfl) ?_
           refine dT 21 rfl pA ?_
           refine d_end (by kernel_rfl) ?_
           refine t_ret Tryz.func5 (.tmp rfl .nil) rfl fun E S w u hI hd => ?_
           refine post_mk hI hd ?_ trivial rfl rfl rfl <;> clear hI hd <;> (try clear ih0)
           all_goals ((refine scB ?_; (try (have na := NA m (by omega))); clear hod SA xs3 hx2 hx4 dd; grind))
          ·
           have g33' := g33
           try simp only [decide_eq_true_eq, decide_eq_false_iff_not, Bool.not_eq_true', Bool.not_eq_false', Bool.not_false, Bool.not_true] at g33'
           refine dG 12 (ncf g33) (fun _ => ?_)
           refine dG 13 (ncf g33) (fun _ => ?_)
           refine dG 14 (ncf g33) (fun _ => ?_)
           refine dG 15 (ncf g33) (fun _ => ?_)
           refine dG 16 (ncf g33) (fun _ => ?_)
           refine dG 17 (ncf g33) (fun _ => ?_)
           refine dG 18 (ncf g33) (fun _ => ?_)
           refine dG 19 (ncf g33) (fun _ => ?_)
           refine dT 20 rfl (p_pickF rfl g33 rfl) ?_
           refine dT 21 rfl pA ?_
           refine d_end (by kernel_rfl) ?_
           refine t_ret Tryz.func5 (.tmp rfl .nil) rfl fun E S w u hI hd => ?_
           refine post_mk hI hd ?_ trivial rfl rfl rfl <;> clear hI hd <;> (try clear ih0)
           all_goals ((exfalso; clear hod SA xs3 hx2 hx4 dd; grind))
         ·
          have g32' := g32
          try simp only [decide_eq_true_eq, decide_eq_false_iff_not, Bool.not_eq_true', Bool.not_eq_false', Bool.not_false, Bool.not_true] at g32'
          refine dG 6 (ncf g32) (fun _ => ?_)
          refine dG 7 (ncf g32) (fun _ => ?_)
          refine dG 8 (ncf g32) (fun _ => ?_)
          refine dT 9 rfl (p_pickF rfl g32 rfl) ?_
          refine dT 10 rfl pM ?_
          refine dG 11 (ncf rfl) (fun _ => ?_)
          refine dG 12 (ncf rfl) (fun _ => ?_)
          refine dG 13 (ncf rfl) (fun _ => ?_)
          refine dG 14 (ncf rfl) (fun _ => ?_)
          refine dG 15 (ncf rfl) (fun _ => ?_)
          refine dG 16 (ncf rfl) (fun _ => ?_)
          refine dG 17 (ncf rfl) (fun _ => ?_)
          refine dG 18 (ncf rfl) (fun _ => ?_)
          refine dG 19 (ncf rfl) (fun _ => ?_)
          refine dT 20 rfl (p_pickF rfl rfl rfl) ?_
          refine dT 21 rfl pA ?_
          refine d_end (by kernel_rfl) ?_
          refine t_ret Tryz.func5 (.tmp rfl .nil) rfl fun E S w u hI hd => ?_
          refine post_mk hI hd ?_ trivial rfl rfl rfl <;> clear hI hd <;> (try clear ih0)
          all_goals ((exfalso; clear hod SA xs3 hx2 hx4 dd; grind))
      ·
       have g15' := (bnt g15)
       refine r_guard rfl rfl rfl (nc g15) (fun _ => ?_)
       refine r_guard rfl rfl rfl (nc g15) (fun _ => ?_)
       refine r_guard rfl rfl rfl (nc g15) (fun _ => ?_)
       refine r_guard rfl rfl rfl (nc g15) (fun _ => ?_)
       refine r_op (o_pickT rfl rfl g15 rfl) ?_
       refine r_end ?_
       refine t_cond rfl (fun _ => ?_) (nc rfl)
       refine tsr ?_
       refine r_op oM ?_
       refine r_op (o_not rfl rfl) ?_
       refine r_op oM ?_
       refine r_guard rfl rfl rfl (fun g34 => ?_) (fun g34 => ?_)
       ·
        have g34' := (bnt g34)
        refine r_op oM ?_
        refine r_guard rfl rfl rfl (fun _ => ?_) (nc g34)
        refine r_op (o_not rfl rfl) ?_
        refine r_op (o_pickT rfl rfl g34 rfl) ?_
        refine r_op oA ?_
        refine r_end ?_
        refine t_ret Tryz.func5 (.tmp rfl .nil) rfl fun E S w u hI hd => ?_
        refine post_mk hI hd ?_ trivial rfl rfl rfl <;> clear hI hd <;> (try clear ih0)
        all_goals ((refine scB ?_; (try (have na := NA m (by omega))); clear hod SA xs3 hx2 hx4 dd; grind))
       ·
        have g34' := (bnf g34)
        refine r_guard rfl rfl rfl (ncf g34) (fun _ => ?_)
        refine r_op (o_pickF rfl rfl g34 rfl) ?_
        refine r_op oA ?_
        refine r_end ?_
        refine t_ret Tryz.func5 (.tmp rfl .nil) rfl fun E S w u hI hd => ?_
        refine post_mk hI hd ?_ trivial rfl rfl rfl <;> clear hI hd <;> (try clear ih0)
        all_goals ((exfalso; clear hod SA xs3 hx2 hx4 dd; grind))
    ·
     have g13' := g13
     refine r_guard rfl rfl rfl (nc g13) (fun _ => ?_)
     refine r_guard rfl rfl rfl (nc g13) (fun _ => ?_)
     refine r_guard rfl rfl rfl (nc g13) (fun _ => ?_)
     refine r_guard rfl rfl rfl (nc g13) (fun _ => ?_)
     refine r_op (o_pickT rfl rfl g13 rfl) ?_
     refine r_end ?_
     refine t_cond rfl (fun _ => ?_) (nc rfl)
     refine tsr ?_
     refine r_op oA ?_
     refine r_end ?_
     refine t_ret Tryz.func5 (.tmp rfl .nil) rfl fun E S w u hI hd => ?_
     refine post_mk hI hd ?_ trivial rfl rfl rfl <;> clear hI hd <;> (try clear ih0)
     all_goals ((exfalso; clear hod SA xs3 hx2 hx4 dd; grind))
   ·
    have g12' := of_decide_eq_false (bnt g12)
    refine r_guard rfl rfl rfl (nc g12) (fun _ => ?_)
    refine r_guard rfl rfl rfl (nc g12) (fun _ => ?_)
    refine r_op (o_pickT rfl rfl g12 rfl) ?_
    refine r_op oM ?_
    refine r_guard rfl rfl rfl (nc rfl) (fun _ => ?_)
    refine r_guard rfl rfl rfl (nc rfl) (fun _ => ?_)
    refine r_guard rfl rfl rfl (nc rfl) (fun _ => ?_)
    refine r_guard rfl rfl rfl (nc rfl) (fun _ => ?_)
    refine r_guard rfl rfl rfl (nc rfl) (fun _ => ?_)
    refine r_op (o_pickT rfl rfl rfl rfl) ?_
    refine r_end ?_
    refine t_cond rfl (fun _ => ?_) (nc rfl)
    refine tsr ?_
    refine r_op oA ?_
    refine r_end ?_
    refine t_ret Tryz.func5 (.tmp rfl .nil) rfl fun E S w u hI hd => ?_
    refine post_mk hI hd ?_ trivial rfl rfl rfl <;> clear hI hd <;> (try clear ih0)
    all_goals ((exfalso; clear hod SA xs3 hx2 hx4 dd; grind))
  ·
   have g11' := of_decide_eq_true g11
   refine r_guard rfl rfl rfl (nc g11) (fun _ => ?_)
   refine r_guard rfl rfl rfl (nc g11) (fun _ => ?_)
   refine r_guard rfl rfl rfl (nc g11) (fun _ => ?_)
   refine r_op (o_pickT rfl rfl g11 rfl) ?_
   refine r_op oM ?_
   refine r_guard rfl rfl rfl (nc rfl) (fun _ => ?_)
   refine r_guard rfl rfl rfl (nc rfl) (fun _ => ?_)
   refine r_guard rfl rfl rfl (nc rfl) (fun _ => ?_)
   refine r_op (o_pickT rfl rfl rfl rfl) ?_
   refine r_op oM ?_
   refine r_guard rfl rfl rfl (nc rfl) (fun _ => ?_)
   refine r_guard rfl rfl rfl (nc rfl) (fun _ => ?_)
   refine r_guard rfl rfl rfl (nc rfl) (fun _ => ?_)
   refine r_guard rfl rfl rfl (nc rfl) (fun _ => ?_)
   refine r_guard rfl rfl rfl (nc rfl) (fun _ => ?_)
   refine r_op (o_pickT rfl rfl rfl rfl) ?_
   refine r_end ?_
   refine t_cond rfl (fun _ => ?_) (nc rfl)
   refine tsr ?_
   refine r_op oA ?_
   refine r_end ?_
   refine t_ret Tryz.func5 (.tmp rfl .nil) rfl fun E S w u hI hd => ?_
   refine post_mk hI hd ?_ trivial rfl rfl rfl <;> clear hI hd <;> (try clear ih0)
   all_goals ((exfalso; clear hod SA xs3 hx2 hx4 dd; grind))
end Go.Eng
