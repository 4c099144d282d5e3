/- What the functions that FnRestrict reaches answer. -/
import Derived.Test.YtjjoopbebildfaaFnsFnRestrictp0
import Derived.Test.YtjjoopbebildfaaEngZQ
import Derived.Test.YtjjoopbebildfaaChecked
set_option linter.unusedVariables false
set_option linter.unusedSimpArgs false
namespace Go.Eng
open Go Go.RowKit Go.Proofs
set_option maxHeartbeats 1000000 in
set_option maxRecDepth 10000 in
theorem c_impl_instanceCopy (rs : Rels) (fs : Atoms) (hrs : rs.length ≤ 1048576) (hfs : szS (fun (x : Int × (List (Int))) => (x.2).length) fs ≤ 1048576) : Pu Try.prog 19 [.agg [.t none (.sl 3 (enS3 encS encI encB) (rs)), .t none (.sl 2 (enS2 encI (enSl 1 encI)) (fs))]] [(2, some (.row none 45 true 3 (enS3 encS encI encB) (rs))), (3, some (.row none 43 true 2 (enS2 encI (enSl 1 encI)) (fs)))] 4 (.agg [.own 2, .own 3]) := by
 refine pu_enter Try.func19 rfl (Nat.le_of_ble_eq_true rfl) fun w S => ?_
 refine tsr ?_
 refine r_op (o_box 0 rfl rfl rfl rfl) ?_
 refine r_op (o_alloc 1 (zs := [.slice none 0 0, .slice none 0 0]) rfl rfl (by kernel_rfl) rfl) ?_
 refine r_end ?_
 refine t_seq ?_
 refine t_draw (fun i => !(Nat.beq i 7)) (by kernel_rfl) ?_
 refine dT 0 rfl (pF 0) ?_
 refine dT 1 rfl pL ?_
 refine dT 3 rfl (pF 1) ?_
 refine dT 4 rfl pL ?_
 refine dO 2 rfl (o_call 2 3 false (Go.Proofs.enters_of Try.func44 (by kernel_rfl) rfl) (c_slices_Clone___impl_Relation_impl_Relation_ (rs) (by omega)) rfl (.cons rfl (.c .t0) .nil) rfl rfl rfl) ?_
 refine dO 5 rfl (o_call 3 4 false (Go.Proofs.enters_of Try.func45 (by kernel_rfl) rfl) (c_impl_factsCopy (fs) (by omega)) rfl (.cons rfl (.c .t0) .nil) rfl rfl rfl) ?_
 refine dT 6 rfl (p_build (pl := [(0, 1), (1, 1)]) (zs := [.slice none 0 0, .slice none 0 0]) (by kernel_rfl) (by kernel_rfl) rfl rfl rfl) ?_
 refine dO 7 rfl (oS 2) ?_
 refine d_end (by kernel_rfl) ?_
 refine t_ret Try.func19 (.cells (n := 2) (by kernel_rfl) (by kernel_rfl) rfl rfl rfl .nil) rfl fun E S w u hI hd => ?_
 refine post_mk hI hd ?_ ⟨eqR ?_, ⟨eqR ?_, trivial⟩⟩ rfl rfl rfl <;> clear hI hd
 all_goals (rfl)
set_option maxHeartbeats 1000000 in
set_option maxRecDepth 10000 in
theorem c_impl_Restrict_1 (r : Int) (ts : List Int) (rs : Rels) (t : Bool) (hr : 0 ≤ r ∧ r < rs.length) : Pu Try.prog 21 [.agg [.t none (.v (.int .i64 (r))), .t none (.sl 1 encI (ts))], .c (.pel none ((enSl 3 (enS3 encS encI encB)) (rs)) 1), .c (.pel none (encB (t)) 1)] [] 0 (.c (.t none (.v (.bool (!(keepF rs t (r, ts))))))) := by
 refine pu_enter Try.func21 rfl (Nat.le_of_ble_eq_true rfl) fun w S => ?_
 refine tsr ?_
 refine r_op (o_box 0 rfl rfl rfl rfl) ?_
 refine r_op oA ?_
 refine r_end ?_
 refine t_seq ?_
 refine t_draw (fun _ => true) (by kernel_rfl) ?_
 refine dT 0 rfl (p_field (off := 0) (by kernel_rfl) rfl) ?_
 refine dT 1 rfl (p_load1 (by kernel_rfl) rfl rfl) ?_
 refine dT 2 rfl (pF 0) ?_
 refine dT 3 rfl pL ?_
 obtain ⟨z1, hz2, b3⟩ := at_get (xs := rs) (n := r) (by omega) (by omega)
 refine dT 4 rfl (p_index (by kernel_rfl) rfl rfl b3 hz2) ?_
 refine dT 5 rfl (p_field (off := 2) (by kernel_rfl) rfl) ?_
 refine dT 6 rfl (p_load1 (by kernel_rfl) rfl rfl) ?_
 refine dT 7 rfl (p_load1 (by kernel_rfl) rfl rfl) ?_
 refine dT 8 rfl (p_neB Try.underlying4 rfl rfl) ?_
 refine dT 9 rfl pA ?_
 refine d_end (by kernel_rfl) ?_
 refine t_ret Try.func21 (.tmp rfl .nil) rfl fun E S w u hI hd => ?_
 refine post_mk hI hd ?_ trivial rfl rfl rfl <;> clear hI hd
 all_goals (refine scB ?_; unfold keepF; rw [srcA_at (by assumption)]; grind)
set_option maxHeartbeats 1000000 in
set_option maxRecDepth 10000 in
theorem c_slices_IndexFunc___impl_Fact_impl_Fact_ (l : List (Int × (List (Int)))) (f : Nat) (cs : List ((Nat → T) × Nat)) (p : Int × (List (Int)) → Bool) (hl : l.length ≤ 9223372036854775807) (hf : ∀ x ∈ l, Fu Try.prog f ([.agg [.t none (.v (.int .i64 (x.1))), .t none (.sl 1 encI (x.2))]] ++ pels cs) (.c (.t none (.v (.bool (p x)))))) : Pu Try.prog 46 [.c (.t none (.sl 2 (enS2 encI (enSl 1 encI)) (l))), .c (.fv f cs)] [] 0 (.c (.t none (.v (.int .i64 (idxI p l))))) := by
 refine pu_enter Try.func46 rfl (Nat.le_of_ble_eq_true rfl) fun w S => ?_
 refine tsr ?_
 refine r_op oA ?_
 refine r_end ?_
 refine t_seq ?_
 refine tsr ?_
 refine r_op oM ?_
 refine r_op (o_len rfl rfl rfl) ?_
 refine r_op oM ?_
 refine r_end ?_
 refine t_block ?_
 refine t_loopL (fun m => ⟨[(0, some (.c (.t none (.sl 2 (enS2 encI (enSl 1 encI)) (l))))), (1, some (.c (.fv f cs))), (7, some (.c (.t none (.v (.int .i64 (((l).length : Int))))))), (8, some (.c (.t none (.v (.int .i64 ((m : Int)))))))], [], 0⟩ : Nat → St) (fun m => m ≤ l.length ∧ ∀ j z, j < m → l[j]? = some z → p z = false) (fun m => l.length - m) 0 ⟨⟨rfl, ⟨rfl, ⟨rfl, ⟨rfl, trivial⟩⟩⟩⟩, trivial, rfl⟩ (by exact ⟨Nat.zero_le _, fun j z h => by omega⟩) ?_
 rintro m hI ih0
 try dsimp only at hI ih0
 obtain ⟨i1, i2⟩ := hI
 refine tsr ?_
 refine r_op oB ?_
 refine r_end ?_
 refine t_seq ?_
 refine t_cond rfl (fun h1 => ?_) (fun h1 => ?_)
 ·
  have h1' := of_decide_eq_true h1
  refine t_skip ?_
  refine t_seq ?_
  refine t_block ?_
  refine tsr ?_
  refine r_op oM ?_
  refine r_op oA ?_
  refine etr ?_
  refine r_op oM ?_
  refine r_op oM ?_
  refine r_op oM ?_
  obtain ⟨z2, hz3, b4⟩ := at_get (xs := l) (n := (m : Int)) (by omega) (by omega)
  refine r_op (o_index rfl (by kernel_rfl) rfl rfl b4 hz3) ?_
  refine r_op (o_loadA rfl (n := 2) (by kernel_rfl) (by kernel_rfl) rfl rfl) ?_
  refine r_op (o_callv 0 0 false (hf z2 (List.mem_of_getElem? (by assumption))).1 (hf z2 (List.mem_of_getElem? (by assumption))).2 rfl rfl (.c .fv) (.cons rfl (.agg (.cons .t0 (.cons .t0 .nil))) .nil) rfl rfl rfl) ?_
  refine r_end ?_
  refine t_cond rfl (fun h5 => ?_) (fun h5 => ?_)
  ·
   have h5' := h5
   refine tsr ?_
   refine r_op oM ?_
   refine r_op oA ?_
   refine r_end ?_
   refine t_ret Try.func46 (.tmp rfl .nil) rfl fun E S w u hI hd => ?_
   refine post_mk hI hd ?_ trivial rfl rfl rfl <;> clear hI hd <;> (try clear ih0)
   all_goals (rw [idx_hit i2 (by assumption) (by assumption)])
  ·
   have h5' := h5
   refine t_skip ?_
   refine t_endblock ?_
   refine t_region ?_
   refine r_op oB ?_
   refine r_op oM ?_
   refine r_end ?_
   refine t_le ?_ (ih0 (m + 1) (by (try dsimp only); omega) (by (try dsimp only); exact ⟨by omega, no_step i2 (by assumption) rfl (by assumption)⟩))
   exact ⟨⟨rfl, ⟨rfl, ⟨rfl, ⟨(eqI (wr64 (by omega) (by omega))), trivial⟩⟩⟩⟩, trivial, rfl⟩
 ·
  have h1' := of_decide_eq_false h1
  refine t_exit rfl ?_
  refine tsr ?_
  refine r_op oA ?_
  refine r_end ?_
  refine t_ret Try.func46 (.tmp rfl .nil) rfl fun E S w u hI hd => ?_
  refine post_mk hI hd ?_ trivial rfl rfl rfl <;> clear hI hd <;> (try clear ih0)
  all_goals (rw [idx_none i2 (by omega)])
set_option maxHeartbeats 1000000 in
set_option maxRecDepth 10000 in
theorem c_slices_DeleteFunc___impl_Fact_impl_Fact_ (U : Nat → Value) (e0 : Nat) (l : Atoms) (rs : Rels) (t : Bool) (hl : l.length ≤ 1048576) (hr : ∀ f ∈ l, 0 ≤ f.1 ∧ f.1 < rs.length) : Mu Try.prog 20 [.c (.own 0), .c (.clo 21 [(1, 0), (2, 0)])] [(0, some (.row (some (U 0)) e0 false 2 (enS2 encI (enSl 1 encI)) (l))), (1, some (.pbox (U 1) [.t none (.sl 3 (enS3 encS encI encB) (rs)), .top])), (2, some (.pbox (U 2) [.t none (.v (.bool (t)))]))] 3 [(0, some (.row none e0 false 2 (enS2 encI (enSl 1 encI)) (l.filter (keepF rs t)))), (1, some (.pbox (U 1) [.t none (.sl 3 (enS3 encS encI encB) (rs)), .top])), (2, some (.pbox (U 2) [.t none (.v (.bool (t)))]))] 3 (.c (.own 0)) := by
 refine mu_enter Try.func20 rfl (Nat.le_of_ble_eq_true rfl) fun w S M => ?_
 refine tsr ?_
 refine r_op oA ?_
 refine etr ?_
 refine r_op oM ?_
 refine r_op oM ?_
 refine r_op (o_call 3 3 false (Go.Proofs.enters_of Try.func46 (by kernel_rfl) rfl) (c_slices_IndexFunc___impl_Fact_impl_Fact_ (l) (21) ([((enSl 3 (enS3 encS encI encB)) (rs), 1), (encB (t), 1)]) (fun (x0 : Int × (List (Int))) => !(keepF (rs) (t) ((x0.1), (x0.2)))) (by omega) (fun x0 mx0 => ⟨Go.Proofs.enters_of Try.func21 (by kernel_rfl) rfl, c_impl_Restrict_1 (x0.1) (x0.2) (rs) (t) (by exact hr _ (by assumption))⟩)) rfl (.cons rfl (.c (.own rfl)) (.cons rfl (.c (.clo (.pcons rfl rfl rfl (.cons .t .nil) (.pcons rfl rfl rfl (.cons .t .nil) .nil)))) .nil)) rfl rfl rfl) ?_
 refine r_op oA ?_
 refine r_end ?_
 refine t_seq ?_
 refine tsr ?_
 refine r_op oM ?_
 refine r_op oB ?_
 refine r_end ?_
 refine t_cond rfl (fun h1 => ?_) (fun h1 => ?_)
 ·
  have h1' := of_decide_eq_true h1
  refine tsr ?_
  refine r_op oM ?_
  refine r_op oA ?_
  refine r_end ?_
  refine gt_unpin 0 rfl ?_
  refine t_ret Try.func20 (.tmp rfl .nil) rfl fun E S w u hI hd => ?_
  refine postM_mk hI hd ?_ ⟨eqR ?_, ⟨rfl, ⟨rfl, trivial⟩⟩⟩ rfl rfl <;> clear hI hd <;> (try clear ih0)
  all_goals first | rfl | (exact (dl_none (by assumption)).symm)
 ·
  have h1' := of_decide_eq_false h1
  refine t_skip ?_
  refine t_seq ?_
  refine tsr ?_
  refine r_op oM ?_
  refine r_op oB ?_
  refine r_op oA ?_
  refine r_end ?_
  refine t_block ?_
  obtain ⟨m0, mi, ml, mk⟩ := dl_idx (K := keepF rs t) (l := l) (by assumption)
  refine t_loopL (fun (k, j, q) => ⟨[(0, some (.c (.own 0))), (1, some (.c (.clo 21 [(1, 0), (2, 0)]))), (4, some (.c (.t none (.v (.slice none 0 0))))), (5, some (.c (.t none (.v (.int .i64 ((k : Int))))))), (6, some (.c (.t none (.v (.int .i64 ((j : Int)))))))], [(0, some (.row (some (U 0)) e0 false 2 (enS2 encI (enSl 1 encI)) (q))), (1, some (.pbox (U 1) [.t none (.sl 3 (enS3 encS encI encB) (rs)), .top])), (2, some (.pbox (U 2) [.t none (.v (.bool (t)))]))], 3⟩ : Nat × Nat × Atoms → St) (fun (k, j, q) => dlK (keepF rs t) l q k j) (fun (k, j, q) => l.length - j) (m0, m0 + 1, l) ⟨⟨rfl, ⟨rfl, ⟨rfl, ⟨(eqI mi), ⟨(eqI ((congrArg (fun z => IntKind.i64.wrap (z + 1)) mi).trans (wr64 (by omega) (by omega)))), trivial⟩⟩⟩⟩⟩, ⟨rfl, ⟨rfl, ⟨rfl, trivial⟩⟩⟩, rfl⟩ (by exact mk) ?_
  rintro ⟨k, j, q⟩ hI ih0
  try dsimp only at hI ih0
  have j1 := hI; have j2 := j1.1; have j3 := j1.2.1; have j4 := j1.2.2.1
  refine t_seq ?_
  refine tsr ?_
  refine r_op oM ?_
  refine r_op oM ?_
  refine r_op (o_leno rfl rfl rfl rfl) ?_
  refine r_op oB ?_
  refine r_end ?_
  refine t_cond rfl (fun h2 => ?_) (fun h2 => ?_)
  ·
   have h2' := of_decide_eq_true h2
   refine t_skip ?_
   refine t_seq ?_
   refine t_block ?_
   refine tsr ?_
   refine r_op oM ?_
   refine r_op oM ?_
   obtain ⟨z3, hz4, b5⟩ := at_get (xs := q) (n := (j : Int)) (by omega) (by omega)
   refine r_op (o_indexo rfl (by kernel_rfl) rfl rfl rfl b5 (at_lt b5 hz4)) ?_
   refine r_op (o_loadAo rfl (by kernel_rfl) (by kernel_rfl) rfl rfl hz4) ?_
   refine r_op (o_alloc 3 (zs := [.int .i64 (0), .slice none 0 0]) rfl rfl (by kernel_rfl) rfl) ?_
   refine r_op (oS 2) ?_
   refine etr ?_
   refine r_op oM ?_
   refine r_op (oC 2) ?_
   refine r_op (o_callv (cargs := [.agg [.t none (.v (.int .i64 ((z3.1)))), .t none (.sl 1 encI ((z3.2)))]]) (cs := [((enSl 3 (enS3 encS encI encB)) (rs), 1), (encB (t), 1)]) 4 4 false (Go.Proofs.enters_of Try.func21 (by kernel_rfl) rfl) (c_impl_Restrict_1 (z3.1) (z3.2) (rs) (t) (by (have e7 := dl_at j1 (by assumption); exact hr _ (List.mem_of_getElem? e7)))) rfl rfl (.c (.clo (.pcons rfl rfl rfl (.cons .t .nil) (.pcons rfl rfl rfl (.cons .t .nil) .nil)))) (.cons rfl (.agg (.cons .t0 (.cons .t0 .nil))) .nil) rfl rfl rfl) ?_
   refine r_op (o_not rfl rfl) ?_
   refine r_end ?_
   refine t_cond rfl (fun h6 => ?_) (fun h6 => ?_)
   ·
    have h6' := (bnf (bnt h6))
    refine tsr ?_
    refine r_op oM ?_
    refine r_op oM ?_
    refine r_op (oC 2) ?_
    obtain ⟨z7, hz8, b9⟩ := at_get (xs := q) (n := (k : Int)) (by omega) (by omega)
    refine r_op (o_indexo rfl (by kernel_rfl) rfl rfl rfl b9 (at_lt b9 hz8)) ?_
    refine r_op (o_storeo (z3) (n := 2) (by kernel_rfl) rfl rfl hz8 rfl rfl rfl rfl (.cons .sc (.cons .sh .nil)) rfl (fun j h1 h2 => by (exact h2.elim (fun h => by omega) (fun h => absurd (show 2 ≤ j from h) (by omega))))) ?_
    refine rtr ?_
    refine r_op oM ?_
    refine r_op oB ?_
    refine r_op oA ?_
    refine r_end ?_
    refine t_endblock ?_
    refine t_region ?_
    refine r_op oM ?_
    refine r_op oB ?_
    refine r_op oA ?_
    refine r_end ?_
    refine t_le ?_ (ih0 (k + 1, j + 1, (q).set ((k : Int)).toNat (z3)) (by (try dsimp only); omega) (by (try dsimp only); exact dl_keep j1 hz4 (by simpa using (by assumption))))
    exact ⟨⟨rfl, ⟨rfl, ⟨rfl, ⟨(eqI (wr64 (by omega) (by omega))), ⟨(eqI (wr64 (by omega) (by omega))), trivial⟩⟩⟩⟩⟩, ⟨rfl, ⟨rfl, ⟨rfl, trivial⟩⟩⟩, rfl⟩
   ·
    have h6' := (bnt (bnf h6))
    refine t_skip ?_
    refine t_endblock ?_
    refine t_region ?_
    refine r_op oM ?_
    refine r_op oB ?_
    refine r_op oA ?_
    refine r_end ?_
    refine t_le ?_ (ih0 (k, j + 1, q) (by (try dsimp only); omega) (by (try dsimp only); exact dl_skip j1 hz4 (by simpa using (by assumption))))
    exact ⟨⟨rfl, ⟨rfl, ⟨rfl, ⟨rfl, ⟨(eqI (wr64 (by omega) (by omega))), trivial⟩⟩⟩⟩⟩, ⟨rfl, ⟨rfl, ⟨rfl, trivial⟩⟩⟩, rfl⟩
  ·
   have h2' := of_decide_eq_false h2
   refine t_exit rfl ?_
   refine tsr ?_
   refine r_op oM ?_
   refine r_op oM ?_
   refine r_op (o_subvl rfl (by kernel_rfl) rfl rfl rfl (by omega) (by omega)) ?_
   refine r_op (o_clearF ((0, [])) rfl rfl Try.underlying25 (by kernel_rfl) rfl rfl (.cons (.v rfl) (.cons .sl .nil)) (by omega) (by omega)) ?_
   refine etr ?_
   refine r_op oM ?_
   refine r_op oM ?_
   refine r_op (o_subvh rfl (by kernel_rfl) rfl rfl rfl (by omega) (by (simp only [List.length_append, List.length_take, List.length_replicate, List.length_drop]; omega)) (by (simp only [List.length_append, List.length_take, List.length_replicate, List.length_drop]; omega))) ?_
   refine r_op oA ?_
   refine r_end ?_
   refine gt_shrinkF 4 0 rfl rfl (by (simp only [List.length_append, List.length_take, List.length_replicate, List.length_drop]; omega)) (by (simp only [List.length_append, List.length_take, List.length_replicate, List.length_drop]; omega)) ?_
   refine t_ret Try.func20 (.tmp rfl .nil) rfl fun E S w u hI hd => ?_
   refine postM_mk hI hd ?_ ⟨eqR ?_, ⟨rfl, ⟨rfl, trivial⟩⟩⟩ rfl rfl <;> clear hI hd <;> (try clear ih0)
   all_goals first | rfl | ((rw [List.append_assoc]; exact dl_end j1 (by omega) _))
set_option maxHeartbeats 1000000 in
set_option maxRecDepth 10000 in
theorem c_impl_Restrict (rs : Rels) (fs : Atoms) (t : Bool) (hrs : rs.length ≤ 1048576) (hfs : szS (fun (x : Int × (List (Int))) => (x.2).length) fs ≤ 1048576) (ho : ∀ z ∈ fs, ∀ x ∈ z.2, okI x) : Pu Try.prog 6 [.agg [.t none (.sl 3 (enS3 encS encI encB) (rs)), .t none (.sl 2 (enS2 encI (enSl 1 encI)) (fs))], .c (.t none (.v (.bool (t))))] [] 0 (.agg [.t none (.sl 3 (enS3 encS encI encB) (rstR rs fs)), .t none (.sl 2 (enS2 encI (enSl 1 encI)) (rstF rs fs t))]) := by
 refine pu_enter Try.func6 rfl (Nat.le_of_ble_eq_true rfl) fun w S => ?_
 have gl := sz_len (f := (fun (x : Int × (List (Int))) => (x.2).length)) (l := fs)
 refine tsr ?_
 refine r_op (o_box 0 rfl rfl rfl rfl) ?_
 refine r_op (o_box 1 rfl rfl rfl rfl) ?_
 refine r_op (o_alloc 2 (zs := [.slice none 0 0, .slice none 0 0]) rfl rfl (by kernel_rfl) rfl) ?_
 refine r_end ?_
 refine t_seq ?_
 refine tsr ?_
 refine r_op (oC 2) ?_
 refine r_op (o_call 3 3 false (Go.Proofs.enters_of Try.func18 (by kernel_rfl) rfl) (c_impl_IsValidInstance (rs) (fs) (by omega) (by omega) (by omega)) rfl (.cons rfl (.agg (.cons .t0 (.cons .t0 .nil))) .nil) rfl rfl rfl) ?_
 refine r_op (o_not rfl rfl) ?_
 refine r_end ?_
 refine t_cond rfl (fun h1 => ?_) (fun h1 => ?_)
 ·
  have h1' := (bnt h1)
  refine tsr ?_
  refine r_op (o_build rfl (pl := [(0, 1), (1, 1)]) (zs := [.slice none 0 0, .slice none 0 0]) (by kernel_rfl) (by kernel_rfl) rfl rfl rfl) ?_
  refine r_op (oS 2) ?_
  refine r_end ?_
  refine gt_nilb 3 (b := 2) (o := 0) (et := 45) (sz := 3) true (enS3 encS encI encB) rfl rfl rfl ?_
  refine gt_nilb 4 (b := 2) (o := 1) (et := 43) (sz := 2) true (enS2 encI (enSl 1 encI)) rfl rfl rfl ?_
  refine gt_freeze 3 rfl (frz_pu rfl) ?_
  refine gt_freeze 4 rfl (frz_pu rfl) ?_
  refine t_ret Try.func6 (.cells (n := 2) (by kernel_rfl) (by kernel_rfl) rfl rfl rfl .nil) rfl fun E S w u hI hd => ?_
  refine post_mk hI hd ?_ trivial rfl rfl rfl <;> clear hI hd
  all_goals (have e7 : instOk rs fs = false := (by assumption); have e8 := res_no (t := t) e7; rw [e8.1, e8.2]; rfl)
 ·
  have h1' := (bnf h1)
  refine t_skip ?_
  refine tsr ?_
  refine r_op (oC 2) ?_
  refine r_op (o_call 3 7 false (Go.Proofs.enters_of Try.func19 (by kernel_rfl) rfl) (c_impl_instanceCopy (rs) (fs) (by omega) (by omega)) rfl (.cons rfl (.agg (.cons .t0 (.cons .t0 .nil))) .nil) rfl rfl rfl) ?_
  refine r_op (o_alloc 7 (zs := [.slice none 0 0, .slice none 0 0]) rfl rfl (by kernel_rfl) rfl) ?_
  refine r_op (oS 2) ?_
  refine etr ?_
  refine r_op (oF 1) ?_
  refine r_op oL ?_
  refine r_op (o_makeFunc rfl (.cons rfl (.cons rfl .nil))) ?_
  refine r_freeze 5 rfl (frz_pu rfl) ?_
  refine r_half 6 rfl (frz_pu rfl) ?_
  refine r_op (o_callF 6 7 1 (((fs)).filter (keepF ((rs)) (t))) (Go.Proofs.enters_of Try.func20 (by kernel_rfl) rfl) (fun U => c_slices_DeleteFunc___impl_Fact_impl_Fact_ U 43 ((fs)) ((rs)) (t) (by omega) (by (intro f hf; exact fact_rel (by assumption) hf))) rfl rfl rfl rfl rfl rfl rfl rfl rfl) ?_
  refine r_op (oF 1) ?_
  refine r_op (oS 1) ?_
  refine etr ?_
  refine r_op (oC 2) ?_
  refine r_op (oS 2) ?_
  refine r_end ?_
  refine gt_freeze 6 rfl (frz_pu rfl) ?_
  refine t_ret Try.func6 (.cells (n := 2) (by kernel_rfl) (by kernel_rfl) rfl rfl rfl .nil) rfl fun E S w u hI hd => ?_
  refine post_mk hI hd ?_ trivial rfl rfl rfl <;> clear hI hd
  all_goals (have e7 : instOk rs fs = true := (by assumption); have e8 := res_yes (t := t) e7; rw [e8.1, e8.2]; rfl)
set_option maxHeartbeats 1000000 in
set_option maxRecDepth 10000 in
theorem c_impl_NullsOfInstance (rs : Rels) (l : Atoms) (hl : szS (fun (x : Int × (List (Int))) => (x.2).length) l ≤ 1048576) (ho : ∀ z ∈ l, ∀ x ∈ z.2, okI x) : Pu Try.prog 7 [.agg [.t none (.sl 3 (enS3 encS encI encB) (rs)), .t none (.sl 2 (enS2 encI (enSl 1 encI)) (l))]] [(2, some (.row none 3 true 1 encI (setI (nulV (flatT l)))))] 3 (.c (.own 2)) := by
 refine pu_enter Try.func7 rfl (Nat.le_of_ble_eq_true rfl) fun w S => ?_
 have gl := sz_len (f := (fun (x : Int × (List (Int))) => (x.2).length)) (l := l); have gv := flatT_size l
 refine tsr ?_
 refine r_op (o_box 0 rfl rfl rfl rfl) ?_
 refine r_op oA ?_
 refine etr ?_
 refine r_op (o_lit0 1 (e := 3) (sz := 1) (zs := [.int .i64 (0)]) encI rfl rfl (by kernel_rfl) rfl) ?_
 refine r_op oA ?_
 refine r_end ?_
 refine t_seq ?_
 refine tsr ?_
 refine r_op (oF 1) ?_
 refine r_op oL ?_
 refine r_op (o_len rfl rfl rfl) ?_
 refine r_op oM ?_
 refine r_end ?_
 refine t_block ?_
 refine t_loopL (fun m => ⟨[(2, some (.c (.t none (.v (.slice none 0 0))))), (3, some (.c (.own 1))), (8, some (.c (.t none (.sl 2 (enS2 encI (enSl 1 encI)) (l))))), (9, some (.c (.t none (.v (.int .i64 (((l).length : Int))))))), (10, some (.c (.t none (.v (.int .i64 ((m : Int)))))))], [(0, some (.box [.t none (.sl 3 (enS3 encS encI encB) (rs)), .t none (.sl 2 (enS2 encI (enSl 1 encI)) (l))])), (1, some (.row none 3 true 1 encI (flatT (l.take m))))], 2⟩ : Nat → St) (fun m => m ≤ l.length) (fun m => l.length - m) 0 ⟨⟨rfl, ⟨rfl, ⟨rfl, ⟨rfl, ⟨rfl, trivial⟩⟩⟩⟩⟩, ⟨rfl, ⟨rfl, trivial⟩⟩, rfl⟩ (by exact Nat.zero_le _) ?_
 rintro m hI ih0
 try dsimp only at hI ih0
 have i1 := hI
 refine tsr ?_
 refine r_op oB ?_
 refine r_end ?_
 refine t_seq ?_
 refine t_cond rfl (fun h1 => ?_) (fun h1 => ?_)
 ·
  have h1' := of_decide_eq_true h1
  refine t_skip ?_
  refine t_seq ?_
  refine t_block ?_
  refine tsr ?_
  obtain ⟨z2, hz3, b4⟩ := at_get (xs := l) (n := (m : Int)) (by omega) (by omega)
  refine r_op (o_index rfl (by kernel_rfl) rfl rfl b4 hz3) ?_
  refine r_op (o_loadA rfl (n := 2) (by kernel_rfl) (by kernel_rfl) rfl rfl) ?_
  refine r_op (o_alloc 2 (zs := [.int .i64 (0), .slice none 0 0]) rfl rfl (by kernel_rfl) rfl) ?_
  refine r_op (oS 2) ?_
  refine rtr ?_
  refine r_op oM ?_
  refine r_op (oF 1) ?_
  refine r_op oL ?_
  refine r_op (o_appendS 1 (e := 3) (sz := 1) (by' := 8) rfl (by kernel_rfl) rfl rfl rfl rfl (fun _ _ => ⟨_, rfl⟩) (by (have e1 := flatT_part (l := l) (m := m) (by assumption); omega)) (by (have e1 := flatT_part (l := l) (m := m) (by assumption); omega))) ?_
  refine r_op oA ?_
  refine r_end ?_
  refine t_endblock ?_
  refine t_region ?_
  refine r_op oB ?_
  refine r_op oM ?_
  refine r_end ?_
  refine t_le ?_ (ih0 (m + 1) (by (try dsimp only); omega) (by (try dsimp only); omega))
  exact ⟨⟨rfl, ⟨rfl, ⟨rfl, ⟨rfl, ⟨(eqI (wr64 (by omega) (by omega))), trivial⟩⟩⟩⟩⟩, ⟨rfl, ⟨(eqR (by rw [flatT_step (m := m) hz3])), trivial⟩⟩, rfl⟩
 ·
  have h1' := of_decide_eq_false h1
  refine t_exit rfl ?_
  refine tsr ?_
  refine r_op oM ?_
  refine r_op (o_call 2 3 false (Go.Proofs.enters_of Try.func22 (by kernel_rfl) rfl) (c_impl_nullsOf (flatT (l.take m)) (by (rw [flatT_end (by omega)]; (omega))) (by (rw [flatT_end (by omega)]; (exact flatT_ok ho)))) rfl (.cons rfl (.c (.own rfl)) .nil) rfl rfl rfl) ?_
  refine r_op oA ?_
  refine r_end ?_
  refine t_ret Try.func7 (.tmp rfl .nil) rfl fun E S w u hI hd => ?_
  refine post_mk hI hd ?_ ⟨eqR ?_, trivial⟩ rfl rfl rfl <;> clear hI hd <;> (try clear ih0)
  all_goals first | rfl | ((rw [flatT_end (by omega)]))
set_option maxHeartbeats 1000000 in
set_option maxRecDepth 10000 in
theorem c_spec_l1In (a0 a1 a2 : Int) : Pu Try.prog 51 [.c (.t none (.v (.int .i64 (a0)))), .c (.t none (.v (.int .i64 (a1)))), .c (.t none (.v (.int .i64 (a2))))] [] 0 (.c (.t none (.v (.bool (decide (a1 ≤ a0 ∧ a0 ≤ a2)))))) := by
 refine pu_enter Try.func51 rfl (Nat.le_of_ble_eq_true rfl) fun w S => ?_
 refine tsr ?_
 refine r_op oA ?_
 refine etr ?_
 refine r_op oM ?_
 refine r_op oM ?_
 refine r_op oB ?_
 refine r_op oM ?_
 refine r_guard rfl rfl rfl (fun g1 => ?_) (fun g1 => ?_)
 ·
  have g1' := of_decide_eq_true g1
  refine r_op oM ?_
  refine r_guard rfl rfl rfl (fun _ => ?_) (nc g1)
  refine r_op oM ?_
  refine r_guard rfl rfl rfl (fun _ => ?_) (nc g1)
  refine r_op oB ?_
  refine r_op (o_pickT rfl rfl g1 rfl) ?_
  refine r_op oA ?_
  refine r_end ?_
  refine t_ret Try.func51 (.tmp rfl .nil) rfl fun E S w u hI hd => ?_
  refine post_mk hI hd ?_ trivial rfl rfl rfl <;> clear hI hd
  all_goals (simp_all <;> omega)
 ·
  have g1' := of_decide_eq_false g1
  refine r_guard rfl rfl rfl (ncf g1) (fun _ => ?_)
  refine r_guard rfl rfl rfl (ncf g1) (fun _ => ?_)
  refine r_op (o_pickF rfl rfl g1 rfl) ?_
  refine r_op oA ?_
  refine r_end ?_
  refine t_ret Try.func51 (.tmp rfl .nil) rfl fun E S w u hI hd => ?_
  refine post_mk hI hd ?_ trivial rfl rfl rfl <;> clear hI hd
  all_goals (simp_all <;> omega)
set_option maxHeartbeats 1000000 in
set_option maxRecDepth 10000 in
theorem c_spec_NullNumber (v : Int) (hv : -9223372036854775808 ≤ v) (hv2 : v ≤ 9223372036854775807) : Pu Try.prog 50 [.c (.t none (.v (.int .i64 (v))))] [] 0 (.tup [(false, [.t none (.v (.int .i64 (if -40 ≤ v ∧ v ≤ -1 then -1 - v else 0)))]), (false, [.t none (.v (.bool (decide (-40 ≤ v ∧ v ≤ -1))))])]) := by
 refine pu_enter Try.func50 rfl (Nat.le_of_ble_eq_true rfl) fun w S => ?_
 refine tsr ?_
 refine r_op oA ?_
 refine r_op oA ?_
 refine r_end ?_
 refine t_seq ?_
 refine tsr ?_
 refine r_op oM ?_
 refine r_op oB ?_
 refine r_op oM ?_
 refine r_guard rfl rfl rfl (fun g1 => ?_) (fun g1 => ?_)
 ·
  have g1' := of_decide_eq_false g1
  refine r_op oM ?_
  refine r_guard rfl rfl rfl (fun _ => ?_) (ncf g1)
  refine r_op oB ?_
  refine r_guard rfl rfl rfl (fun _ => ?_) (ncf g1)
  refine r_op (o_call 0 0 false (Go.Proofs.enters_of Try.func51 (by kernel_rfl) rfl) (c_spec_l1In (IntKind.i64.wrap ((-1) - v)) (0) (39)) rfl (.cons rfl (.c .t0) (.cons rfl (.c .t0) (.cons rfl (.c .t0) .nil))) rfl rfl rfl) ?_
  refine r_guard rfl rfl rfl (fun _ => ?_) (ncf g1)
  refine r_op (o_not rfl rfl) ?_
  refine r_op (o_pickF rfl rfl g1 rfl) ?_
  refine r_end ?_
  refine t_cond rfl (fun h2 => ?_) (fun h2 => ?_)
  ·
   have h2' := of_decide_eq_false (bnt h2)
   refine tsr ?_
   refine r_op oA ?_
   refine r_op oA ?_
   refine r_end ?_
   refine t_ret Try.func50 (.tmp rfl (.tmp rfl .nil)) rfl fun E S w u hI hd => ?_
   refine post_mk hI hd ?_ trivial rfl rfl rfl <;> clear hI hd
   all_goals (((have hn : ¬(-40 ≤ v ∧ v ≤ -1) := by (simp only [IntKind.wrap_i64] at *; omega)); (simp [hn]; done)))
  ·
   have h2' := of_decide_eq_true (bnf h2)
   refine t_skip ?_
   refine tsr ?_
   refine r_op oM ?_
   refine r_op oB ?_
   refine r_op oA ?_
   refine r_op oA ?_
   refine r_end ?_
   refine t_ret Try.func50 (.tmp rfl (.tmp rfl .nil)) rfl fun E S w u hI hd => ?_
   refine post_mk hI hd ?_ trivial rfl rfl rfl <;> clear hI hd
   all_goals (((have hn : (-40 ≤ v ∧ v ≤ -1) := by (simp only [IntKind.wrap_i64] at *; omega)); (have e : IntKind.i64.wrap (-1 - v) = -1 - v := wr64 (by omega) (by omega)); (simp [hn, e]; done)))
 ·
  have g1' := of_decide_eq_true g1
  refine r_guard rfl rfl rfl (nc g1) (fun _ => ?_)
  refine r_guard rfl rfl rfl (nc g1) (fun _ => ?_)
  refine r_guard rfl rfl rfl (nc g1) (fun _ => ?_)
  refine r_op (o_pickT rfl rfl g1 rfl) ?_
  refine r_end ?_
  refine t_cond rfl (fun _ => ?_) (nc rfl)
  refine tsr ?_
  refine r_op oA ?_
  refine r_op oA ?_
  refine r_end ?_
  refine t_ret Try.func50 (.tmp rfl (.tmp rfl .nil)) rfl fun E S w u hI hd => ?_
  refine post_mk hI hd ?_ trivial rfl rfl rfl <;> clear hI hd
  all_goals (((have hn : ¬(-40 ≤ v ∧ v ≤ -1) := by (simp only [IntKind.wrap_i64] at *; omega)); (simp [hn]; done)))
set_option maxHeartbeats 1000000 in
set_option maxRecDepth 10000 in
theorem c_spec_l4Put (U : Nat → Value) (l : List Int) (x : Int) (hl : l.length ≤ 1099511627776) : Mu Try.prog 24 [.c (.own 0), .c (.t none (.v (.int .i64 (x))))] [(0, some (.row (some (U 0)) 3 true 1 encI (l)))] 1 [(0, some (.row none 3 true 1 encI (putI l x)))] 1 (.c (.own 0)) := by
 refine mu_enter Try.func24 rfl (Nat.le_of_ble_eq_true rfl) fun w S M => ?_
 refine tsr ?_
 refine r_op oA ?_
 refine etr ?_
 refine r_op oA ?_
 refine r_end ?_
 refine t_seq ?_
 refine t_block ?_
 refine t_loopL (fun m => ⟨[(0, some (.c (.own 0))), (1, some (.c (.t none (.v (.int .i64 (x)))))), (4, some (.c (.t none (.v (.slice none 0 0))))), (5, some (.c (.t none (.v (.int .i64 ((m : Int)))))))], [(0, some (.row (some (U 0)) 3 true 1 encI (l)))], 1⟩ : Nat → St) (fun m => m ≤ l.length ∧ ∀ j y, j < m → l[j]? = some y → y < x) (fun m => l.length - m) 0 ⟨⟨rfl, ⟨rfl, ⟨rfl, ⟨rfl, trivial⟩⟩⟩⟩, ⟨rfl, trivial⟩, rfl⟩ (by exact ⟨Nat.zero_le _, fun j z h => by omega⟩) ?_
 rintro m hI ih0
 try dsimp only at hI ih0
 obtain ⟨i1, i2⟩ := hI
 refine t_seq ?_
 refine tsr ?_
 refine r_op oM ?_
 refine r_op oM ?_
 refine r_op (o_leno rfl rfl rfl rfl) ?_
 refine r_op oB ?_
 refine r_op oM ?_
 refine r_guard rfl rfl rfl (fun g1 => ?_) (fun g1 => ?_)
 ·
  have g1' := of_decide_eq_true g1
  refine r_op oM ?_
  refine r_guard rfl rfl rfl (fun _ => ?_) (nc g1)
  refine r_op oM ?_
  refine r_guard rfl rfl rfl (fun _ => ?_) (nc g1)
  obtain ⟨z2, hz3, b4⟩ := at_get (xs := l) (n := (m : Int)) (by omega) (by omega)
  refine r_op (o_indexo rfl (by kernel_rfl) rfl rfl rfl b4 (at_lt b4 hz3)) ?_
  refine r_guard rfl rfl rfl (fun _ => ?_) (nc g1)
  refine r_op (o_load1o rfl (by kernel_rfl) rfl rfl rfl hz3) ?_
  refine r_guard rfl rfl rfl (fun _ => ?_) (nc g1)
  refine r_op oM ?_
  refine r_guard rfl rfl rfl (fun _ => ?_) (nc g1)
  refine r_op oB ?_
  refine r_op (o_pickT rfl rfl g1 rfl) ?_
  refine r_end ?_
  refine t_cond rfl (fun h5 => ?_) (fun h5 => ?_)
  ·
   have h5' := of_decide_eq_true h5
   refine t_skip ?_
   refine t_block ?_
   refine t_region ?_
   refine r_op oM ?_
   refine r_op oB ?_
   refine r_op oA ?_
   refine r_end ?_
   refine t_endblock ?_
   refine t_le ?_ (ih0 (m + 1) (by (try dsimp only); omega) (by (try dsimp only); exact ⟨by omega, lt_step i2 (by assumption) rfl (by omega)⟩))
   exact ⟨⟨rfl, ⟨rfl, ⟨rfl, ⟨(eqI (wr64 (by omega) (by omega))), trivial⟩⟩⟩⟩, ⟨rfl, trivial⟩, rfl⟩
  ·
   have h5' := of_decide_eq_false h5
   refine t_exit rfl ?_
   refine t_seq ?_
   refine tsr ?_
   refine r_op oM ?_
   refine r_op oM ?_
   refine r_op (o_leno rfl rfl rfl rfl) ?_
   refine r_op oB ?_
   refine r_op oM ?_
   refine r_guard rfl rfl rfl (fun g6 => ?_) (fun g6 => ?_)
   ·
    have g6' := of_decide_eq_true g6
    refine r_op oM ?_
    refine r_guard rfl rfl rfl (fun _ => ?_) (nc g6)
    refine r_op oM ?_
    refine r_guard rfl rfl rfl (fun _ => ?_) (nc g6)
    refine r_op (o_indexo rfl (by kernel_rfl) rfl rfl rfl b4 (at_lt b4 hz3)) ?_
    refine r_guard rfl rfl rfl (fun _ => ?_) (nc g6)
    refine r_op (o_load1o rfl (by kernel_rfl) rfl rfl rfl hz3) ?_
    refine r_guard rfl rfl rfl (fun _ => ?_) (nc g6)
    refine r_op oM ?_
    refine r_guard rfl rfl rfl (fun _ => ?_) (nc g6)
    refine r_op oB ?_
    refine r_op (o_pickT rfl rfl g6 rfl) ?_
    refine r_end ?_
    refine t_cond rfl (fun h7 => ?_) (fun h7 => ?_)
    ·
     have h7' := of_decide_eq_true h7
     refine tsr ?_
     refine r_op oM ?_
     refine r_op oA ?_
     refine r_end ?_
     refine gt_unpin 0 rfl ?_
     refine t_ret Try.func24 (.tmp rfl .nil) rfl fun E S w u hI hd => ?_
     refine postM_mk hI hd ?_ ⟨eqR ?_, trivial⟩ rfl rfl <;> clear hI hd <;> (try clear ih0)
     all_goals first | rfl | ((rw [putI_there i2 (by assumption) (by omega)]; done))
    ·
     have h7' := of_decide_eq_false h7
     refine t_skip ?_
     refine tsr ?_
     refine r_op oM ?_
     refine r_op (o_lit1 1 (e := 3) (sz := 1) (zs := [.int .i64 (0)]) (enc := encI) (x) rfl rfl (by kernel_rfl) rfl rfl rfl rfl rfl rfl (.cons .sc .nil)) ?_
     refine r_op oM ?_
     refine r_op oM ?_
     refine r_op (o_subo rfl (by kernel_rfl) rfl rfl (.l rfl (by omega) (by omega))) ?_
     refine r_op (o_appendS 1 (e := 3) (sz := 1) (by' := 8) rfl (by kernel_rfl) rfl rfl rfl rfl (fun _ _ => ⟨_, rfl⟩) (by (simp only [List.length_append, List.length_take, List.length_drop, List.length_cons, List.length_nil]; omega)) (by (simp only [List.length_append, List.length_take, List.length_drop, List.length_cons, List.length_nil]; omega))) ?_
     refine r_op oA ?_
     refine etr ?_
     refine r_op (o_lit0 2 (e := 3) (sz := 1) (zs := [.int .i64 (0)]) encI rfl rfl (by kernel_rfl) rfl) ?_
     refine r_op oM ?_
     refine r_op oM ?_
     refine r_op (o_subo rfl (by kernel_rfl) rfl rfl (.h rfl (by omega) (by omega))) ?_
     refine r_op (o_appendS 2 (e := 3) (sz := 1) (by' := 8) rfl (by kernel_rfl) rfl rfl rfl rfl (fun _ _ => ⟨_, rfl⟩) (by (simp only [List.length_append, List.length_take, List.length_drop, List.length_cons, List.length_nil]; omega)) (by (simp only [List.length_append, List.length_take, List.length_drop, List.length_cons, List.length_nil]; omega))) ?_
     refine r_op oM ?_
     refine r_op (o_appendO 2 (e := 3) (sz := 1) (by' := 8) rfl (by kernel_rfl) rfl rfl rfl rfl rfl (by decide) (fun _ _ => ⟨_, rfl⟩) (by (simp only [List.length_append, List.length_take, List.length_drop, List.length_cons, List.length_nil]; omega)) (by (simp only [List.length_append, List.length_take, List.length_drop, List.length_cons, List.length_nil]; omega))) ?_
     refine r_op oA ?_
     refine r_end ?_
     refine gt_as0 4 2 rfl rfl ?_
     refine t_ret Try.func24 (.tmp rfl .nil) rfl fun E S w u hI hd => ?_
     refine postM_mk hI hd ?_ ⟨eqR ?_, trivial⟩ rfl rfl <;> clear hI hd <;> (try clear ih0)
     all_goals first | rfl | ((rw [putI_new i2 i1 (fun y hy => by (have e7 := Option.some.inj (hy.symm.trans hz3); omega))]; simp))
   ·
    have g6' := of_decide_eq_false g6
    refine r_guard rfl rfl rfl (ncf g6) (fun _ => ?_)
    refine r_guard rfl rfl rfl (ncf g6) (fun _ => ?_)
    refine r_guard rfl rfl rfl (ncf g6) (fun _ => ?_)
    refine r_guard rfl rfl rfl (ncf g6) (fun _ => ?_)
    refine r_guard rfl rfl rfl (ncf g6) (fun _ => ?_)
    refine r_op (o_pickF rfl rfl g6 rfl) ?_
    refine r_end ?_
    refine t_cond rfl (ncf rfl) (fun _ => ?_)
    refine t_skip ?_
    refine tsr ?_
    refine r_op oM ?_
    refine r_op (o_lit1 1 (e := 3) (sz := 1) (zs := [.int .i64 (0)]) (enc := encI) (x) rfl rfl (by kernel_rfl) rfl rfl rfl rfl rfl rfl (.cons .sc .nil)) ?_
    refine r_op oM ?_
    refine r_op oM ?_
    refine r_op (o_subo rfl (by kernel_rfl) rfl rfl (.l rfl (by omega) (by omega))) ?_
    refine r_op (o_appendS 1 (e := 3) (sz := 1) (by' := 8) rfl (by kernel_rfl) rfl rfl rfl rfl (fun _ _ => ⟨_, rfl⟩) (by omega) (by omega)) ?_
    refine r_op oA ?_
    refine etr ?_
    refine r_op (o_lit0 2 (e := 3) (sz := 1) (zs := [.int .i64 (0)]) encI rfl rfl (by kernel_rfl) rfl) ?_
    refine r_op oM ?_
    refine r_op oM ?_
    refine r_op (o_subo rfl (by kernel_rfl) rfl rfl (.h rfl (by omega) (by omega))) ?_
    refine r_op (o_appendS 2 (e := 3) (sz := 1) (by' := 8) rfl (by kernel_rfl) rfl rfl rfl rfl (fun _ _ => ⟨_, rfl⟩) (by omega) (by omega)) ?_
    refine r_op oM ?_
    refine r_op (o_appendO 2 (e := 3) (sz := 1) (by' := 8) rfl (by kernel_rfl) rfl rfl rfl rfl rfl (by decide) (fun _ _ => ⟨_, rfl⟩) (by omega) (by omega)) ?_
    refine r_op oA ?_
    refine r_end ?_
    refine gt_as0 4 2 rfl rfl ?_
    refine t_ret Try.func24 (.tmp rfl .nil) rfl fun E S w u hI hd => ?_
    refine postM_mk hI hd ?_ ⟨eqR ?_, trivial⟩ rfl rfl <;> clear hI hd <;> (try clear ih0)
    all_goals first | rfl | ((rw [putI_new i2 i1 (fun y hy => by (have e7 := Option.some.inj (hy.symm.trans hz3); omega))]; simp))
 ·
  have g1' := of_decide_eq_false g1
  refine r_guard rfl rfl rfl (ncf g1) (fun _ => ?_)
  refine r_guard rfl rfl rfl (ncf g1) (fun _ => ?_)
  refine r_guard rfl rfl rfl (ncf g1) (fun _ => ?_)
  refine r_guard rfl rfl rfl (ncf g1) (fun _ => ?_)
  refine r_guard rfl rfl rfl (ncf g1) (fun _ => ?_)
  refine r_op (o_pickF rfl rfl g1 rfl) ?_
  refine r_end ?_
  refine t_cond rfl (ncf rfl) (fun _ => ?_)
  refine t_exit rfl ?_
  refine t_seq ?_
  refine tsr ?_
  refine r_op oM ?_
  refine r_op oM ?_
  refine r_op (o_leno rfl rfl rfl rfl) ?_
  refine r_op oB ?_
  refine r_op oM ?_
  refine r_guard rfl rfl rfl (fun g8 => ?_) (fun g8 => ?_)
  ·
   have g8' := of_decide_eq_true g8
   refine r_op oM ?_
   refine r_guard rfl rfl rfl (fun _ => ?_) (nc g8)
   refine r_op oM ?_
   refine r_guard rfl rfl rfl (fun _ => ?_) (nc g8)
   obtain ⟨z9, hz10, b11⟩ := at_get (xs := l) (n := (m : Int)) (by omega) (by omega)
   refine r_op (o_indexo rfl (by kernel_rfl) rfl rfl rfl b11 (at_lt b11 hz10)) ?_
   refine r_guard rfl rfl rfl (fun _ => ?_) (nc g8)
   refine r_op (o_load1o rfl (by kernel_rfl) rfl rfl rfl hz10) ?_
   refine r_guard rfl rfl rfl (fun _ => ?_) (nc g8)
   refine r_op oM ?_
   refine r_guard rfl rfl rfl (fun _ => ?_) (nc g8)
   refine r_op oB ?_
   refine r_op (o_pickT rfl rfl g8 rfl) ?_
   refine r_end ?_
   refine t_cond rfl (fun h12 => ?_) (fun h12 => ?_)
   ·
    have h12' := of_decide_eq_true h12
    refine tsr ?_
    refine r_op oM ?_
    refine r_op oA ?_
    refine r_end ?_
    refine gt_unpin 0 rfl ?_
    refine t_ret Try.func24 (.tmp rfl .nil) rfl fun E S w u hI hd => ?_
    refine postM_mk hI hd ?_ ⟨eqR ?_, trivial⟩ rfl rfl <;> clear hI hd <;> (try clear ih0)
    all_goals first | rfl | ((rw [putI_there i2 (by assumption) (by omega)]; done))
   ·
    have h12' := of_decide_eq_false h12
    refine t_skip ?_
    refine tsr ?_
    refine r_op oM ?_
    refine r_op (o_lit1 1 (e := 3) (sz := 1) (zs := [.int .i64 (0)]) (enc := encI) (x) rfl rfl (by kernel_rfl) rfl rfl rfl rfl rfl rfl (.cons .sc .nil)) ?_
    refine r_op oM ?_
    refine r_op oM ?_
    refine r_op (o_subo rfl (by kernel_rfl) rfl rfl (.l rfl (by omega) (by omega))) ?_
    refine r_op (o_appendS 1 (e := 3) (sz := 1) (by' := 8) rfl (by kernel_rfl) rfl rfl rfl rfl (fun _ _ => ⟨_, rfl⟩) (by omega) (by omega)) ?_
    refine r_op oA ?_
    refine etr ?_
    refine r_op (o_lit0 2 (e := 3) (sz := 1) (zs := [.int .i64 (0)]) encI rfl rfl (by kernel_rfl) rfl) ?_
    refine r_op oM ?_
    refine r_op oM ?_
    refine r_op (o_subo rfl (by kernel_rfl) rfl rfl (.h rfl (by omega) (by omega))) ?_
    refine r_op (o_appendS 2 (e := 3) (sz := 1) (by' := 8) rfl (by kernel_rfl) rfl rfl rfl rfl (fun _ _ => ⟨_, rfl⟩) (by omega) (by omega)) ?_
    refine r_op oM ?_
    refine r_op (o_appendO 2 (e := 3) (sz := 1) (by' := 8) rfl (by kernel_rfl) rfl rfl rfl rfl rfl (by decide) (fun _ _ => ⟨_, rfl⟩) (by omega) (by omega)) ?_
    refine r_op oA ?_
    refine r_end ?_
    refine gt_as0 4 2 rfl rfl ?_
    refine t_ret Try.func24 (.tmp rfl .nil) rfl fun E S w u hI hd => ?_
    refine postM_mk hI hd ?_ ⟨eqR ?_, trivial⟩ rfl rfl <;> clear hI hd <;> (try clear ih0)
    all_goals first | rfl | ((rw [putI_new i2 i1 (fun y hy => by (have e7 := Option.some.inj (hy.symm.trans hz10); omega))]; simp))
  ·
   have g8' := of_decide_eq_false g8
   refine r_guard rfl rfl rfl (ncf g8) (fun _ => ?_)
   refine r_guard rfl rfl rfl (ncf g8) (fun _ => ?_)
   refine r_guard rfl rfl rfl (ncf g8) (fun _ => ?_)
   refine r_guard rfl rfl rfl (ncf g8) (fun _ => ?_)
   refine r_guard rfl rfl rfl (ncf g8) (fun _ => ?_)
   refine r_op (o_pickF rfl rfl g8 rfl) ?_
   refine r_end ?_
   refine t_cond rfl (ncf rfl) (fun _ => ?_)
   refine t_skip ?_
   refine tsr ?_
   refine r_op oM ?_
   refine r_op (o_lit1 1 (e := 3) (sz := 1) (zs := [.int .i64 (0)]) (enc := encI) (x) rfl rfl (by kernel_rfl) rfl rfl rfl rfl rfl rfl (.cons .sc .nil)) ?_
   refine r_op oM ?_
   refine r_op oM ?_
   refine r_op (o_subo rfl (by kernel_rfl) rfl rfl (.l rfl (by omega) (by omega))) ?_
   refine r_op (o_appendS 1 (e := 3) (sz := 1) (by' := 8) rfl (by kernel_rfl) rfl rfl rfl rfl (fun _ _ => ⟨_, rfl⟩) (by (simp only [List.length_append, List.length_take, List.length_drop, List.length_cons, List.length_nil]; omega)) (by (simp only [List.length_append, List.length_take, List.length_drop, List.length_cons, List.length_nil]; omega))) ?_
   refine r_op oA ?_
   refine etr ?_
   refine r_op (o_lit0 2 (e := 3) (sz := 1) (zs := [.int .i64 (0)]) encI rfl rfl (by kernel_rfl) rfl) ?_
   refine r_op oM ?_
   refine r_op oM ?_
   refine r_op (o_subo rfl (by kernel_rfl) rfl rfl (.h rfl (by omega) (by omega))) ?_
   refine r_op (o_appendS 2 (e := 3) (sz := 1) (by' := 8) rfl (by kernel_rfl) rfl rfl rfl rfl (fun _ _ => ⟨_, rfl⟩) (by (simp only [List.length_append, List.length_take, List.length_drop, List.length_cons, List.length_nil]; omega)) (by (simp only [List.length_append, List.length_take, List.length_drop, List.length_cons, List.length_nil]; omega))) ?_
   refine r_op oM ?_
   refine r_op (o_appendO 2 (e := 3) (sz := 1) (by' := 8) rfl (by kernel_rfl) rfl rfl rfl rfl rfl (by decide) (fun _ _ => ⟨_, rfl⟩) (by (simp only [List.length_append, List.length_take, List.length_drop, List.length_cons, List.length_nil]; omega)) (by (simp only [List.length_append, List.length_take, List.length_drop, List.length_cons, List.length_nil]; omega))) ?_
   refine r_op oA ?_
   refine r_end ?_
   refine gt_as0 4 2 rfl rfl ?_
   refine t_ret Try.func24 (.tmp rfl .nil) rfl fun E S w u hI hd => ?_
   refine postM_mk hI hd ?_ ⟨eqR ?_, trivial⟩ rfl rfl <;> clear hI hd <;> (try clear ih0)
   all_goals first | rfl | ((rw [putI_new i2 i1 (fun y hy => by (have e7 := (List.getElem?_eq_some_iff.1 hy).1; omega))]; simp))
set_option maxHeartbeats 1000000 in
set_option maxRecDepth 10000 in
theorem c_spec_NullsOfFact (r : Int) (l : List Int) (hl : l.length ≤ 1048576) (ho : ∀ x ∈ l, okI x) : Pu Try.prog 23 [.agg [.t none (.v (.int .i64 (r))), .t none (.sl 1 encI (l))]] [(1, some (.row none 3 true 1 encI (setI (nulV l))))] 2 (.c (.own 1)) := by
 refine pu_enter Try.func23 rfl (Nat.le_of_ble_eq_true rfl) fun w S => ?_
 refine tsr ?_
 refine r_op (o_box 0 rfl rfl rfl rfl) ?_
 refine r_op oA ?_
 refine etr ?_
 refine r_op (o_lit0 1 (e := 3) (sz := 1) (zs := [.int .i64 (0)]) encI rfl rfl (by kernel_rfl) rfl) ?_
 refine r_op oA ?_
 refine r_end ?_
 refine t_seq ?_
 refine tsr ?_
 refine r_op oA ?_
 refine r_end ?_
 refine t_block ?_
 refine t_loopL (fun m => ⟨[(1, some (.c (.ptr 0 0))), (2, some (.c (.t none (.v (.slice none 0 0))))), (3, some (.c (.own 1))), (4, some (.c (.t none (.v (.int .i64 ((m : Int)))))))], [(0, some (.box [.t none (.v (.int .i64 (r))), .t none (.sl 1 encI (l))])), (1, some (.row none 3 true 1 encI (setI (nulV (l.take m)))))], 2⟩ : Nat → St) (fun m => m ≤ l.length) (fun m => l.length - m) 0 ⟨⟨rfl, ⟨rfl, ⟨rfl, ⟨rfl, trivial⟩⟩⟩⟩, ⟨rfl, ⟨rfl, trivial⟩⟩, rfl⟩ (by exact Nat.zero_le _) ?_
 rintro m hI ih0
 try dsimp only at hI ih0
 have i1 := hI; have q1 := setI_len (nulV (l.take m)); have q2 := nulV_part l m
 refine t_seq ?_
 refine tsr ?_
 refine r_op oM ?_
 refine r_op (oF 1) ?_
 refine r_op oL ?_
 refine r_op (o_len rfl rfl rfl) ?_
 refine r_op oB ?_
 refine r_end ?_
 refine t_cond rfl (fun h1 => ?_) (fun h1 => ?_)
 ·
  have h1' := of_decide_eq_true h1
  refine t_skip ?_
  refine t_seq ?_
  refine t_block ?_
  refine tsr ?_
  refine r_op (oF 1) ?_
  refine r_op oL ?_
  refine r_op oM ?_
  obtain ⟨z2, hz3, b4⟩ := at_get (xs := l) (n := (m : Int)) (by omega) (by omega)
  refine r_op (o_index rfl (by kernel_rfl) rfl rfl b4 hz3) ?_
  refine r_op (o_load1 rfl (by kernel_rfl) rfl rfl) ?_
  refine r_op (o_call 2 2 false (Go.Proofs.enters_of Try.func50 (by kernel_rfl) rfl) (c_spec_NullNumber (z2) (by exact (ho _ (List.mem_of_getElem? (by assumption))).1) (by exact (ho _ (List.mem_of_getElem? (by assumption))).2)) rfl (.cons rfl (.c .t0) .nil) rfl rfl rfl) ?_
  refine r_op oM ?_
  refine r_op (o_extract rfl rfl rfl rfl) ?_
  refine r_op (o_extract rfl rfl rfl rfl) ?_
  refine r_op oA ?_
  refine r_op oA ?_
  refine etr ?_
  refine r_op oM ?_
  refine r_end ?_
  refine t_cond rfl (fun h5 => ?_) (fun h5 => ?_)
  ·
   have h5' := of_decide_eq_true h5
   refine t_region ?_
   refine r_op oM ?_
   refine r_op oM ?_
   refine r_op (o_callC 1 (l' := putI (setI (nulV (l.take m))) (if -40 ≤ (z2) ∧ (z2) ≤ -1 then -1 - (z2) else 0)) (Go.Proofs.enters_of Try.func24 (by kernel_rfl) rfl) (fun U => c_spec_l4Put U  (setI (nulV (l.take m))) (if -40 ≤ (z2) ∧ (z2) ≤ -1 then -1 - (z2) else 0) (by omega)) rfl rfl (.cons rfl (.own rfl) (.cons rfl .t0 .nil))) ?_
   refine r_op oA ?_
   refine r_end ?_
   refine t_endblock ?_
   refine t_region ?_
   refine r_op oM ?_
   refine r_op oB ?_
   refine r_op oA ?_
   refine r_end ?_
   refine t_le ?_ (ih0 (m + 1) (by (try dsimp only); omega) (by (try dsimp only); omega))
   exact ⟨⟨rfl, ⟨rfl, ⟨rfl, ⟨(eqI (wr64 (by omega) (by omega))), trivial⟩⟩⟩⟩, ⟨rfl, ⟨(eqR (by (rw [nulV_more (by assumption) (by assumption), setI_snoc]; done))), trivial⟩⟩, rfl⟩
  ·
   have h5' := of_decide_eq_false h5
   refine t_skip ?_
   refine t_endblock ?_
   refine t_region ?_
   refine r_op oM ?_
   refine r_op oB ?_
   refine r_op oA ?_
   refine r_end ?_
   refine t_le ?_ (ih0 (m + 1) (by (try dsimp only); omega) (by (try dsimp only); omega))
   exact ⟨⟨rfl, ⟨rfl, ⟨rfl, ⟨(eqI (wr64 (by omega) (by omega))), trivial⟩⟩⟩⟩, ⟨rfl, ⟨(eqR (by (rw [nulV_same (by assumption) (by assumption)]; done))), trivial⟩⟩, rfl⟩
 ·
  have h1' := of_decide_eq_false h1
  refine t_exit rfl ?_
  refine tsr ?_
  refine r_op oM ?_
  refine r_op oA ?_
  refine r_end ?_
  refine t_ret Try.func23 (.tmp rfl .nil) rfl fun E S w u hI hd => ?_
  refine post_mk hI hd ?_ ⟨eqR ?_, trivial⟩ rfl rfl rfl <;> clear hI hd <;> (try clear ih0)
  all_goals first | rfl | ((rw [nulV_end (by omega)]))
set_option maxHeartbeats 1000000 in
set_option maxRecDepth 10000 in
theorem c_spec_NullsOfInstance (rs : Rels) (l : Atoms) (hl : szS (fun (x : Int × (List (Int))) => (x.2).length) l ≤ 1048576) (ho : ∀ z ∈ l, ∀ x ∈ z.2, okI x) : Pu Try.prog 9 [.agg [.t none (.sl 3 (enS3 encS encI encB) (rs)), .t none (.sl 2 (enS2 encI (enSl 1 encI)) (l))]] [(1, some (.row none 3 true 1 encI (setI (nulV (flatT l)))))] 2 (.c (.own 1)) := by
 refine pu_enter Try.func9 rfl (Nat.le_of_ble_eq_true rfl) fun w S => ?_
 have gl := sz_len (f := (fun (x : Int × (List (Int))) => (x.2).length)) (l := l); have gv := flatT_size l
 refine tsr ?_
 refine r_op (o_box 0 rfl rfl rfl rfl) ?_
 refine r_op oA ?_
 refine etr ?_
 refine r_op (o_lit0 1 (e := 3) (sz := 1) (zs := [.int .i64 (0)]) encI rfl rfl (by kernel_rfl) rfl) ?_
 refine r_op oA ?_
 refine r_end ?_
 refine t_seq ?_
 refine tsr ?_
 refine r_op oA ?_
 refine r_end ?_
 refine t_block ?_
 refine t_loopL (fun m => ⟨[(1, some (.c (.ptr 0 0))), (2, some (.c (.t none (.v (.slice none 0 0))))), (3, some (.c (.own 1))), (4, some (.c (.t none (.v (.int .i64 ((m : Int)))))))], [(0, some (.box [.t none (.sl 3 (enS3 encS encI encB) (rs)), .t none (.sl 2 (enS2 encI (enSl 1 encI)) (l))])), (1, some (.row none 3 true 1 encI (setI (nulV (flatT (l.take m))))))], 2⟩ : Nat → St) (fun m => m ≤ l.length) (fun m => l.length - m) 0 ⟨⟨rfl, ⟨rfl, ⟨rfl, ⟨rfl, trivial⟩⟩⟩⟩, ⟨rfl, ⟨rfl, trivial⟩⟩, rfl⟩ (by exact Nat.zero_le _) ?_
 rintro m hI ih0
 try dsimp only at hI ih0
 have i1 := hI
 refine t_seq ?_
 refine tsr ?_
 refine r_op oM ?_
 refine r_op (oF 1) ?_
 refine r_op oL ?_
 refine r_op (o_len rfl rfl rfl) ?_
 refine r_op oB ?_
 refine r_end ?_
 refine t_cond rfl (fun h1 => ?_) (fun h1 => ?_)
 ·
  have h1' := of_decide_eq_true h1
  refine t_skip ?_
  refine t_seq ?_
  refine t_block ?_
  refine tsr ?_
  refine r_op (oF 1) ?_
  refine r_op oL ?_
  refine r_op oM ?_
  obtain ⟨z2, hz3, b4⟩ := at_get (xs := l) (n := (m : Int)) (by omega) (by omega)
  refine r_op (o_index rfl (by kernel_rfl) rfl rfl b4 hz3) ?_
  refine r_op (o_loadA rfl (n := 2) (by kernel_rfl) (by kernel_rfl) rfl rfl) ?_
  refine r_op (o_call 2 4 false (Go.Proofs.enters_of Try.func23 (by kernel_rfl) rfl) (c_spec_NullsOfFact (z2.1) (z2.2) (by (have e1 := sz_at (f := (fun (x : Int × (List (Int))) => (x.2).length)) (l := l) (m := m) (by assumption); (try dsimp only at e1); omega)) (by exact ho _ (List.mem_of_getElem? (by assumption)))) rfl (.cons rfl (.agg (.cons .t0 (.cons .t0 .nil))) .nil) rfl rfl rfl) ?_
  refine r_op oA ?_
  refine etr ?_
  refine r_op oA ?_
  refine r_end ?_
  refine t_block ?_
  refine t_loopL (fun n => ⟨[(1, some (.c (.ptr 0 0))), (2, some (.c (.t none (.v (.slice none 0 0))))), (3, some (.c (.own 1))), (4, some (.c (.t none (.v (.int .i64 ((m : Int))))))), (5, some (.c (.own 3))), (6, some (.c (.t none (.v (.int .i64 ((n : Int)))))))], [(0, some (.box [.t none (.sl 3 (enS3 encS encI encB) (rs)), .t none (.sl 2 (enS2 encI (enSl 1 encI)) (l))])), (1, some (.row none 3 true 1 encI (setI (nulV (flatT (l.take m)) ++ (setI (nulV z2.2)).take n)))), (3, some (.row none 3 true 1 encI (setI (nulV (z2.2)))))], 4⟩ : Nat → St) (fun n => n ≤ (setI (nulV z2.2)).length) (fun n => (setI (nulV z2.2)).length - n) 0 ⟨⟨rfl, ⟨rfl, ⟨rfl, ⟨rfl, ⟨rfl, ⟨rfl, trivial⟩⟩⟩⟩⟩⟩, ⟨rfl, ⟨(eqR (by rw [List.take_zero, List.append_nil])), ⟨rfl, trivial⟩⟩⟩, rfl⟩ (by exact Nat.zero_le _) ?_
  rintro n hI ih1
  try dsimp only at hI ih1
  have j1 := hI; have vp := flatT_part (m := m) hz3; have vq := nulV_len (flatT (l.take m)); have vr := nulV_len z2.2; have vs := setI_len (nulV z2.2); have vt := setI_len (nulV (flatT (l.take m)) ++ (setI (nulV z2.2)).take n); rw [List.length_append, List.length_take] at vt
  refine t_seq ?_
  refine tsr ?_
  refine r_op oM ?_
  refine r_op oM ?_
  refine r_op (o_leno rfl rfl rfl rfl) ?_
  refine r_op oB ?_
  refine r_end ?_
  refine t_cond rfl (fun h5 => ?_) (fun h5 => ?_)
  ·
   have h5' := of_decide_eq_true h5
   refine t_skip ?_
   refine t_seq ?_
   refine t_block ?_
   refine t_region ?_
   refine r_op oM ?_
   refine r_op oM ?_
   refine r_op oM ?_
   obtain ⟨z6, hz7, b8⟩ := at_get (xs := setI (nulV (z2.2))) (n := (n : Int)) (by omega) (by omega)
   refine r_op (o_indexo rfl (by kernel_rfl) rfl rfl rfl b8 (at_lt b8 hz7)) ?_
   refine r_op (o_load1o rfl (by kernel_rfl) rfl rfl rfl hz7) ?_
   refine r_op (o_callC 1 (l' := putI (setI (nulV (flatT (l.take m)) ++ (setI (nulV z2.2)).take n)) (z6)) (Go.Proofs.enters_of Try.func24 (by kernel_rfl) rfl) (fun U => c_spec_l4Put U  (setI (nulV (flatT (l.take m)) ++ (setI (nulV z2.2)).take n)) (z6) (by omega)) rfl rfl (.cons rfl (.own rfl) (.cons rfl .t0 .nil))) ?_
   refine r_op oA ?_
   refine r_end ?_
   refine t_endblock ?_
   refine t_region ?_
   refine r_op oM ?_
   refine r_op oB ?_
   refine r_op oA ?_
   refine r_end ?_
   refine t_le ?_ (ih1 (n + 1) (by (try dsimp only); omega) (by (try dsimp only); omega))
   exact ⟨⟨rfl, ⟨rfl, ⟨rfl, ⟨rfl, ⟨rfl, ⟨(eqI (wr64 (by omega) (by omega))), trivial⟩⟩⟩⟩⟩⟩, ⟨rfl, ⟨(eqR (by rw [snoc_at (n := n) _ hz7, setI_snoc])), ⟨rfl, trivial⟩⟩⟩, rfl⟩
  ·
   have h5' := of_decide_eq_false h5
   refine t_exit rfl ?_
   refine t_endblock ?_
   refine t_region ?_
   refine r_op oM ?_
   refine r_op oB ?_
   refine r_op oA ?_
   refine r_end ?_
   refine t_le ?_ (ih0 (m + 1) (by (try dsimp only); omega) (by (try dsimp only); omega))
   exact ⟨⟨rfl, ⟨rfl, ⟨rfl, ⟨(eqI (wr64 (by omega) (by omega))), trivial⟩⟩⟩⟩, ⟨rfl, ⟨(eqR (by rw [flatT_step (m := m) hz3, nulV_app, List.take_of_length_le (i := n) (l := setI (nulV z2.2)) (by omega), setI_app])), trivial⟩⟩, rfl⟩
 ·
  have h1' := of_decide_eq_false h1
  refine t_exit rfl ?_
  refine tsr ?_
  refine r_op oM ?_
  refine r_op oA ?_
  refine r_end ?_
  refine t_ret Try.func9 (.tmp rfl .nil) rfl fun E S w u hI hd => ?_
  refine post_mk hI hd ?_ ⟨eqR ?_, trivial⟩ rfl rfl rfl <;> clear hI hd <;> (try clear ih0) <;> (try clear ih1)
  all_goals first | rfl | ((rw [flatT_end (by omega)]))
set_option maxHeartbeats 1000000 in
set_option maxRecDepth 10000 in
theorem c_laws_sameInts (a b : List Int) (ha : a.length ≤ 4611686018427387904) : Pu Try.prog 8 [.c (.t none (.sl 1 encI (a))), .c (.t none (.sl 1 encI (b)))] [] 0 (.c (.t none (.v (.bool (decide (a = b)))))) := by
 refine pu_enter Try.func8 rfl (Nat.le_of_ble_eq_true rfl) fun w S => ?_
 refine tsr ?_
 refine r_op oA ?_
 refine r_end ?_
 refine t_seq ?_
 refine tsr ?_
 refine r_op oM ?_
 refine r_op (o_len rfl rfl rfl) ?_
 refine r_op oM ?_
 refine r_op (o_len rfl rfl rfl) ?_
 refine r_op oB ?_
 refine r_end ?_
 refine t_cond rfl (fun h1 => ?_) (fun h1 => ?_)
 ·
  have h1' := of_decide_eq_true h1
  refine tsr ?_
  refine r_op oA ?_
  refine r_end ?_
  refine t_ret Try.func8 (.tmp rfl .nil) rfl fun E S w u hI hd => ?_
  refine post_mk hI hd ?_ trivial rfl rfl rfl <;> clear hI hd <;> (try clear ih0)
  all_goals ((have : a ≠ b := by rintro rfl; simp at *); simp [this])
 ·
  have h1' := of_decide_eq_false h1
  refine t_skip ?_
  refine t_seq ?_
  refine tsr ?_
  refine r_op oA ?_
  refine r_end ?_
  refine t_block ?_
  refine t_loopL (fun m => ⟨[(0, some (.c (.t none (.sl 1 encI (a))))), (1, some (.c (.t none (.sl 1 encI (b))))), (5, some (.c (.t none (.v (.int .i64 ((m : Int)))))))], [], 0⟩ : Nat → St) (fun m => m ≤ a.length ∧ a.length = b.length ∧ a.take m = b.take m) (fun m => a.length - m) 0 ⟨⟨rfl, ⟨rfl, ⟨rfl, trivial⟩⟩⟩, trivial, rfl⟩ (by exact ⟨Nat.zero_le _, by omega, rfl⟩) ?_
  rintro m hI ih0
  try dsimp only at hI ih0
  obtain ⟨i1, i2, i3⟩ := hI
  refine t_seq ?_
  refine tsr ?_
  refine r_op oM ?_
  refine r_op oM ?_
  refine r_op (o_len rfl rfl rfl) ?_
  refine r_op oB ?_
  refine r_end ?_
  refine t_cond rfl (fun h2 => ?_) (fun h2 => ?_)
  ·
   have h2' := of_decide_eq_true h2
   refine t_skip ?_
   refine t_seq ?_
   refine t_block ?_
   refine t_seq ?_
   refine t_draw (fun _ => true) (by kernel_rfl) ?_
   refine dT 0 rfl pM ?_
   refine dT 1 rfl pM ?_
   obtain ⟨z3, hz4, b5⟩ := at_get (xs := a) (n := (m : Int)) (by omega) (by omega)
   refine dT 2 rfl (p_index (by kernel_rfl) rfl rfl b5 hz4) ?_
   refine dT 3 rfl (p_load1 (by kernel_rfl) rfl rfl) ?_
   refine dT 4 rfl pM ?_
   refine dT 5 rfl pM ?_
   obtain ⟨z6, hz7, b8⟩ := at_get (xs := b) (n := (m : Int)) (by omega) (by omega)
   refine dT 6 rfl (p_index (by kernel_rfl) rfl rfl b8 hz7) ?_
   refine dT 7 rfl (p_load1 (by kernel_rfl) rfl rfl) ?_
   refine dT 8 rfl pB ?_
   refine d_end (by kernel_rfl) ?_
   refine t_cond rfl (fun h9 => ?_) (fun h9 => ?_)
   ·
    have h9' := of_decide_eq_true h9
    refine tsr ?_
    refine r_op oA ?_
    refine r_end ?_
    refine t_ret Try.func8 (.tmp rfl .nil) rfl fun E S w u hI hd => ?_
    refine post_mk hI hd ?_ trivial rfl rfl rfl <;> clear hI hd <;> (try clear ih0)
    all_goals (have := ne_at (a := a) (b := b) (by assumption) (by assumption) (by assumption); simp_all)
   ·
    have h9' := of_decide_eq_false h9
    refine t_skip ?_
    refine t_endblock ?_
    refine t_region ?_
    refine r_op oM ?_
    refine r_op oB ?_
    refine r_op oA ?_
    refine r_end ?_
    refine t_le ?_ (ih0 (m + 1) (by (try dsimp only); omega) (by (try dsimp only); exact ⟨by omega, i2, take_same i3 (same_at (by assumption) (by assumption) (by omega))⟩))
    exact ⟨⟨rfl, ⟨rfl, ⟨(eqI (wr64 (by omega) (by omega))), trivial⟩⟩⟩, trivial, rfl⟩
  ·
   have h2' := of_decide_eq_false h2
   refine t_exit rfl ?_
   refine tsr ?_
   refine r_op oA ?_
   refine r_end ?_
   refine t_ret Try.func8 (.tmp rfl .nil) rfl fun E S w u hI hd => ?_
   refine post_mk hI hd ?_ trivial rfl rfl rfl <;> clear hI hd <;> (try clear ih0)
   all_goals ((obtain rfl : m = a.length := by omega); rw [List.take_length, i2, List.take_length] at i3; simp [i3])
set_option maxHeartbeats 1000000 in
set_option maxRecDepth 10000 in
theorem c_impl_IsGround (rs : Rels) (l : Atoms) (hrs : rs.length ≤ 4611686018427387904) (hl : szS (fun (x : Int × (List (Int))) => (x.2).length) l ≤ 1048576) (ho : ∀ z ∈ l, ∀ x ∈ z.2, okI x) : Pu Try.prog 10 [.agg [.t none (.sl 3 (enS3 encS encI encB) (rs)), .t none (.sl 2 (enS2 encI (enSl 1 encI)) (l))]] [] 0 (.c (.t none (.v (.bool (instOk rs l && decide ((((setI (nulV (flatT l))).length : Nat) : Int) = 0)))))) := by
 refine pu_enter Try.func10 rfl (Nat.le_of_ble_eq_true rfl) fun w S => ?_
 have gl := sz_len (f := (fun (x : Int × (List (Int))) => (x.2).length)) (l := l)
 refine tsr ?_
 refine r_op (o_box 0 rfl rfl rfl rfl) ?_
 refine r_op oA ?_
 refine etr ?_
 refine r_op (oC 2) ?_
 refine r_op (o_call 1 1 false (Go.Proofs.enters_of Try.func18 (by kernel_rfl) rfl) (c_impl_IsValidInstance (rs) (l) (by omega) (by omega) (by omega)) rfl (.cons rfl (.agg (.cons .t0 (.cons .t0 .nil))) .nil) rfl rfl rfl) ?_
 refine r_op oM ?_
 refine r_guard rfl rfl rfl (fun g1 => ?_) (fun g1 => ?_)
 ·
  have g1' := g1
  refine r_op (oC 2) ?_
  refine r_guard rfl rfl rfl (fun _ => ?_) (nc g1)
  refine r_op (o_call 1 4 false (Go.Proofs.enters_of Try.func7 (by kernel_rfl) rfl) (c_impl_NullsOfInstance (rs) (l) (by omega) (by omega)) rfl (.cons rfl (.agg (.cons .t0 (.cons .t0 .nil))) .nil) rfl rfl rfl) ?_
  refine r_guard rfl rfl rfl (fun _ => ?_) (nc g1)
  refine r_op (o_leno rfl rfl rfl rfl) ?_
  refine r_guard rfl rfl rfl (fun _ => ?_) (nc g1)
  refine r_op oB ?_
  refine r_op (o_pickT rfl rfl g1 rfl) ?_
  refine r_op oA ?_
  refine r_end ?_
  refine t_ret Try.func10 (.tmp rfl .nil) rfl fun E S w u hI hd => ?_
  refine post_mk hI hd ?_ trivial rfl rfl rfl <;> clear hI hd
  all_goals (refine scB ?_; (clear hl gl ho hrs; grind))
 ·
  have g1' := g1
  refine r_guard rfl rfl rfl (ncf g1) (fun _ => ?_)
  refine r_guard rfl rfl rfl (ncf g1) (fun _ => ?_)
  refine r_guard rfl rfl rfl (ncf g1) (fun _ => ?_)
  refine r_op (o_pickF rfl rfl g1 rfl) ?_
  refine r_op oA ?_
  refine r_end ?_
  refine t_ret Try.func10 (.tmp rfl .nil) rfl fun E S w u hI hd => ?_
  refine post_mk hI hd ?_ trivial rfl rfl rfl <;> clear hI hd
  all_goals (refine scB ?_; (clear hl gl ho hrs; grind))
set_option maxHeartbeats 1000000 in
set_option maxRecDepth 10000 in
theorem c_spec_IsValidRelation (n : List UInt8) (a : Int) (s : Bool) : Pu Try.prog 54 [.agg [.t none (.v (.string (mkS (n)))), .t none (.v (.int .i64 (a))), .t none (.v (.bool (s)))]] [] 0 (.c (.t none (.v (.bool (relOk (n, a, s)))))) := by
 refine pu_enter Try.func54 rfl (Nat.le_of_ble_eq_true rfl) fun w S => ?_
 refine tsr ?_
 refine r_op (o_box 0 rfl rfl rfl rfl) ?_
 refine r_op oA ?_
 refine etr ?_
 refine r_op (oF 0) ?_
 refine r_op oL ?_
 refine r_op (o_lenS rfl Try.underlying9 rfl) ?_
 refine r_op oB ?_
 refine r_op oM ?_
 refine r_guard rfl rfl rfl (fun g1 => ?_) (fun g1 => ?_)
 ·
  have g1' := of_decide_eq_true g1
  refine r_op (oF 0) ?_
  refine r_guard rfl rfl rfl (fun _ => ?_) (nc g1)
  refine r_op oL ?_
  refine r_guard rfl rfl rfl (fun _ => ?_) (nc g1)
  obtain ⟨z2, hz3, b4⟩ := at_get (xs := n) (n := 0) (by omega) (by omega)
  refine r_op (o_indexS rfl Try.underlying9 rfl rfl b4 hz3) ?_
  refine r_guard rfl rfl rfl (fun _ => ?_) (nc g1)
  refine r_op oB ?_
  refine r_op (o_pickT rfl rfl g1 rfl) ?_
  refine r_op oM ?_
  refine r_guard rfl rfl rfl (fun g5 => ?_) (fun g5 => ?_)
  ·
   have g5' := of_decide_eq_true g5
   refine r_op (oF 0) ?_
   refine r_guard rfl rfl rfl (fun _ => ?_) (nc g5)
   refine r_op oL ?_
   refine r_guard rfl rfl rfl (fun _ => ?_) (nc g5)
   refine r_op (o_indexS rfl Try.underlying9 rfl rfl b4 hz3) ?_
   refine r_guard rfl rfl rfl (fun _ => ?_) (nc g5)
   refine r_op oB ?_
   refine r_op (o_pickT rfl rfl g5 rfl) ?_
   refine r_op oM ?_
   refine r_guard rfl rfl rfl (fun g6 => ?_) (fun g6 => ?_)
   ·
    have g6' := of_decide_eq_true g6
    refine r_op (oF 1) ?_
    refine r_guard rfl rfl rfl (fun _ => ?_) (nc g6)
    refine r_op oL ?_
    refine r_guard rfl rfl rfl (fun _ => ?_) (nc g6)
    refine r_op (o_call 1 1 false (Go.Proofs.enters_of Try.func51 (by kernel_rfl) rfl) (c_spec_l1In (a) (1) (3)) rfl (.cons rfl (.c .t0) (.cons rfl (.c .t0) (.cons rfl (.c .t0) .nil))) rfl rfl rfl) ?_
    refine r_op (o_pickT rfl rfl g6 rfl) ?_
    refine r_op oA ?_
    refine r_end ?_
    refine t_ret Try.func54 (.tmp rfl .nil) rfl fun E S w u hI hd => ?_
    refine post_mk hI hd ?_ trivial rfl rfl rfl <;> clear hI hd
    all_goals (refine scB ?_; (obtain ⟨c, rfl⟩ := one_of (by assumption); simp at *; subst_vars; simp [relOk, nameOk]; omega))
   ·
    have g6' := of_decide_eq_false g6
    refine r_guard rfl rfl rfl (ncf g6) (fun _ => ?_)
    refine r_guard rfl rfl rfl (ncf g6) (fun _ => ?_)
    refine r_op (o_pickF rfl rfl g6 rfl) ?_
    refine r_op oA ?_
    refine r_end ?_
    refine t_ret Try.func54 (.tmp rfl .nil) rfl fun E S w u hI hd => ?_
    refine post_mk hI hd ?_ trivial rfl rfl rfl <;> clear hI hd
    all_goals (refine scB ?_; (obtain ⟨c, rfl⟩ := one_of (by assumption); simp at *; subst_vars; simp [relOk, nameOk]; omega))
  ·
   have g5' := of_decide_eq_false g5
   refine r_guard rfl rfl rfl (ncf g5) (fun _ => ?_)
   refine r_guard rfl rfl rfl (ncf g5) (fun _ => ?_)
   refine r_guard rfl rfl rfl (ncf g5) (fun _ => ?_)
   refine r_op (o_pickF rfl rfl g5 rfl) ?_
   refine r_op oM ?_
   refine r_guard rfl rfl rfl (ncf rfl) (fun _ => ?_)
   refine r_guard rfl rfl rfl (ncf rfl) (fun _ => ?_)
   refine r_guard rfl rfl rfl (ncf rfl) (fun _ => ?_)
   refine r_op (o_pickF rfl rfl rfl rfl) ?_
   refine r_op oA ?_
   refine r_end ?_
   refine t_ret Try.func54 (.tmp rfl .nil) rfl fun E S w u hI hd => ?_
   refine post_mk hI hd ?_ trivial rfl rfl rfl <;> clear hI hd
   all_goals (refine scB ?_; (obtain ⟨c, rfl⟩ := one_of (by assumption); simp at *; subst_vars; simp [relOk, nameOk]; omega))
 ·
  have g1' := of_decide_eq_false g1
  refine r_guard rfl rfl rfl (ncf g1) (fun _ => ?_)
  refine r_guard rfl rfl rfl (ncf g1) (fun _ => ?_)
  refine r_guard rfl rfl rfl (ncf g1) (fun _ => ?_)
  refine r_op (o_pickF rfl rfl g1 rfl) ?_
  refine r_op oM ?_
  refine r_guard rfl rfl rfl (ncf rfl) (fun _ => ?_)
  refine r_guard rfl rfl rfl (ncf rfl) (fun _ => ?_)
  refine r_guard rfl rfl rfl (ncf rfl) (fun _ => ?_)
  refine r_guard rfl rfl rfl (ncf rfl) (fun _ => ?_)
  refine r_op (o_pickF rfl rfl rfl rfl) ?_
  refine r_op oM ?_
  refine r_guard rfl rfl rfl (ncf rfl) (fun _ => ?_)
  refine r_guard rfl rfl rfl (ncf rfl) (fun _ => ?_)
  refine r_guard rfl rfl rfl (ncf rfl) (fun _ => ?_)
  refine r_op (o_pickF rfl rfl rfl rfl) ?_
  refine r_op oA ?_
  refine r_end ?_
  refine t_ret Try.func54 (.tmp rfl .nil) rfl fun E S w u hI hd => ?_
  refine post_mk hI hd ?_ trivial rfl rfl rfl <;> clear hI hd
  all_goals (refine scB ?_; (have e := nameOk_not (by assumption); simp [relOk, e]; done))
set_option maxHeartbeats 1000000 in
set_option maxRecDepth 10000 in
theorem c_spec_AreValidRelations (l : List (List UInt8 × Int × Bool)) (hl : l.length ≤ 4611686018427387904) : Pu Try.prog 27 [.c (.t none (.sl 3 (enS3 encS encI encB) (l)))] [] 0 (.c (.t none (.v (.bool (relsOk l))))) := by
 refine pu_enter Try.func27 rfl (Nat.le_of_ble_eq_true rfl) fun w S => ?_
 refine tsr ?_
 refine r_op oA ?_
 refine r_end ?_
 refine t_seq ?_
 refine tsr ?_
 refine r_op oA ?_
 refine r_end ?_
 refine t_block ?_
 refine t_loopL (fun m => ⟨[(0, some (.c (.t none (.sl 3 (enS3 encS encI encB) (l))))), (3, some (.c (.t none (.v (.int .i64 ((m : Int)))))))], [], 0⟩ : Nat → St) (fun m => m ≤ l.length ∧ ∀ j, j < m → relStep l j = true) (fun m => l.length - m) 0 ⟨⟨rfl, ⟨rfl, trivial⟩⟩, trivial, rfl⟩ (by exact ⟨Nat.zero_le _, fun j h => by omega⟩) ?_
 rintro m hI ih0
 try dsimp only at hI ih0
 obtain ⟨i1, i2⟩ := hI
 refine t_seq ?_
 refine tsr ?_
 refine r_op oM ?_
 refine r_op oM ?_
 refine r_op (o_len rfl rfl rfl) ?_
 refine r_op oB ?_
 refine r_end ?_
 refine t_cond rfl (fun h1 => ?_) (fun h1 => ?_)
 ·
  have h1' := of_decide_eq_true h1
  refine t_skip ?_
  refine t_seq ?_
  refine t_block ?_
  refine t_seq ?_
  refine t_draw (fun _ => true) (by kernel_rfl) ?_
  refine dT 0 rfl pM ?_
  refine dT 1 rfl pM ?_
  obtain ⟨z2, hz3, b4⟩ := at_get (xs := l) (n := (m : Int)) (by omega) (by omega)
  refine dT 2 rfl (p_index (by kernel_rfl) rfl rfl b4 hz3) ?_
  refine dT 3 rfl (p_loadA (n := 3) (by kernel_rfl) (by kernel_rfl) rfl rfl) ?_
  refine dO 4 rfl (o_call 0 0 false (Go.Proofs.enters_of Try.func54 (by kernel_rfl) rfl) (c_spec_IsValidRelation (z2.1) (z2.2.1) (z2.2.2)) rfl (.cons rfl (.agg (.cons .t0 (.cons .t0 (.cons .t0 .nil)))) .nil) rfl rfl rfl) ?_
  refine dT 5 rfl (p_not rfl) ?_
  refine dT 6 rfl pM ?_
  refine dH 7 rfl (fun _ => pM) (fun g5 => ?_) (fun g5 => ?_)
  ·
   have g5' := (bnf g5)
   refine dH 8 rfl (fun _ => pB) (fun _ => ?_) (ncf g5)
   refine dH 9 rfl (fun _ => pM) (fun _ => ?_) (ncf g5)
   refine dH 10 rfl (fun _ => pM) (fun g6 => ?_) (fun g6 => ?_)
   ·
    have g6' := of_decide_eq_true g6
    refine dH 11 rfl (fun _ => pM) (fun _ => ?_) (nc g6)
    refine dH 12 rfl (fun _ => pB) (fun _ => ?_) (nc g6)
    obtain ⟨z7, hz8, b9⟩ := at_get (xs := l) (n := IntKind.i64.wrap ((m : Int) - 1)) (by (simp only [IntKind.wrap_i64]; omega)) (by (simp only [IntKind.wrap_i64]; omega))
    refine dH 13 rfl (fun _ => p_index (by kernel_rfl) rfl rfl b9 hz8) (fun _ => ?_) (nc g6)
    refine dH 14 rfl (fun _ => p_field (off := 0) (by kernel_rfl) rfl) (fun _ => ?_) (nc g6)
    refine dH 15 rfl (fun _ => p_load1 (by kernel_rfl) rfl rfl) (fun _ => ?_) (nc g6)
    refine dH 16 rfl (fun _ => pM) (fun _ => ?_) (nc g6)
    refine dH 17 rfl (fun _ => pM) (fun _ => ?_) (nc g6)
    refine dH 18 rfl (fun _ => p_index (by kernel_rfl) rfl rfl b4 hz3) (fun _ => ?_) (nc g6)
    refine dH 19 rfl (fun _ => p_field (off := 0) (by kernel_rfl) rfl) (fun _ => ?_) (nc g6)
    refine dH 20 rfl (fun _ => p_load1 (by kernel_rfl) rfl rfl) (fun _ => ?_) (nc g6)
    refine dH 21 rfl (fun _ => p_str rfl rfl rfl) (fun _ => ?_) (nc g6)
    refine dH 22 rfl (fun _ => p_pickT rfl g6 rfl) (fun _ => ?_) (ncf g5)
    refine dT 23 rfl (p_pickF rfl g5 rfl) ?_
    refine d_end (by kernel_rfl) ?_
    refine t_cond rfl (fun h10 => ?_) (fun h10 => ?_)
    ·
     have h10' := (bnt h10)
     refine tsr ?_
     refine r_op oA ?_
     refine r_end ?_
     refine t_ret Try.func27 (.tmp rfl .nil) rfl fun E S w u hI hd => ?_
     refine post_mk hI hd ?_ trivial rfl rfl rfl <;> clear hI hd <;> (try clear ih0)
     all_goals (rw [relsOk_not (m := m) (by omega) (relStep_pos (n := (IntKind.i64.wrap ((m : Int) - 1)).toNat) (by assumption) (by assumption) (by omega) (by simp only [IntKind.wrap_i64]; omega) (by assumption) (by assumption))])
    ·
     have h10' := (bnf h10)
     refine t_skip ?_
     refine t_endblock ?_
     refine t_region ?_
     refine r_op oM ?_
     refine r_op oB ?_
     refine r_op oA ?_
     refine r_end ?_
     refine t_le ?_ (ih0 (m + 1) (by (try dsimp only); omega) (by (try dsimp only); exact ⟨by omega, step_all i2 (relStep_pos (n := (IntKind.i64.wrap ((m : Int) - 1)).toNat) (by assumption) (by assumption) (by omega) (by simp only [IntKind.wrap_i64]; omega) (by assumption) (by assumption))⟩))
     exact ⟨⟨rfl, ⟨(eqI (wr64 (by omega) (by omega))), trivial⟩⟩, trivial, rfl⟩
   ·
    have g6' := of_decide_eq_false g6
    refine dG 11 (ncf g6) (fun _ => ?_)
    refine dG 12 (ncf g6) (fun _ => ?_)
    refine dG 13 (ncf g6) (fun _ => ?_)
    refine dG 14 (ncf g6) (fun _ => ?_)
    refine dG 15 (ncf g6) (fun _ => ?_)
    refine dG 16 (ncf g6) (fun _ => ?_)
    refine dG 17 (ncf g6) (fun _ => ?_)
    refine dG 18 (ncf g6) (fun _ => ?_)
    refine dG 19 (ncf g6) (fun _ => ?_)
    refine dG 20 (ncf g6) (fun _ => ?_)
    refine dG 21 (ncf g6) (fun _ => ?_)
    refine dH 22 rfl (fun _ => p_pickF rfl g6 rfl) (fun _ => ?_) (ncf g5)
    refine dT 23 rfl (p_pickF rfl g5 rfl) ?_
    refine d_end (by kernel_rfl) ?_
    refine t_cond rfl (ncf rfl) (fun _ => ?_)
    refine t_skip ?_
    refine t_endblock ?_
    refine t_region ?_
    refine r_op oM ?_
    refine r_op oB ?_
    refine r_op oA ?_
    refine r_end ?_
    refine t_le ?_ (ih0 (m + 1) (by (try dsimp only); omega) (by (try dsimp only); exact ⟨by omega, step_all i2 (relStep_zero (by assumption) (by assumption) (by omega))⟩))
    exact ⟨⟨rfl, ⟨(eqI (wr64 (by omega) (by omega))), trivial⟩⟩, trivial, rfl⟩
  ·
   have g5' := (bnt g5)
   refine dG 8 (nc g5) (fun _ => ?_)
   refine dG 9 (nc g5) (fun _ => ?_)
   refine dK 10 ?_
   refine dK 11 ?_
   refine dK 12 ?_
   refine dK 13 ?_
   refine dK 14 ?_
   refine dK 15 ?_
   refine dK 16 ?_
   refine dK 17 ?_
   refine dK 18 ?_
   refine dK 19 ?_
   refine dK 20 ?_
   refine dK 21 ?_
   refine dG 22 (nc g5) (fun _ => ?_)
   refine dT 23 rfl (p_pickT rfl g5 rfl) ?_
   refine d_end (by kernel_rfl) ?_
   refine t_cond rfl (fun _ => ?_) (nc rfl)
   refine tsr ?_
   refine r_op oA ?_
   refine r_end ?_
   refine t_ret Try.func27 (.tmp rfl .nil) rfl fun E S w u hI hd => ?_
   refine post_mk hI hd ?_ trivial rfl rfl rfl <;> clear hI hd <;> (try clear ih0)
   all_goals (rw [relsOk_not (m := m) (by omega) (relStep_bad (by assumption) (by assumption))])
 ·
  have h1' := of_decide_eq_false h1
  refine t_exit rfl ?_
  refine tsr ?_
  refine r_op oM ?_
  refine r_op (o_len rfl rfl rfl) ?_
  refine r_op oB ?_
  refine r_op oA ?_
  refine r_end ?_
  refine t_ret Try.func27 (.tmp rfl .nil) rfl fun E S w u hI hd => ?_
  refine post_mk hI hd ?_ trivial rfl rfl rfl <;> clear hI hd <;> (try clear ih0)
  all_goals (rw [relsOk_end (m := m) i2 (by omega)]; exact scD (by omega))
set_option maxHeartbeats 1000000 in
set_option maxRecDepth 10000 in
theorem c_spec_IsValidValue (v : Int) (hv : -9223372036854775808 ≤ v) (hv2 : v ≤ 9223372036854775807) : Pu Try.prog 52 [.c (.t none (.v (.int .i64 (v))))] [] 0 (.c (.t none (.v (.bool (decide (-40 ≤ v ∧ v ≤ 9)))))) := by
 refine pu_enter Try.func52 rfl (Nat.le_of_ble_eq_true rfl) fun w S => ?_
 refine tsr ?_
 refine r_op oA ?_
 refine etr ?_
 refine r_op oM ?_
 refine r_op (o_call 0 0 false (Go.Proofs.enters_of Try.func50 (by kernel_rfl) rfl) (c_spec_NullNumber (v) (by omega) (by omega)) rfl (.cons rfl (.c .t0) .nil) rfl rfl rfl) ?_
 refine r_op oM ?_
 refine r_op (o_extract rfl rfl rfl rfl) ?_
 refine r_op (o_extract rfl rfl rfl rfl) ?_
 refine r_op oA ?_
 refine r_op oA ?_
 refine etr ?_
 refine r_op oM ?_
 refine r_op oM ?_
 refine r_guard rfl rfl rfl (fun g1 => ?_) (fun g1 => ?_)
 ·
  have g1' := of_decide_eq_false g1
  refine r_op oM ?_
  refine r_guard rfl rfl rfl (fun _ => ?_) (ncf g1)
  refine r_op (o_call 0 0 false (Go.Proofs.enters_of Try.func51 (by kernel_rfl) rfl) (c_spec_l1In (v) (0) (9)) rfl (.cons rfl (.c .t0) (.cons rfl (.c .t0) (.cons rfl (.c .t0) .nil))) rfl rfl rfl) ?_
  refine r_op (o_pickF rfl rfl g1 rfl) ?_
  refine r_op oA ?_
  refine r_end ?_
  refine t_ret Try.func52 (.tmp rfl .nil) rfl fun E S w u hI hd => ?_
  refine post_mk hI hd ?_ trivial rfl rfl rfl <;> clear hI hd
  all_goals ((exact scD (by omega)))
 ·
  have g1' := of_decide_eq_true g1
  refine r_guard rfl rfl rfl (nc g1) (fun _ => ?_)
  refine r_op (o_pickT rfl rfl g1 rfl) ?_
  refine r_op oA ?_
  refine r_end ?_
  refine t_ret Try.func52 (.tmp rfl .nil) rfl fun E S w u hI hd => ?_
  refine post_mk hI hd ?_ trivial rfl rfl rfl <;> clear hI hd
  all_goals ((exact scTrue (by omega)))
set_option maxHeartbeats 1000000 in
set_option maxRecDepth 10000 in
theorem c_spec_IsValidFact (rs : List (List UInt8 × Int × Bool)) (r : Int) (ts : List Int) (hrs : rs.length ≤ 4611686018427387904) (hts : ts.length ≤ 4611686018427387904) (ho : ∀ x ∈ ts, okI x) : Pu Try.prog 25 [.c (.t none (.sl 3 (enS3 encS encI encB) (rs))), .agg [.t none (.v (.int .i64 (r))), .t none (.sl 1 encI (ts))]] [] 0 (.c (.t none (.v (.bool (factOk rs r ts))))) := by
 refine pu_enter Try.func25 rfl (Nat.le_of_ble_eq_true rfl) fun w S => ?_
 refine tsr ?_
 refine r_op (o_box 0 rfl rfl rfl rfl) ?_
 refine r_op oA ?_
 refine r_end ?_
 refine t_seq ?_
 refine t_seq ?_
 refine t_draw (fun _ => true) (by kernel_rfl) ?_
 refine dT 0 rfl pM ?_
 refine dO 1 rfl (o_call 1 1 false (Go.Proofs.enters_of Try.func27 (by kernel_rfl) rfl) (c_spec_AreValidRelations (rs) (by omega)) rfl (.cons rfl (.c .t0) .nil) rfl rfl rfl) ?_
 refine dT 2 rfl (p_not rfl) ?_
 refine dT 3 rfl pM ?_
 refine dH 4 rfl (fun _ => pF 0) (fun g1 => ?_) (fun g1 => ?_)
 ·
  have g1' := (bnf g1)
  refine dH 5 rfl (fun _ => pL) (fun _ => ?_) (ncf g1)
  refine dH 6 rfl (fun _ => pM) (fun _ => ?_) (ncf g1)
  refine dH 7 rfl (fun _ => p_len rfl rfl) (fun _ => ?_) (ncf g1)
  refine dH 8 rfl (fun _ => pB) (fun _ => ?_) (ncf g1)
  refine d_onlyG 9 rfl rfl (by kernel_rfl) rfl rfl rfl (fun _ => (o_call 1 1 false (Go.Proofs.enters_of Try.func51 (by kernel_rfl) rfl) (c_spec_l1In (r) (0) (IntKind.i64.wrap (((rs).length : Int) - 1))) rfl (.cons rfl (.c .t0) (.cons rfl (.c .t0) (.cons rfl (.c .t0) .nil))) rfl rfl rfl)) (fun _ => ?_) (ncf g1)
  refine dH 10 rfl (fun _ => p_not rfl) (fun _ => ?_) (ncf g1)
  refine dT 11 rfl (p_pickF rfl g1 rfl) ?_
  refine dT 12 rfl pM ?_
  refine dH 13 rfl (fun _ => pF 1) (fun g2 => ?_) (fun g2 => ?_)
  ·
   have g2' := of_decide_eq_true (bnf g2)
   refine dH 14 rfl (fun _ => pL) (fun _ => ?_) (ncf g2)
   refine dH 15 rfl (fun _ => p_len rfl rfl) (fun _ => ?_) (ncf g2)
   refine dH 16 rfl (fun _ => pM) (fun _ => ?_) (ncf g2)
   refine dH 17 rfl (fun _ => pF 0) (fun _ => ?_) (ncf g2)
   refine dH 18 rfl (fun _ => pL) (fun _ => ?_) (ncf g2)
   obtain ⟨z3, hz4, b5⟩ := at_get (xs := rs) (n := r) (by omega) (by (simp only [IntKind.wrap_i64] at *; omega))
   refine dH 19 rfl (fun _ => p_index (by kernel_rfl) rfl rfl b5 hz4) (fun _ => ?_) (ncf g2)
   refine dH 20 rfl (fun _ => p_field (off := 1) (by kernel_rfl) rfl) (fun _ => ?_) (ncf g2)
   refine dH 21 rfl (fun _ => p_load1 (by kernel_rfl) rfl rfl) (fun _ => ?_) (ncf g2)
   refine dH 22 rfl (fun _ => pB) (fun _ => ?_) (ncf g2)
   refine dT 23 rfl (p_pickF rfl g2 rfl) ?_
   refine d_end (by kernel_rfl) ?_
   refine t_cond rfl (fun h6 => ?_) (fun h6 => ?_)
   ·
    have h6' := of_decide_eq_true h6
    refine tsr ?_
    refine r_op oA ?_
    refine r_end ?_
    refine t_ret Try.func25 (.tmp rfl .nil) rfl fun E S w u hI hd => ?_
    refine post_mk hI hd ?_ trivial rfl rfl rfl <;> clear hI hd <;> (try clear ih0)
    all_goals (refine scB ?_; (rw [fact_no3 (by assumption) (by assumption)]; done))
   ·
    have h6' := of_decide_eq_false h6
    refine t_skip ?_
    refine t_seq ?_
    refine tsr ?_
    refine r_op oA ?_
    refine r_end ?_
    refine t_block ?_
    refine t_loopL (fun m => ⟨[(3, some (.c (.ptr 0 0))), (5, some (.c (.t none (.v (.int .i64 ((m : Int)))))))], [(0, some (.box [.t none (.v (.int .i64 (r))), .t none (.sl 1 encI (ts))]))], 1⟩ : Nat → St) (fun m => m ≤ ts.length ∧ ∀ j z, j < m → ts[j]? = some z → (fun t => !valOk t) z = false) (fun m => ts.length - m) 0 ⟨⟨rfl, ⟨rfl, trivial⟩⟩, ⟨rfl, trivial⟩, rfl⟩ (by exact ⟨Nat.zero_le _, fun j z h => by omega⟩) ?_
    rintro m hI ih0
    try dsimp only at hI ih0
    obtain ⟨i1, i2⟩ := hI
    refine t_seq ?_
    refine tsr ?_
    refine r_op oM ?_
    refine r_op (oF 1) ?_
    refine r_op oL ?_
    refine r_op (o_len rfl rfl rfl) ?_
    refine r_op oB ?_
    refine r_end ?_
    refine t_cond rfl (fun h7 => ?_) (fun h7 => ?_)
    ·
     have h7' := of_decide_eq_true h7
     refine t_skip ?_
     refine t_seq ?_
     refine t_block ?_
     refine tsr ?_
     refine r_op (oF 1) ?_
     refine r_op oL ?_
     refine r_op oM ?_
     obtain ⟨z8, hz9, b10⟩ := at_get (xs := ts) (n := (m : Int)) (by omega) (by omega)
     refine r_op (o_index rfl (by kernel_rfl) rfl rfl b10 hz9) ?_
     refine r_op (o_load1 rfl (by kernel_rfl) rfl rfl) ?_
     refine r_op (o_call 1 1 false (Go.Proofs.enters_of Try.func52 (by kernel_rfl) rfl) (c_spec_IsValidValue (z8) (by exact (ho _ (List.mem_of_getElem? (by assumption))).1) (by exact (ho _ (List.mem_of_getElem? (by assumption))).2)) rfl (.cons rfl (.c .t0) .nil) rfl rfl rfl) ?_
     refine r_op (o_not rfl rfl) ?_
     refine r_end ?_
     refine t_cond rfl (fun h11 => ?_) (fun h11 => ?_)
     ·
      have h11' := of_decide_eq_false (bnt h11)
      refine tsr ?_
      refine r_op oA ?_
      refine r_end ?_
      refine t_ret Try.func25 (.tmp rfl .nil) rfl fun E S w u hI hd => ?_
      refine post_mk hI hd ?_ trivial rfl rfl rfl <;> clear hI hd <;> (try clear ih0)
      all_goals (refine scB ?_; (rw [fact_yes (by assumption) (by simp only [IntKind.wrap_i64] at *; omega) (by assumption) (by omega), any_true (p := fun t => !valOk t) (by assumption) (by simp only [valOk, Bool.not_eq_true']; exact decide_eq_false (by assumption))]; rfl))
     ·
      have h11' := of_decide_eq_true (bnf h11)
      refine t_skip ?_
      refine t_endblock ?_
      refine t_region ?_
      refine r_op oM ?_
      refine r_op oB ?_
      refine r_op oA ?_
      refine r_end ?_
      refine t_le ?_ (ih0 (m + 1) (by (try dsimp only); omega) (by (try dsimp only); exact ⟨by omega, no_step i2 (by assumption) rfl (by simp only [valOk, Bool.not_eq_false']; exact decide_eq_true (by assumption))⟩))
      exact ⟨⟨rfl, ⟨(eqI (wr64 (by omega) (by omega))), trivial⟩⟩, ⟨rfl, trivial⟩, rfl⟩
    ·
     have h7' := of_decide_eq_false h7
     refine t_exit rfl ?_
     refine tsr ?_
     refine r_op oA ?_
     refine r_end ?_
     refine t_ret Try.func25 (.tmp rfl .nil) rfl fun E S w u hI hd => ?_
     refine post_mk hI hd ?_ trivial rfl rfl rfl <;> clear hI hd <;> (try clear ih0)
     all_goals (refine scB ?_; (rw [fact_yes (by assumption) (by simp only [IntKind.wrap_i64] at *; omega) (by assumption) (by omega), any_false (p := fun t => !valOk t) i2 (by omega)]; rfl))
  ·
   have g2' := of_decide_eq_false (bnt g2)
   refine dG 14 (nc g2) (fun _ => ?_)
   refine dG 15 (nc g2) (fun _ => ?_)
   refine dG 16 (nc g2) (fun _ => ?_)
   refine dG 17 (nc g2) (fun _ => ?_)
   refine dG 18 (nc g2) (fun _ => ?_)
   refine dG 19 (nc g2) (fun _ => ?_)
   refine dG 20 (nc g2) (fun _ => ?_)
   refine dG 21 (nc g2) (fun _ => ?_)
   refine dG 22 (nc g2) (fun _ => ?_)
   refine dT 23 rfl (p_pickT rfl g2 rfl) ?_
   refine d_end (by kernel_rfl) ?_
   refine t_cond rfl (fun _ => ?_) (nc rfl)
   refine tsr ?_
   refine r_op oA ?_
   refine r_end ?_
   refine t_ret Try.func25 (.tmp rfl .nil) rfl fun E S w u hI hd => ?_
   refine post_mk hI hd ?_ trivial rfl rfl rfl <;> clear hI hd <;> (try clear ih0)
   all_goals (refine scB ?_; (rw [fact_no2 (by simp only [IntKind.wrap_i64] at *; omega)]; done))
 ·
  have g1' := (bnt g1)
  refine dG 5 (nc g1) (fun _ => ?_)
  refine dG 6 (nc g1) (fun _ => ?_)
  refine dG 7 (nc g1) (fun _ => ?_)
  refine dG 8 (nc g1) (fun _ => ?_)
  refine dG 9 (nc g1) (fun _ => ?_)
  refine dG 10 (nc g1) (fun _ => ?_)
  refine dT 11 rfl (p_pickT rfl g1 rfl) ?_
  refine dT 12 rfl pM ?_
  refine dG 13 (nc rfl) (fun _ => ?_)
  refine dG 14 (nc rfl) (fun _ => ?_)
  refine dG 15 (nc rfl) (fun _ => ?_)
  refine dG 16 (nc rfl) (fun _ => ?_)
  refine dG 17 (nc rfl) (fun _ => ?_)
  refine dG 18 (nc rfl) (fun _ => ?_)
  refine dG 19 (nc rfl) (fun _ => ?_)
  refine dG 20 (nc rfl) (fun _ => ?_)
  refine dG 21 (nc rfl) (fun _ => ?_)
  refine dG 22 (nc rfl) (fun _ => ?_)
  refine dT 23 rfl (p_pickT rfl rfl rfl) ?_
  refine d_end (by kernel_rfl) ?_
  refine t_cond rfl (fun _ => ?_) (nc rfl)
  refine tsr ?_
  refine r_op oA ?_
  refine r_end ?_
  refine t_ret Try.func25 (.tmp rfl .nil) rfl fun E S w u hI hd => ?_
  refine post_mk hI hd ?_ trivial rfl rfl rfl <;> clear hI hd <;> (try clear ih0)
  all_goals (refine scB ?_; (rw [fact_no1 (by assumption)]; done))
set_option maxHeartbeats 1000000 in
set_option maxRecDepth 10000 in
theorem c_spec_IsValidInstance (rs : Rels) (l : Atoms) (hrs : rs.length ≤ 4611686018427387904) (hl : szS (fun (x : Int × (List (Int))) => (x.2).length) l ≤ 1048576) (ho : ∀ z ∈ l, ∀ x ∈ z.2, okI x) : Pu Try.prog 12 [.agg [.t none (.sl 3 (enS3 encS encI encB) (rs)), .t none (.sl 2 (enS2 encI (enSl 1 encI)) (l))]] [] 0 (.c (.t none (.v (.bool (instOk rs l))))) := by
 refine pu_enter Try.func12 rfl (Nat.le_of_ble_eq_true rfl) fun w S => ?_
 have gl := sz_len (f := (fun (x : Int × (List (Int))) => (x.2).length)) (l := l)
 refine tsr ?_
 refine r_op (o_box 0 rfl rfl rfl rfl) ?_
 refine r_op oA ?_
 refine r_end ?_
 refine t_seq ?_
 refine tsr ?_
 refine r_op oA ?_
 refine r_end ?_
 refine t_block ?_
 refine t_loopL (fun m => ⟨[(1, some (.c (.ptr 0 0))), (3, some (.c (.t none (.v (.int .i64 ((m : Int)))))))], [(0, some (.box [.t none (.sl 3 (enS3 encS encI encB) (rs)), .t none (.sl 2 (enS2 encI (enSl 1 encI)) (l))]))], 1⟩ : Nat → St) (fun m => m ≤ l.length ∧ ∀ j, j < m → instStep rs l j = true) (fun m => l.length - m) 0 ⟨⟨rfl, ⟨rfl, trivial⟩⟩, ⟨rfl, trivial⟩, rfl⟩ (by exact ⟨Nat.zero_le _, fun j h => by omega⟩) ?_
 rintro m hI ih0
 try dsimp only at hI ih0
 obtain ⟨i1, i2⟩ := hI
 refine t_seq ?_
 refine tsr ?_
 refine r_op oM ?_
 refine r_op (oF 1) ?_
 refine r_op oL ?_
 refine r_op (o_len rfl rfl rfl) ?_
 refine r_op oB ?_
 refine r_end ?_
 refine t_cond rfl (fun h1 => ?_) (fun h1 => ?_)
 ·
  have h1' := of_decide_eq_true h1
  refine t_skip ?_
  refine t_seq ?_
  refine t_block ?_
  refine tsr ?_
  refine r_op (oF 1) ?_
  refine r_op oL ?_
  refine r_op oM ?_
  obtain ⟨z2, hz3, b4⟩ := at_get (xs := l) (n := (m : Int)) (by omega) (by omega)
  refine r_op (o_index rfl (by kernel_rfl) rfl rfl b4 hz3) ?_
  refine r_op (o_loadA rfl (n := 2) (by kernel_rfl) (by kernel_rfl) rfl rfl) ?_
  refine r_op (o_alloc 1 (zs := [.int .i64 (0), .slice none 0 0]) rfl rfl (by kernel_rfl) rfl) ?_
  refine r_op (oS 2) ?_
  refine r_end ?_
  refine t_seq ?_
  refine t_draw (fun _ => true) (by kernel_rfl) ?_
  refine dT 0 rfl (pF 0) ?_
  refine dT 1 rfl pL ?_
  refine dT 2 rfl (pC 2) ?_
  refine dO 3 rfl (o_call 2 2 false (Go.Proofs.enters_of Try.func25 (by kernel_rfl) rfl) (c_spec_IsValidFact (rs) (z2.1) (z2.2) (by omega) (by (have e1 := sz_at (f := (fun (x : Int × (List (Int))) => (x.2).length)) (l := l) (m := m) (by assumption); (try dsimp only at e1); omega)) (by exact ho _ (List.mem_of_getElem? (by assumption)))) rfl (.cons rfl (.c .t0) (.cons rfl (.agg (.cons .t0 (.cons .t0 .nil))) .nil)) rfl rfl rfl) ?_
  refine dT 4 rfl (p_not rfl) ?_
  refine dT 5 rfl pM ?_
  refine dH 6 rfl (fun _ => pM) (fun g5 => ?_) (fun g5 => ?_)
  ·
   have g5' := (bnf g5)
   refine dH 7 rfl (fun _ => pB) (fun _ => ?_) (ncf g5)
   refine dH 8 rfl (fun _ => pM) (fun _ => ?_) (ncf g5)
   refine dH 9 rfl (fun _ => pF 1) (fun g6 => ?_) (fun g6 => ?_)
   ·
    have g6' := of_decide_eq_true g6
    refine dH 10 rfl (fun _ => pL) (fun _ => ?_) (nc g6)
    refine dH 11 rfl (fun _ => pM) (fun _ => ?_) (nc g6)
    refine dH 12 rfl (fun _ => pB) (fun _ => ?_) (nc g6)
    obtain ⟨z7, hz8, b9⟩ := at_get (xs := l) (n := IntKind.i64.wrap ((m : Int) - 1)) (by (simp only [IntKind.wrap_i64] at *; omega)) (by (simp only [IntKind.wrap_i64] at *; omega))
    refine dH 13 rfl (fun _ => p_index (by kernel_rfl) rfl rfl b9 hz8) (fun _ => ?_) (nc g6)
    refine dH 14 rfl (fun _ => p_loadA (n := 2) (by kernel_rfl) (by kernel_rfl) rfl rfl) (fun _ => ?_) (nc g6)
    refine dH 15 rfl (fun _ => pC 2) (fun _ => ?_) (nc g6)
    refine d_onlyG 16 rfl rfl (by kernel_rfl) rfl rfl rfl (fun _ => (o_call 2 2 false (Go.Proofs.enters_of Try.func26 (by kernel_rfl) rfl) (c_spec_CompareFacts (z7.1) (z7.2) (z2.1) (z2.2) (by (have e1 := sz_at (f := (fun (x : Int × (List (Int))) => (x.2).length)) (l := l) (m := (IntKind.i64.wrap ((m : Int) - 1)).toNat) (by assumption); (try dsimp only at e1); omega)) (by (have e1 := sz_at (f := (fun (x : Int × (List (Int))) => (x.2).length)) (l := l) (m := m) (by assumption); (try dsimp only at e1); omega))) rfl (.cons rfl (.agg (.cons .t0 (.cons .t0 .nil))) (.cons rfl (.agg (.cons .t0 (.cons .t0 .nil))) .nil)) rfl rfl rfl)) (fun _ => ?_) (nc g6)
    refine dH 17 rfl (fun _ => pB) (fun _ => ?_) (nc g6)
    refine dH 18 rfl (fun _ => p_pickT rfl g6 rfl) (fun _ => ?_) (ncf g5)
    refine dT 19 rfl (p_pickF rfl g5 rfl) ?_
    refine dT 20 rfl pM ?_
    refine dH 21 rfl (fun _ => pF 0) (fun g10 => ?_) (fun g10 => ?_)
    ·
     have g10' := of_decide_eq_false g10
     refine dH 22 rfl (fun _ => pL) (fun _ => ?_) (ncf g10)
     refine dH 23 rfl (fun _ => pF 0) (fun _ => ?_) (ncf g10)
     refine dH 24 rfl (fun _ => pL) (fun _ => ?_) (ncf g10)
     obtain ⟨z11, hz12, b13⟩ := at_get (xs := rs) (n := z2.1) (by exact (fact_idx (by assumption)).1) (by exact (fact_idx (by assumption)).2)
     refine dH 25 rfl (fun _ => p_index (by kernel_rfl) rfl rfl b13 hz12) (fun _ => ?_) (ncf g10)
     refine dH 26 rfl (fun _ => p_field (off := 2) (by kernel_rfl) rfl) (fun _ => ?_) (ncf g10)
     refine dH 27 rfl (fun _ => p_load1 (by kernel_rfl) rfl rfl) (fun _ => ?_) (ncf g10)
     refine dH 28 rfl (fun _ => pM) (fun _ => ?_) (ncf g10)
     refine dH 29 rfl (fun _ => pC 2) (fun g14 => ?_) (fun g14 => ?_)
     ·
      have g14' := g14
      refine d_onlyG 30 rfl rfl (by kernel_rfl) rfl rfl rfl (fun _ => (o_call 2 4 false (Go.Proofs.enters_of Try.func23 (by kernel_rfl) rfl) (c_spec_NullsOfFact (z2.1) (z2.2) (by (have e1 := sz_at (f := (fun (x : Int × (List (Int))) => (x.2).length)) (l := l) (m := m) (by assumption); (try dsimp only at e1); omega)) (by exact ho _ (List.mem_of_getElem? (by assumption)))) rfl (.cons rfl (.agg (.cons .t0 (.cons .t0 .nil))) .nil) rfl rfl rfl)) (fun _ => ?_) (nc g14)
      refine dH 31 rfl (fun _ => p_leno rfl rfl rfl) (fun _ => ?_) (nc g14)
      refine dH 32 rfl (fun _ => pB) (fun _ => ?_) (nc g14)
      refine dH 33 rfl (fun _ => p_pickT rfl g14 rfl) (fun _ => ?_) (ncf g10)
      refine dT 34 rfl (p_pickF rfl g10 rfl) ?_
      refine d_end (by kernel_rfl) ?_
      refine t_cond rfl (fun h15 => ?_) (fun h15 => ?_)
      ·
       have h15' := of_decide_eq_true h15
       refine tsr ?_
       refine r_op oA ?_
       refine r_end ?_
       refine t_ret Try.func12 (.tmp rfl .nil) rfl fun E S w u hI hd => ?_
       refine post_mk hI hd ?_ trivial rfl rfl rfl <;> clear hI hd <;> (try clear ih0)
       all_goals (refine scB ?_; (rw [instOk_not (rs := rs) (l := l) (m := m) (by omega) (by (try (have qb := instStep_bad (rs := rs) (l := l) (m := m) hz3 (by assumption))); (try (have qz := instStep_zero (rs := rs) (l := l) (m := m) hz3 (by omega))); (try (have qp := instStep_pos (rs := rs) (l := l) (m := m) hz3 (by omega) hz8 (by simp only [IntKind.wrap_i64]; omega))); (try (have qS := srcA_at (rs := rs) (r := z2.1) (ts := z2.2) hz8)); (try (have qT := srcA_at (rs := rs) (r := z2.1) (ts := z2.2) hz12)); clear hl gl ho hrs; grind)]; done))
      ·
       have h15' := of_decide_eq_false h15
       refine t_skip ?_
       refine t_endblock ?_
       refine t_region ?_
       refine r_op oM ?_
       refine r_op oB ?_
       refine r_op oA ?_
       refine r_end ?_
       refine t_le ?_ (ih0 (m + 1) (by (try dsimp only); omega) (by (try dsimp only); exact ⟨by omega, step_all i2 (by (try (have qb := instStep_bad (rs := rs) (l := l) (m := m) hz3 (by assumption))); (try (have qz := instStep_zero (rs := rs) (l := l) (m := m) hz3 (by omega))); (try (have qp := instStep_pos (rs := rs) (l := l) (m := m) hz3 (by omega) hz8 (by simp only [IntKind.wrap_i64]; omega))); (try (have qS := srcA_at (rs := rs) (r := z2.1) (ts := z2.2) hz8)); (try (have qT := srcA_at (rs := rs) (r := z2.1) (ts := z2.2) hz12)); clear hl gl ho hrs; grind)⟩))
       exact ⟨⟨rfl, ⟨(eqI (wr64 (by omega) (by omega))), trivial⟩⟩, ⟨rfl, trivial⟩, rfl⟩
     ·
      have g14' := g14
      refine dG 30 (ncf g14) (fun _ => ?_)
      refine dG 31 (ncf g14) (fun _ => ?_)
      refine dG 32 (ncf g14) (fun _ => ?_)
      refine dH 33 rfl (fun _ => p_pickF rfl g14 rfl) (fun _ => ?_) (ncf g10)
      refine dT 34 rfl (p_pickF rfl g10 rfl) ?_
      refine d_end (by kernel_rfl) ?_
      refine t_cond rfl (ncf rfl) (fun _ => ?_)
      refine t_skip ?_
      refine t_endblock ?_
      refine t_region ?_
      refine r_op oM ?_
      refine r_op oB ?_
      refine r_op oA ?_
      refine r_end ?_
      refine t_le ?_ (ih0 (m + 1) (by (try dsimp only); omega) (by (try dsimp only); exact ⟨by omega, step_all i2 (by (try (have qb := instStep_bad (rs := rs) (l := l) (m := m) hz3 (by assumption))); (try (have qz := instStep_zero (rs := rs) (l := l) (m := m) hz3 (by omega))); (try (have qp := instStep_pos (rs := rs) (l := l) (m := m) hz3 (by omega) hz8 (by simp only [IntKind.wrap_i64]; omega))); (try (have qS := srcA_at (rs := rs) (r := z2.1) (ts := z2.2) hz8)); (try (have qT := srcA_at (rs := rs) (r := z2.1) (ts := z2.2) hz12)); clear hl gl ho hrs; grind)⟩))
      exact ⟨⟨rfl, ⟨(eqI (wr64 (by omega) (by omega))), trivial⟩⟩, ⟨rfl, trivial⟩, rfl⟩
    ·
     have g10' := of_decide_eq_true g10
     refine dG 22 (nc g10) (fun _ => ?_)
     refine dG 23 (nc g10) (fun _ => ?_)
     refine dG 24 (nc g10) (fun _ => ?_)
     refine dG 25 (nc g10) (fun _ => ?_)
     refine dG 26 (nc g10) (fun _ => ?_)
     refine dG 27 (nc g10) (fun _ => ?_)
     refine dG 28 (nc g10) (fun _ => ?_)
     refine dK 29 ?_
     refine dK 30 ?_
     refine dK 31 ?_
     refine dK 32 ?_
     refine dG 33 (nc g10) (fun _ => ?_)
     refine dT 34 rfl (p_pickT rfl g10 rfl) ?_
     refine d_end (by kernel_rfl) ?_
     refine t_cond rfl (fun _ => ?_) (nc rfl)
     refine tsr ?_
     refine r_op oA ?_
     refine r_end ?_
     refine t_ret Try.func12 (.tmp rfl .nil) rfl fun E S w u hI hd => ?_
     refine post_mk hI hd ?_ trivial rfl rfl rfl <;> clear hI hd <;> (try clear ih0)
     all_goals (refine scB ?_; (rw [instOk_not (rs := rs) (l := l) (m := m) (by omega) (by (try (have qb := instStep_bad (rs := rs) (l := l) (m := m) hz3 (by assumption))); (try (have qz := instStep_zero (rs := rs) (l := l) (m := m) hz3 (by omega))); (try (have qp := instStep_pos (rs := rs) (l := l) (m := m) hz3 (by omega) hz8 (by simp only [IntKind.wrap_i64]; omega))); (try (have qS := srcA_at (rs := rs) (r := z2.1) (ts := z2.2) hz8)); (try (have qT := srcA_at (rs := rs) (r := z2.1) (ts := z2.2) (by assumption))); clear hl gl ho hrs; grind)]; done))
   ·
    have g6' := of_decide_eq_false g6
    refine dG 10 (ncf g6) (fun _ => ?_)
    refine dG 11 (ncf g6) (fun _ => ?_)
    refine dG 12 (ncf g6) (fun _ => ?_)
    refine dG 13 (ncf g6) (fun _ => ?_)
    refine dG 14 (ncf g6) (fun _ => ?_)
    refine dG 15 (ncf g6) (fun _ => ?_)
    refine dG 16 (ncf g6) (fun _ => ?_)
    refine dG 17 (ncf g6) (fun _ => ?_)
    refine dH 18 rfl (fun _ => p_pickF rfl g6 rfl) (fun _ => ?_) (ncf g5)
    refine dT 19 rfl (p_pickF rfl g5 rfl) ?_
    refine dT 20 rfl pM ?_
    refine dH 21 rfl (fun _ => pF 0) (fun _ => ?_) (ncf rfl)
    refine dH 22 rfl (fun _ => pL) (fun _ => ?_) (ncf rfl)
    refine dH 23 rfl (fun _ => pF 0) (fun _ => ?_) (ncf rfl)
    refine dH 24 rfl (fun _ => pL) (fun _ => ?_) (ncf rfl)
    obtain ⟨z16, hz17, b18⟩ := at_get (xs := rs) (n := z2.1) (by exact (fact_idx (by assumption)).1) (by exact (fact_idx (by assumption)).2)
    refine dH 25 rfl (fun _ => p_index (by kernel_rfl) rfl rfl b18 hz17) (fun _ => ?_) (ncf rfl)
    refine dH 26 rfl (fun _ => p_field (off := 2) (by kernel_rfl) rfl) (fun _ => ?_) (ncf rfl)
    refine dH 27 rfl (fun _ => p_load1 (by kernel_rfl) rfl rfl) (fun _ => ?_) (ncf rfl)
    refine dH 28 rfl (fun _ => pM) (fun _ => ?_) (ncf rfl)
    refine dH 29 rfl (fun _ => pC 2) (fun g19 => ?_) (fun g19 => ?_)
    ·
     have g19' := g19
     refine d_onlyG 30 rfl rfl (by kernel_rfl) rfl rfl rfl (fun _ => (o_call 2 4 false (Go.Proofs.enters_of Try.func23 (by kernel_rfl) rfl) (c_spec_NullsOfFact (z2.1) (z2.2) (by (have e1 := sz_at (f := (fun (x : Int × (List (Int))) => (x.2).length)) (l := l) (m := m) (by assumption); (try dsimp only at e1); omega)) (by exact ho _ (List.mem_of_getElem? (by assumption)))) rfl (.cons rfl (.agg (.cons .t0 (.cons .t0 .nil))) .nil) rfl rfl rfl)) (fun _ => ?_) (nc g19)
     refine dH 31 rfl (fun _ => p_leno rfl rfl rfl) (fun _ => ?_) (nc g19)
     refine dH 32 rfl (fun _ => pB) (fun _ => ?_) (nc g19)
     refine dH 33 rfl (fun _ => p_pickT rfl g19 rfl) (fun _ => ?_) (ncf rfl)
     refine dT 34 rfl (p_pickF rfl rfl rfl) ?_
     refine d_end (by kernel_rfl) ?_
     refine t_cond rfl (fun h20 => ?_) (fun h20 => ?_)
     ·
      have h20' := of_decide_eq_true h20
      refine tsr ?_
      refine r_op oA ?_
      refine r_end ?_
      refine t_ret Try.func12 (.tmp rfl .nil) rfl fun E S w u hI hd => ?_
      refine post_mk hI hd ?_ trivial rfl rfl rfl <;> clear hI hd <;> (try clear ih0)
      all_goals (refine scB ?_; (rw [instOk_not (rs := rs) (l := l) (m := m) (by omega) (by (try (have qb := instStep_bad (rs := rs) (l := l) (m := m) hz3 (by assumption))); (try (have qz := instStep_zero (rs := rs) (l := l) (m := m) hz3 (by omega))); (try (have qp := instStep_pos (rs := rs) (l := l) (m := m) hz3 (by omega) hz17 (by simp only [IntKind.wrap_i64]; omega))); (try (have qS := srcA_at (rs := rs) (r := z2.1) (ts := z2.2) hz17)); (try (have qT := srcA_at (rs := rs) (r := z2.1) (ts := z2.2) (by assumption))); clear hl gl ho hrs; grind)]; done))
     ·
      have h20' := of_decide_eq_false h20
      refine t_skip ?_
      refine t_endblock ?_
      refine t_region ?_
      refine r_op oM ?_
      refine r_op oB ?_
      refine r_op oA ?_
      refine r_end ?_
      refine t_le ?_ (ih0 (m + 1) (by (try dsimp only); omega) (by (try dsimp only); exact ⟨by omega, step_all i2 (by (try (have qb := instStep_bad (rs := rs) (l := l) (m := m) hz3 (by assumption))); (try (have qz := instStep_zero (rs := rs) (l := l) (m := m) hz3 (by omega))); (try (have qp := instStep_pos (rs := rs) (l := l) (m := m) hz3 (by omega) hz17 (by simp only [IntKind.wrap_i64]; omega))); (try (have qS := srcA_at (rs := rs) (r := z2.1) (ts := z2.2) hz17)); (try (have qT := srcA_at (rs := rs) (r := z2.1) (ts := z2.2) (by assumption))); clear hl gl ho hrs; grind)⟩))
      exact ⟨⟨rfl, ⟨(eqI (wr64 (by omega) (by omega))), trivial⟩⟩, ⟨rfl, trivial⟩, rfl⟩
    ·
     have g19' := g19
     refine dG 30 (ncf g19) (fun _ => ?_)
     refine dG 31 (ncf g19) (fun _ => ?_)
     refine dG 32 (ncf g19) (fun _ => ?_)
     refine dH 33 rfl (fun _ => p_pickF rfl g19 rfl) (fun _ => ?_) (ncf rfl)
     refine dT 34 rfl (p_pickF rfl rfl rfl) ?_
     refine d_end (by kernel_rfl) ?_
     refine t_cond rfl (ncf rfl) (fun _ => ?_)
     refine t_skip ?_
     refine t_endblock ?_
     refine t_region ?_
     refine r_op oM ?_
     refine r_op oB ?_
     refine r_op oA ?_
     refine r_end ?_
     refine t_le ?_ (ih0 (m + 1) (by (try dsimp only); omega) (by (try dsimp only); exact ⟨by omega, step_all i2 (by (try (have qb := instStep_bad (rs := rs) (l := l) (m := m) hz3 (by assumption))); (try (have qz := instStep_zero (rs := rs) (l := l) (m := m) hz3 (by omega))); (try (have qp := instStep_pos (rs := rs) (l := l) (m := m) hz3 (by omega) hz17 (by simp only [IntKind.wrap_i64]; omega))); (try (have qS := srcA_at (rs := rs) (r := z2.1) (ts := z2.2) hz17)); (try (have qT := srcA_at (rs := rs) (r := z2.1) (ts := z2.2) (by assumption))); clear hl gl ho hrs; grind)⟩))
     exact ⟨⟨rfl, ⟨(eqI (wr64 (by omega) (by omega))), trivial⟩⟩, ⟨rfl, trivial⟩, rfl⟩
  ·
   have g5' := (bnt g5)
   refine dG 7 (nc g5) (fun _ => ?_)
   refine dG 8 (nc g5) (fun _ => ?_)
   refine dK 9 ?_
   refine dK 10 ?_
   refine dK 11 ?_
   refine dK 12 ?_
   refine dK 13 ?_
   refine dK 14 ?_
   refine dK 15 ?_
   refine dK 16 ?_
   refine dK 17 ?_
   refine dG 18 (nc g5) (fun _ => ?_)
   refine dT 19 rfl (p_pickT rfl g5 rfl) ?_
   refine dT 20 rfl pM ?_
   refine dG 21 (nc rfl) (fun _ => ?_)
   refine dG 22 (nc rfl) (fun _ => ?_)
   refine dG 23 (nc rfl) (fun _ => ?_)
   refine dG 24 (nc rfl) (fun _ => ?_)
   refine dG 25 (nc rfl) (fun _ => ?_)
   refine dG 26 (nc rfl) (fun _ => ?_)
   refine dG 27 (nc rfl) (fun _ => ?_)
   refine dG 28 (nc rfl) (fun _ => ?_)
   refine dK 29 ?_
   refine dK 30 ?_
   refine dK 31 ?_
   refine dK 32 ?_
   refine dG 33 (nc rfl) (fun _ => ?_)
   refine dT 34 rfl (p_pickT rfl rfl rfl) ?_
   refine d_end (by kernel_rfl) ?_
   refine t_cond rfl (fun _ => ?_) (nc rfl)
   refine tsr ?_
   refine r_op oA ?_
   refine r_end ?_
   refine t_ret Try.func12 (.tmp rfl .nil) rfl fun E S w u hI hd => ?_
   refine post_mk hI hd ?_ trivial rfl rfl rfl <;> clear hI hd <;> (try clear ih0)
   all_goals (refine scB ?_; (rw [instOk_not (rs := rs) (l := l) (m := m) (by omega) (by (try (have qb := instStep_bad (rs := rs) (l := l) (m := m) hz3 (by assumption))); (try (have qz := instStep_zero (rs := rs) (l := l) (m := m) hz3 (by omega))); (try (have qp := instStep_pos (rs := rs) (l := l) (m := m) hz3 (by omega) (by assumption) (by simp only [IntKind.wrap_i64]; omega))); (try (have qS := srcA_at (rs := rs) (r := z2.1) (ts := z2.2) (by assumption))); (try (have qT := srcA_at (rs := rs) (r := z2.1) (ts := z2.2) (by assumption))); clear hl gl ho hrs; grind)]; done))
 ·
  have h1' := of_decide_eq_false h1
  refine t_exit rfl ?_
  refine tsr ?_
  refine r_op (oF 0) ?_
  refine r_op oL ?_
  refine r_op (o_call 1 1 false (Go.Proofs.enters_of Try.func27 (by kernel_rfl) rfl) (c_spec_AreValidRelations (rs) (by omega)) rfl (.cons rfl (.c .t0) .nil) rfl rfl rfl) ?_
  refine r_op oM ?_
  refine r_guard rfl rfl rfl (fun g21 => ?_) (fun g21 => ?_)
  ·
   have g21' := g21
   refine r_op (oF 1) ?_
   refine r_guard rfl rfl rfl (fun _ => ?_) (nc g21)
   refine r_op oL ?_
   refine r_guard rfl rfl rfl (fun _ => ?_) (nc g21)
   refine r_op (o_len rfl rfl rfl) ?_
   refine r_guard rfl rfl rfl (fun _ => ?_) (nc g21)
   refine r_op oB ?_
   refine r_op (o_pickT rfl rfl g21 rfl) ?_
   refine r_op oA ?_
   refine r_end ?_
   refine t_ret Try.func12 (.tmp rfl .nil) rfl fun E S w u hI hd => ?_
   refine post_mk hI hd ?_ trivial rfl rfl rfl <;> clear hI hd <;> (try clear ih0)
   all_goals (refine scB ?_; (rw [instOk_end (m := m) i2 (by omega)]; clear hl gl ho hrs; grind))
  ·
   have g21' := g21
   refine r_guard rfl rfl rfl (ncf g21) (fun _ => ?_)
   refine r_guard rfl rfl rfl (ncf g21) (fun _ => ?_)
   refine r_guard rfl rfl rfl (ncf g21) (fun _ => ?_)
   refine r_op (o_pickF rfl rfl g21 rfl) ?_
   refine r_op oA ?_
   refine r_end ?_
   refine t_ret Try.func12 (.tmp rfl .nil) rfl fun E S w u hI hd => ?_
   refine post_mk hI hd ?_ trivial rfl rfl rfl <;> clear hI hd <;> (try clear ih0)
   all_goals (refine scB ?_; (rw [instOk_end (m := m) i2 (by omega)]; clear hl gl ho hrs; grind))
set_option maxHeartbeats 1000000 in
set_option maxRecDepth 10000 in
theorem c_spec_IsGround (rs : Rels) (l : Atoms) (hrs : rs.length ≤ 4611686018427387904) (hl : szS (fun (x : Int × (List (Int))) => (x.2).length) l ≤ 1048576) (ho : ∀ z ∈ l, ∀ x ∈ z.2, okI x) : Pu Try.prog 11 [.agg [.t none (.sl 3 (enS3 encS encI encB) (rs)), .t none (.sl 2 (enS2 encI (enSl 1 encI)) (l))]] [] 0 (.c (.t none (.v (.bool (instOk rs l && decide ((((setI (nulV (flatT l))).length : Nat) : Int) = 0)))))) := by
 refine pu_enter Try.func11 rfl (Nat.le_of_ble_eq_true rfl) fun w S => ?_
 have gl := sz_len (f := (fun (x : Int × (List (Int))) => (x.2).length)) (l := l)
 refine tsr ?_
 refine r_op (o_box 0 rfl rfl rfl rfl) ?_
 refine r_op oA ?_
 refine etr ?_
 refine r_op (oC 2) ?_
 refine r_op (o_call 1 1 false (Go.Proofs.enters_of Try.func12 (by kernel_rfl) rfl) (c_spec_IsValidInstance (rs) (l) (by omega) (by omega) (by omega)) rfl (.cons rfl (.agg (.cons .t0 (.cons .t0 .nil))) .nil) rfl rfl rfl) ?_
 refine r_op oM ?_
 refine r_guard rfl rfl rfl (fun g1 => ?_) (fun g1 => ?_)
 ·
  have g1' := g1
  refine r_op (oC 2) ?_
  refine r_guard rfl rfl rfl (fun _ => ?_) (nc g1)
  refine r_op (o_call 1 3 false (Go.Proofs.enters_of Try.func9 (by kernel_rfl) rfl) (c_spec_NullsOfInstance (rs) (l) (by omega) (by omega)) rfl (.cons rfl (.agg (.cons .t0 (.cons .t0 .nil))) .nil) rfl rfl rfl) ?_
  refine r_guard rfl rfl rfl (fun _ => ?_) (nc g1)
  refine r_op (o_leno rfl rfl rfl rfl) ?_
  refine r_guard rfl rfl rfl (fun _ => ?_) (nc g1)
  refine r_op oB ?_
  refine r_op (o_pickT rfl rfl g1 rfl) ?_
  refine r_op oA ?_
  refine r_end ?_
  refine t_ret Try.func11 (.tmp rfl .nil) rfl fun E S w u hI hd => ?_
  refine post_mk hI hd ?_ trivial rfl rfl rfl <;> clear hI hd
  all_goals (refine scB ?_; (clear hl gl ho hrs; grind))
 ·
  have g1' := g1
  refine r_guard rfl rfl rfl (ncf g1) (fun _ => ?_)
  refine r_guard rfl rfl rfl (ncf g1) (fun _ => ?_)
  refine r_guard rfl rfl rfl (ncf g1) (fun _ => ?_)
  refine r_op (o_pickF rfl rfl g1 rfl) ?_
  refine r_op oA ?_
  refine r_end ?_
  refine t_ret Try.func11 (.tmp rfl .nil) rfl fun E S w u hI hd => ?_
  refine post_mk hI hd ?_ trivial rfl rfl rfl <;> clear hI hd
  all_goals (refine scB ?_; (clear hl gl ho hrs; grind))
set_option maxHeartbeats 1000000 in
set_option maxRecDepth 10000 in
theorem c_spec_DrawIsSubset (code : List Int) (hc : code.length ≤ 1048576) : PuG Try.prog 13 [.c (.t none (.sl 1 encU (code)))] (fun (⟨rs, fs, rs2, fs2⟩ : Rels × Atoms × Rels × Atoms) => instL rs fs ∧ instL rs2 fs2) (fun (⟨rs, fs, rs2, fs2⟩ : Rels × Atoms × Rels × Atoms) => []) 0 (fun (⟨rs, fs, rs2, fs2⟩ : Rels × Atoms × Rels × Atoms) => .tup [(true, [.t none (.sl 3 (enS3 encS encI encB) (rs)), .t none (.sl 2 (enS2 encI (enSl 1 encI)) (fs))]), (true, [.t none (.sl 3 (enS3 encS encI encB) (rs2)), .t none (.sl 2 (enS2 encI (enSl 1 encI)) (fs2))])]) := by
 refine pu_enterG Try.func13 rfl (Nat.le_of_ble_eq_true rfl) fun w S => ?_
 refine tsr ?_
 refine r_op (o_alloc 0 (zs := [.slice none 0 0, .slice none 0 0]) rfl rfl (by kernel_rfl) rfl) ?_
 refine r_op (o_alloc 1 (zs := [.slice none 0 0, .slice none 0 0]) rfl rfl (by kernel_rfl) rfl) ?_
 refine etr ?_
 refine r_op oM ?_
 refine r_opX (o_callG 2 3 (Go.Proofs.enters_of Try.func17 (by kernel_rfl) rfl) (c_spec_l1New (code) (by omega)) rfl (.cons rfl (.c .t0) .nil) rfl rfl) ?_
 rintro ⟨h1, hq2⟩
 try dsimp only at hq2
 try dsimp only
 refine r_op oA ?_
 refine etr ?_
 refine r_op oM ?_
 refine r_opX (o_callGM 2 3 4 (pv := none) (Go.Proofs.enters_of Try.func16 (by kernel_rfl) rfl) (c_spec_l5Any ((code)) (0) ((h1)) (by omega) (by omega) (by omega)) rfl rfl (.cur rfl .nil) rfl (fun ⟨_, _, _, _⟩ => rfl) (fun _ => rfl) (fun ⟨_, _, _, _⟩ => rfl) rfl rfl) ?_
 rintro ⟨⟨rs4, fs5, i26, h27⟩, hq8⟩
 try dsimp only at hq8
 try dsimp only
 obtain ⟨q9, q10⟩ := hq8
 have dd : instL rs4 fs5 := (by assumption); have d1 := dd.1; have d3 := dd.2.2.1; have ds1 := szF_L dd.2.2.2
 refine r_op (o_alloc 4 (zs := [.slice none 0 0, .slice none 0 0]) rfl rfl (by kernel_rfl) rfl) ?_
 refine r_op (oS 2) ?_
 refine etr ?_
 refine r_op (oC 2) ?_
 refine r_op (o_call 5 10 false (Go.Proofs.enters_of Try.func28 (by kernel_rfl) rfl) (c_spec_l5Copy ((rs4)) ((fs5)) (by omega) (by omega)) rfl (.cons rfl (.agg (.cons .t0 (.cons .t0 .nil))) .nil) rfl rfl rfl) ?_
 refine r_op (o_alloc 10 (zs := [.slice none 0 0, .slice none 0 0]) rfl rfl (by kernel_rfl) rfl) ?_
 refine r_op (oS 2) ?_
 refine r_end ?_
 refine t_seq ?_
 refine tsr ?_
 refine r_op (oF 1) ?_
 refine r_op oL ?_
 refine r_op (o_leno rfl rfl rfl rfl) ?_
 refine r_op oB ?_
 refine r_op oM ?_
 refine r_guard rfl rfl rfl (fun g11 => ?_) (fun g11 => ?_)
 ·
  have g11' := of_decide_eq_true g11
  refine r_op oM ?_
  refine r_guard rfl rfl rfl (fun _ => ?_) (nc g11)
  refine r_opX (o_callGM 2 11 12 (pv := none) (Go.Proofs.enters_of Try.func29 (by kernel_rfl) rfl) (c_spec_l1Once (((code))) ((i26)) ((h27)) (2) (by omega) (by omega) (by omega) (by omega) (by omega)) rfl rfl (.cur rfl (.cons rfl .nil)) rfl (fun ⟨_, _, _⟩ => rfl) (fun _ => rfl) (fun ⟨_, _, _⟩ => rfl) rfl rfl) ?_
  rintro ⟨⟨b12, i213, h214⟩, hq15⟩
  try dsimp only at hq15
  try dsimp only
  refine r_op (o_pickT rfl rfl g11 rfl) ?_
  refine r_end ?_
  refine t_cond rfl (fun h17 => ?_) (fun h17 => ?_)
  ·
   have h17' := h17
   refine t_region ?_
   refine r_op (oF 1) ?_
   refine r_op oL ?_
   refine r_op (o_subo rfl (by kernel_rfl) rfl rfl (.l rfl (by omega) (by omega))) ?_
   refine r_op (oF 1) ?_
   refine r_op (oS 1) ?_
   refine r_end ?_
   refine t_seq ?_
   refine t_draw (fun i => !(Nat.beq i 2 || Nat.beq i 3)) (by kernel_rfl) ?_
   refine dT 0 rfl (pC 2) ?_
   refine d_two 1 2 rfl rfl (by kernel_rfl) rfl rfl (oC 2) (oS 2) ?_ ?_
   ·
    refine dO 2 rfl (oS 2) ?_
    refine dO 3 rfl (oS 2) ?_
    refine d_end (by kernel_rfl) ?_
    refine gt_freeze 9 rfl (frz_pu rfl) ?_
    refine gt_freeze 7 rfl (frz_pu rfl) ?_
    refine t_ret Try.func13 (.cells (n := 2) (by kernel_rfl) (by kernel_rfl) rfl rfl rfl (.cells (n := 2) (by kernel_rfl) (by kernel_rfl) rfl rfl rfl .nil)) rfl fun E S w u hI hd => ?_
    refine post_mkG (⟨((rs4)), ((((fs5))).take (((fs5))).length).drop ((1 : Int)).toNat, (rs4), (fs5)⟩) ?_ hI hd ?_ trivial rfl rfl <;> clear hI hd
    · (try dsimp only) <;> ((exact ⟨⟨d1, dd.2.1, (by simp only [List.length_drop, List.length_take]; omega), fun a ha => dd.2.2.2 a (List.mem_of_mem_take (List.mem_of_mem_drop ha))⟩, dd⟩))
    · rfl
   ·
    refine dT 1 rfl (pC 2) ?_
    refine dO 3 rfl (oS 2) ?_
    refine d_end (by kernel_rfl) ?_
    refine gt_freeze 9 rfl (frz_pu rfl) ?_
    refine gt_freeze 7 rfl (frz_pu rfl) ?_
    refine t_ret Try.func13 (.cells (n := 2) (by kernel_rfl) (by kernel_rfl) rfl rfl rfl (.cells (n := 2) (by kernel_rfl) (by kernel_rfl) rfl rfl rfl .nil)) rfl fun E S w u hI hd => ?_
    refine post_mkG (⟨((rs4)), ((((fs5))).take (((fs5))).length).drop ((1 : Int)).toNat, (rs4), (fs5)⟩) ?_ hI hd ?_ trivial rfl rfl <;> clear hI hd
    · (try dsimp only) <;> ((exact ⟨⟨d1, dd.2.1, (by simp only [List.length_drop, List.length_take]; omega), fun a ha => dd.2.2.2 a (List.mem_of_mem_take (List.mem_of_mem_drop ha))⟩, dd⟩))
    · rfl
  ·
   have h17' := h17
   refine t_skip ?_
   refine t_seq ?_
   refine t_draw (fun i => !(Nat.beq i 2 || Nat.beq i 3)) (by kernel_rfl) ?_
   refine dT 0 rfl (pC 2) ?_
   refine d_two 1 2 rfl rfl (by kernel_rfl) rfl rfl (oC 2) (oS 2) ?_ ?_
   ·
    refine dO 2 rfl (oS 2) ?_
    refine dO 3 rfl (oS 2) ?_
    refine d_end (by kernel_rfl) ?_
    refine gt_freeze 7 rfl (frz_pu rfl) ?_
    refine gt_freeze 9 rfl (frz_pu rfl) ?_
    refine t_ret Try.func13 (.cells (n := 2) (by kernel_rfl) (by kernel_rfl) rfl rfl rfl (.cells (n := 2) (by kernel_rfl) (by kernel_rfl) rfl rfl rfl .nil)) rfl fun E S w u hI hd => ?_
    refine post_mkG (⟨((rs4)), ((fs5)), (rs4), (fs5)⟩) ?_ hI hd ?_ trivial rfl rfl <;> clear hI hd
    · (try dsimp only) <;> ((exact ⟨dd, dd⟩))
    · rfl
   ·
    refine dT 1 rfl (pC 2) ?_
    refine dO 3 rfl (oS 2) ?_
    refine d_end (by kernel_rfl) ?_
    refine gt_freeze 7 rfl (frz_pu rfl) ?_
    refine gt_freeze 9 rfl (frz_pu rfl) ?_
    refine t_ret Try.func13 (.cells (n := 2) (by kernel_rfl) (by kernel_rfl) rfl rfl rfl (.cells (n := 2) (by kernel_rfl) (by kernel_rfl) rfl rfl rfl .nil)) rfl fun E S w u hI hd => ?_
    refine post_mkG (⟨((rs4)), ((fs5)), (rs4), (fs5)⟩) ?_ hI hd ?_ trivial rfl rfl <;> clear hI hd
    · (try dsimp only) <;> ((exact ⟨dd, dd⟩))
    · rfl
 ·
  have g11' := of_decide_eq_false g11
  refine r_guard rfl rfl rfl (ncf g11) (fun _ => ?_)
  refine r_op (o_pickF rfl rfl g11 rfl) ?_
  refine r_end ?_
  refine t_cond rfl (ncf rfl) (fun _ => ?_)
  refine t_skip ?_
  refine t_seq ?_
  refine t_draw (fun i => !(Nat.beq i 2 || Nat.beq i 3)) (by kernel_rfl) ?_
  refine dT 0 rfl (pC 2) ?_
  refine d_two 1 2 rfl rfl (by kernel_rfl) rfl rfl (oC 2) (oS 2) ?_ ?_
  ·
   refine dO 2 rfl (oS 2) ?_
   refine dO 3 rfl (oS 2) ?_
   refine d_end (by kernel_rfl) ?_
   refine gt_freeze 7 rfl (frz_pu rfl) ?_
   refine gt_freeze 9 rfl (frz_pu rfl) ?_
   refine t_ret Try.func13 (.cells (n := 2) (by kernel_rfl) (by kernel_rfl) rfl rfl rfl (.cells (n := 2) (by kernel_rfl) (by kernel_rfl) rfl rfl rfl .nil)) rfl fun E S w u hI hd => ?_
   refine post_mkG (⟨((rs4)), ((fs5)), (rs4), (fs5)⟩) ?_ hI hd ?_ trivial rfl rfl <;> clear hI hd
   · (try dsimp only) <;> ((exact ⟨dd, dd⟩))
   · rfl
  ·
   refine dT 1 rfl (pC 2) ?_
   refine dO 3 rfl (oS 2) ?_
   refine d_end (by kernel_rfl) ?_
   refine gt_freeze 7 rfl (frz_pu rfl) ?_
   refine gt_freeze 9 rfl (frz_pu rfl) ?_
   refine t_ret Try.func13 (.cells (n := 2) (by kernel_rfl) (by kernel_rfl) rfl rfl rfl (.cells (n := 2) (by kernel_rfl) (by kernel_rfl) rfl rfl rfl .nil)) rfl fun E S w u hI hd => ?_
   refine post_mkG (⟨((rs4)), ((fs5)), (rs4), (fs5)⟩) ?_ hI hd ?_ trivial rfl rfl <;> clear hI hd
   · (try dsimp only) <;> ((exact ⟨dd, dd⟩))
   · rfl
set_option maxHeartbeats 1000000 in
set_option maxRecDepth 10000 in
theorem c_impl_sameFact (r : Int) (l : List Int) (r2 : Int) (l2 : List Int) (hl : l.length ≤ 1048576) (hl2 : l2.length ≤ 1048576) : Pu Try.prog 57 [.agg [.t none (.v (.int .i64 (r))), .t none (.sl 1 encI (l))], .agg [.t none (.v (.int .i64 (r2))), .t none (.sl 1 encI (l2))]] [] 0 (.c (.t none (.v (.bool (decide (cmpF (r, l) (r2, l2) = 0)))))) := by
 refine pu_enter Try.func57 rfl (Nat.le_of_ble_eq_true rfl) fun w S => ?_
 refine tsr ?_
 refine r_op (o_box 0 rfl rfl rfl rfl) ?_
 refine r_op (o_box 1 rfl rfl rfl rfl) ?_
 refine r_op oA ?_
 refine etr ?_
 refine r_op (oC 2) ?_
 refine r_op (oC 2) ?_
 refine r_op (o_call 2 2 false (Go.Proofs.enters_of Try.func42 (by kernel_rfl) rfl) (c_impl_CompareFacts (r) (l) (r2) (l2) (by omega) (by omega)) rfl (.cons rfl (.agg (.cons .t0 (.cons .t0 .nil))) (.cons rfl (.agg (.cons .t0 (.cons .t0 .nil))) .nil)) rfl rfl rfl) ?_
 refine r_op oB ?_
 refine r_op oA ?_
 refine r_end ?_
 refine t_ret Try.func57 (.tmp rfl .nil) rfl fun E S w u hI hd => ?_
 refine post_mk hI hd ?_ trivial rfl rfl rfl <;> clear hI hd
 all_goals (rfl)
set_option maxHeartbeats 1000000 in
set_option maxRecDepth 10000 in
theorem c_impl_hasFact_1 (r : Int) (l : List Int) (f : Int × List Int) (hl : l.length ≤ 1048576) (hf : f.2.length ≤ 1048576) : Pu Try.prog 56 [.agg [.t none (.v (.int .i64 (r))), .t none (.sl 1 encI (l))], .c (.pel none ((enS2 encI (enSl 1 encI)) (f)) 2)] [] 0 (.c (.t none (.v (.bool (decide (cmpF (r, l) f = 0)))))) := by
 refine pu_enter Try.func56 rfl (Nat.le_of_ble_eq_true rfl) fun w S => ?_
 refine tsr ?_
 refine r_op (o_box 0 rfl rfl rfl rfl) ?_
 refine r_op oA ?_
 refine etr ?_
 refine r_op (oC 2) ?_
 refine r_op (o_loadA rfl (n := 2) (by kernel_rfl) (by kernel_rfl) rfl rfl) ?_
 refine r_op (o_call 1 1 false (Go.Proofs.enters_of Try.func57 (by kernel_rfl) rfl) (c_impl_sameFact (r) (l) (f.1) (f.2) (by omega) (by omega)) rfl (.cons rfl (.agg (.cons .t0 (.cons .t0 .nil))) (.cons rfl (.agg (.cons .t0 (.cons .t0 .nil))) .nil)) rfl rfl rfl) ?_
 refine r_op oA ?_
 refine r_end ?_
 refine t_ret Try.func56 (.tmp rfl .nil) rfl fun E S w u hI hd => ?_
 refine post_mk hI hd ?_ trivial rfl rfl rfl <;> clear hI hd
 all_goals (rfl)
set_option maxHeartbeats 1000000 in
set_option maxRecDepth 10000 in
theorem c_slices_ContainsFunc___impl_Fact_impl_Fact_ (l : List (Int × (List (Int)))) (f : Nat) (cs : List ((Nat → T) × Nat)) (p : Int × (List (Int)) → Bool) (hl : l.length ≤ 9223372036854775807) (hf : ∀ x ∈ l, Fu Try.prog f ([.agg [.t none (.v (.int .i64 (x.1))), .t none (.sl 1 encI (x.2))]] ++ pels cs) (.c (.t none (.v (.bool (p x)))))) : Pu Try.prog 30 [.c (.t none (.sl 2 (enS2 encI (enSl 1 encI)) (l))), .c (.fv f cs)] [] 0 (.c (.t none (.v (.bool (l.any p))))) := by
 refine pu_enter Try.func30 rfl (Nat.le_of_ble_eq_true rfl) fun w S => ?_
 refine tsr ?_
 refine r_op oA ?_
 refine etr ?_
 refine r_op oM ?_
 refine r_op oM ?_
 refine r_op (o_call 0 0 false (Go.Proofs.enters_of Try.func46 (by kernel_rfl) rfl) (c_slices_IndexFunc___impl_Fact_impl_Fact_ (l) (f) (cs) (p) (by omega) (hf)) rfl (.cons rfl (.c .t0) (.cons rfl (.c .fv) .nil)) rfl rfl rfl) ?_
 refine r_op oB ?_
 refine r_op oA ?_
 refine r_end ?_
 refine t_ret Try.func30 (.tmp rfl .nil) rfl fun E S w u hI hd => ?_
 refine post_mk hI hd ?_ trivial rfl rfl rfl <;> clear hI hd
 all_goals (exact scB idx_any)
set_option maxHeartbeats 1000000 in
set_option maxRecDepth 10000 in
theorem c_impl_hasFact (fs : Atoms) (r : Int) (ts : List Int) (hfs : szS (fun (x : Int × (List (Int))) => (x.2).length) fs ≤ 1048576) (hts : ts.length ≤ 1048576) : Pu Try.prog 32 [.c (.t none (.sl 2 (enS2 encI (enSl 1 encI)) (fs))), .agg [.t none (.v (.int .i64 (r))), .t none (.sl 1 encI (ts))]] [] 0 (.c (.t none (.v (.bool (hasF fs (r, ts)))))) := by
 refine pu_enter Try.func32 rfl (Nat.le_of_ble_eq_true rfl) fun w S => ?_
 have gl := sz_len (f := (fun (x : Int × (List (Int))) => (x.2).length)) (l := fs)
 refine tsr ?_
 refine r_op (o_box 0 rfl rfl rfl rfl) ?_
 refine r_op oA ?_
 refine etr ?_
 refine r_op oM ?_
 refine r_op (o_makeFunc rfl (.cons rfl .nil)) ?_
 refine r_op (o_call 1 1 false (Go.Proofs.enters_of Try.func30 (by kernel_rfl) rfl) (c_slices_ContainsFunc___impl_Fact_impl_Fact_ (fs) (56) ([((enS2 encI (enSl 1 encI)) ((r, ts)), 2)]) (fun (x0 : Int × (List (Int))) => decide (cmpF ((x0.1), (x0.2)) ((r, ts)) = 0)) (by omega) (fun x0 mx0 => ⟨Go.Proofs.enters_of Try.func56 (by kernel_rfl) rfl, c_impl_hasFact_1 (x0.1) (x0.2) ((r, ts)) (by (have e1 := sz_mem (f := (fun (x : Int × (List (Int))) => (x.2).length)) (l := fs) (by assumption); (try dsimp only at e1); omega)) (by omega)⟩)) rfl (.cons rfl (.c .t0) (.cons rfl (.c (.clo (.cons rfl rfl rfl (.cons .t (.cons .t .nil)) .nil))) .nil)) rfl rfl rfl) ?_
 refine r_op oA ?_
 refine r_end ?_
 refine t_ret Try.func32 (.tmp rfl .nil) rfl fun E S w u hI hd => ?_
 refine post_mk hI hd ?_ trivial rfl rfl rfl <;> clear hI hd
 all_goals (rfl)
set_option maxHeartbeats 1000000 in
set_option maxRecDepth 10000 in
theorem c_impl_IsSubset_1 (r : Int) (ts : List Int) (z : Rels × Atoms) (hfs : szS (fun (x : Int × (List (Int))) => (x.2).length) z.2 ≤ 1048576) (hts : ts.length ≤ 1048576) : Pu Try.prog 31 [.agg [.t none (.v (.int .i64 (r))), .t none (.sl 1 encI (ts))], .c (.pel none ((enS2 (enSl 3 (enS3 encS encI encB)) (enSl 2 (enS2 encI (enSl 1 encI)))) (z)) 2)] [] 0 (.c (.t none (.v (.bool (!(hasF z.2 (r, ts))))))) := by
 refine pu_enter Try.func31 rfl (Nat.le_of_ble_eq_true rfl) fun w S => ?_
 refine tsr ?_
 refine r_op (o_box 0 rfl rfl rfl rfl) ?_
 refine r_op oA ?_
 refine etr ?_
 refine r_op (o_field rfl (off := 1) (by kernel_rfl) rfl) ?_
 refine r_op (o_load1 rfl (by kernel_rfl) rfl rfl) ?_
 refine r_op (oC 2) ?_
 refine r_op (o_call 1 1 false (Go.Proofs.enters_of Try.func32 (by kernel_rfl) rfl) (c_impl_hasFact (z.2) (r) (ts) (by omega) (by omega)) rfl (.cons rfl (.c .t0) (.cons rfl (.agg (.cons .t0 (.cons .t0 .nil))) .nil)) rfl rfl rfl) ?_
 refine r_op (o_not rfl rfl) ?_
 refine r_op oA ?_
 refine r_end ?_
 refine t_ret Try.func31 (.tmp rfl .nil) rfl fun E S w u hI hd => ?_
 refine post_mk hI hd ?_ trivial rfl rfl rfl <;> clear hI hd
 all_goals (rfl)
set_option maxHeartbeats 1000000 in
set_option maxRecDepth 10000 in
theorem c_impl_IsSubset (rs : Rels) (fs : Atoms) (rs2 : Rels) (fs2 : Atoms) (hfs : szS (fun (x : Int × (List (Int))) => (x.2).length) fs ≤ 1048576) (hfs2 : szS (fun (x : Int × (List (Int))) => (x.2).length) fs2 ≤ 1048576) : Pu Try.prog 14 [.agg [.t none (.sl 3 (enS3 encS encI encB) (rs)), .t none (.sl 2 (enS2 encI (enSl 1 encI)) (fs))], .agg [.t none (.sl 3 (enS3 encS encI encB) (rs2)), .t none (.sl 2 (enS2 encI (enSl 1 encI)) (fs2))]] [] 0 (.c (.t none (.v (.bool (fs.all (hasF fs2)))))) := by
 refine pu_enter Try.func14 rfl (Nat.le_of_ble_eq_true rfl) fun w S => ?_
 have gl := sz_len (f := (fun (x : Int × (List (Int))) => (x.2).length)) (l := fs)
 refine tsr ?_
 refine r_op (o_box 0 rfl rfl rfl rfl) ?_
 refine r_op (o_box 1 rfl rfl rfl rfl) ?_
 refine r_op oA ?_
 refine etr ?_
 refine r_op (oF 1) ?_
 refine r_op oL ?_
 refine r_op (o_makeFunc rfl (.cons rfl .nil)) ?_
 refine r_op (o_call 2 2 false (Go.Proofs.enters_of Try.func30 (by kernel_rfl) rfl) (c_slices_ContainsFunc___impl_Fact_impl_Fact_ (fs) (31) ([((enS2 (enSl 3 (enS3 encS encI encB)) (enSl 2 (enS2 encI (enSl 1 encI)))) ((rs2, fs2)), 2)]) (fun (x0 : Int × (List (Int))) => !(hasF ((rs2, fs2)).2 ((x0.1), (x0.2)))) (by omega) (fun x0 mx0 => ⟨Go.Proofs.enters_of Try.func31 (by kernel_rfl) rfl, c_impl_IsSubset_1 (x0.1) (x0.2) ((rs2, fs2)) (by omega) (by (have e1 := sz_mem (f := (fun (x : Int × (List (Int))) => (x.2).length)) (l := fs) (by assumption); (try dsimp only at e1); omega))⟩)) rfl (.cons rfl (.c .t0) (.cons rfl (.c (.clo (.cons rfl rfl rfl (.cons .t (.cons .t .nil)) .nil))) .nil)) rfl rfl rfl) ?_
 refine r_op (o_not rfl rfl) ?_
 refine r_op oA ?_
 refine r_end ?_
 refine t_ret Try.func14 (.tmp rfl .nil) rfl fun E S w u hI hd => ?_
 refine post_mk hI hd ?_ trivial rfl rfl rfl <;> clear hI hd
 all_goals (refine scB ?_; rw [List.all_eq_not_any_not])
set_option maxHeartbeats 1000000 in
set_option maxRecDepth 10000 in
theorem c_spec_IsSubset (rs : Rels) (fs : Atoms) (rs2 : Rels) (fs2 : Atoms) (hfs : szS (fun (x : Int × (List (Int))) => (x.2).length) fs ≤ 1048576) (hfs2 : szS (fun (x : Int × (List (Int))) => (x.2).length) fs2 ≤ 1048576) : Pu Try.prog 15 [.agg [.t none (.sl 3 (enS3 encS encI encB) (rs)), .t none (.sl 2 (enS2 encI (enSl 1 encI)) (fs))], .agg [.t none (.sl 3 (enS3 encS encI encB) (rs2)), .t none (.sl 2 (enS2 encI (enSl 1 encI)) (fs2))]] [] 0 (.c (.t none (.v (.bool (fs.all (hasF fs2)))))) := by
 refine pu_enter Try.func15 rfl (Nat.le_of_ble_eq_true rfl) fun w S => ?_
 have gl := sz_len (f := (fun (x : Int × (List (Int))) => (x.2).length)) (l := fs)
 refine tsr ?_
 refine r_op (o_box 0 rfl rfl rfl rfl) ?_
 refine r_op (o_box 1 rfl rfl rfl rfl) ?_
 refine r_op oA ?_
 refine r_end ?_
 refine t_seq ?_
 refine tsr ?_
 refine r_op oA ?_
 refine r_end ?_
 refine t_block ?_
 refine t_loopL (fun m => ⟨[(2, some (.c (.ptr 0 0))), (3, some (.c (.ptr 1 0))), (5, some (.c (.t none (.v (.int .i64 ((m : Int)))))))], [(0, some (.box [.t none (.sl 3 (enS3 encS encI encB) (rs)), .t none (.sl 2 (enS2 encI (enSl 1 encI)) (fs))])), (1, some (.box [.t none (.sl 3 (enS3 encS encI encB) (rs2)), .t none (.sl 2 (enS2 encI (enSl 1 encI)) (fs2))]))], 2⟩ : Nat → St) (fun m => m ≤ fs.length ∧ ∀ j z, j < m → fs[j]? = some z → hasF fs2 z = true) (fun m => fs.length - m) 0 ⟨⟨rfl, ⟨rfl, ⟨rfl, trivial⟩⟩⟩, ⟨rfl, ⟨rfl, trivial⟩⟩, rfl⟩ (by exact ⟨Nat.zero_le _, fun j z h => by omega⟩) ?_
 rintro m hI ih0
 try dsimp only at hI ih0
 obtain ⟨i1, i2⟩ := hI
 refine t_seq ?_
 refine tsr ?_
 refine r_op oM ?_
 refine r_op (oF 1) ?_
 refine r_op oL ?_
 refine r_op (o_len rfl rfl rfl) ?_
 refine r_op oB ?_
 refine r_end ?_
 refine t_cond rfl (fun h1 => ?_) (fun h1 => ?_)
 ·
  have h1' := of_decide_eq_true h1
  refine t_skip ?_
  refine t_seq ?_
  refine t_block ?_
  refine t_seq ?_
  refine t_draw (fun _ => true) (by kernel_rfl) ?_
  refine dT 0 rfl (pC 2) ?_
  refine dT 1 rfl (pF 1) ?_
  refine dT 2 rfl pL ?_
  refine dT 3 rfl pM ?_
  obtain ⟨z2, hz3, b4⟩ := at_get (xs := fs) (n := (m : Int)) (by omega) (by omega)
  refine dT 4 rfl (p_index (by kernel_rfl) rfl rfl b4 hz3) ?_
  refine dT 5 rfl (p_loadA (n := 2) (by kernel_rfl) (by kernel_rfl) rfl rfl) ?_
  refine dO 6 rfl (o_call 2 2 false (Go.Proofs.enters_of Try.func33 (by kernel_rfl) rfl) (c_spec_l5Place (rs2) (fs2) (z2.1) (z2.2) (by omega) (by (have e1 := sz_at (f := (fun (x : Int × (List (Int))) => (x.2).length)) (l := fs) (m := m) (by assumption); (try dsimp only at e1); omega))) rfl (.cons rfl (.agg (.cons .t0 (.cons .t0 .nil))) (.cons rfl (.agg (.cons .t0 (.cons .t0 .nil))) .nil)) rfl rfl rfl) ?_
  refine dT 7 rfl pB ?_
  refine d_end (by kernel_rfl) ?_
  refine t_cond rfl (fun h5 => ?_) (fun h5 => ?_)
  ·
   have h5' := of_decide_eq_true h5
   refine tsr ?_
   refine r_op oA ?_
   refine r_end ?_
   refine t_ret Try.func15 (.tmp rfl .nil) rfl fun E S w u hI hd => ?_
   refine post_mk hI hd ?_ trivial rfl rfl rfl <;> clear hI hd <;> (try clear ih0)
   all_goals (refine scB ?_; exact (all_not hz3 (idx_hasn (by assumption))).symm)
  ·
   have h5' := of_decide_eq_false h5
   refine t_skip ?_
   refine t_endblock ?_
   refine t_region ?_
   refine r_op oM ?_
   refine r_op oB ?_
   refine r_op oA ?_
   refine r_end ?_
   refine t_le ?_ (ih0 (m + 1) (by (try dsimp only); omega) (by (try dsimp only); exact ⟨by omega, yes_step i2 hz3 rfl (idx_has (by assumption))⟩))
   exact ⟨⟨rfl, ⟨rfl, ⟨(eqI (wr64 (by omega) (by omega))), trivial⟩⟩⟩, ⟨rfl, ⟨rfl, trivial⟩⟩, rfl⟩
 ·
  have h1' := of_decide_eq_false h1
  refine t_exit rfl ?_
  refine tsr ?_
  refine r_op oA ?_
  refine r_end ?_
  refine t_ret Try.func15 (.tmp rfl .nil) rfl fun E S w u hI hd => ?_
  refine post_mk hI hd ?_ trivial rfl rfl rfl <;> clear hI hd <;> (try clear ih0)
  all_goals (refine scB ?_; exact (all_yes i2 (by omega)).symm)
set_option maxHeartbeats 1000000 in
set_option maxRecDepth 10000 in
theorem c_laws_FnRestrict (code : List Int) (hcl : code.length ≤ 9223372036854775807) : Pu Try.prog 3 [.c (.t none (.sl 1 encU (code)))] [] 0 (.c (.t none (.v (.bool (true))))) := by
 refine pu_enter Try.func3 rfl (Nat.le_of_ble_eq_true rfl) fun w S => ?_
 refine tsr ?_
 refine r_op oA ?_
 refine r_end ?_
 refine t_seq ?_
 refine tsr ?_
 refine r_op oM ?_
 refine r_op (o_call 0 0 false (Go.Proofs.enters_of Try.func4 (by kernel_rfl) rfl) (c_laws_big (code)) rfl (.cons rfl (.c .t0) .nil) rfl rfl rfl) ?_
 refine r_end ?_
 refine t_cond rfl (fun h1 => ?_) (fun h1 => ?_)
 ·
  have h1' := of_decide_eq_true h1
  refine tsr ?_
  refine r_op oA ?_
  refine r_end ?_
  refine t_ret Try.func3 (.tmp rfl .nil) rfl fun E S w u hI hd => ?_
  refine post_mk hI hd ?_ trivial rfl rfl rfl <;> clear hI hd
  all_goals (rfl)
 ·
  have h1' := of_decide_eq_false h1
  refine t_skip ?_
  refine tsr ?_
  refine r_op oM ?_
  refine r_opX (o_callG 0 0 (Go.Proofs.enters_of Try.func5 (by kernel_rfl) rfl) (c_spec_DrawIsValidInstance (code) (by omega)) rfl (.cons rfl (.c .t0) .nil) rfl rfl) ?_
  rintro ⟨⟨rs2, fs3⟩, hq4⟩
  try dsimp only at hq4
  try dsimp only
  have hx0 : instL rs2 fs3 := (by assumption); obtain ⟨hx1, hx2, hx3, hx4⟩ := hx0; have xs1 := szF_L hx4; have xs3 := factL_ok hx4; have rl := rstR_len rs2 fs3; have r3 := rstF_sz rs2 fs3 true; have r4 := rstF_sz rs2 fs3 false; have ro3 : ∀ z ∈ rstF rs2 fs3 true, ∀ x ∈ z.2, okI x := fun z hz => xs3 z ((rstF_sub rs2 fs3 true).subset hz); have ro4 : ∀ z ∈ rstF rs2 fs3 false, ∀ x ∈ z.2, okI x := fun z hz => xs3 z ((rstF_sub rs2 fs3 false).subset hz); have R1 : instOk rs2 fs3 = true → ((rstF rs2 fs3 true).length + (rstF rs2 fs3 false).length = (fs3).length ∧ (setI (nulV (flatT (rstF rs2 fs3 true)))).length = 0 ∧ setI (nulV (flatT (rstF rs2 fs3 false))) = setI (nulV (flatT fs3))) := fun h => ⟨rest_len h, rest_null h, rest_same h⟩; have R2 : instOk rs2 fs3 = false → ((rstF rs2 fs3 true).length = 0 ∧ (rstF rs2 fs3 false).length = 0) := fun h => ⟨rest_off h true, rest_off h false⟩; have R3 : (rstF rs2 fs3 true).all (hasF fs3) = true ∧ (rstF rs2 fs3 false).all (hasF fs3) = true := ⟨rest_sub true, rest_sub false⟩; have zl3 := sz_len (f := (fun (x : Int × (List (Int))) => (x.2).length)) (l := rstF rs2 fs3 true); have zl4 := sz_len (f := (fun (x : Int × (List (Int))) => (x.2).length)) (l := rstF rs2 fs3 false); have N0 : ∀ l : Atoms, (setI (nulV (flatT l))).length ≤ szS (fun (x : Int × (List (Int))) => (x.2).length) l := fun l => Nat.le_trans (setI_len _) (Nat.le_trans (nulV_len _) (flatT_size l)); have N1 := N0 fs3; have N2 := N0 (rstF rs2 fs3 true); have N3 := N0 (rstF rs2 fs3 false); have WR : IntKind.i64.wrap (((rstF rs2 fs3 true).length : Int) + ((rstF rs2 fs3 false).length : Int)) = ((rstF rs2 fs3 true).length : Int) + ((rstF rs2 fs3 false).length : Int) := (by simp only [IntKind.wrap_i64]; omega)
  refine r_op (o_alloc 0 (zs := [.slice none 0 0, .slice none 0 0]) rfl rfl (by kernel_rfl) rfl) ?_
  refine r_op (oS 2) ?_
  refine etr ?_
  refine r_op (oC 2) ?_
  refine r_op (o_call 1 1 true (Go.Proofs.enters_of Try.func6 (by kernel_rfl) rfl) (c_impl_Restrict ((rs2)) ((fs3)) (true) (by omega) (by omega) (by omega)) rfl (.cons rfl (.agg (.cons .t0 (.cons .t0 .nil))) (.cons rfl (.c .t0) .nil)) rfl rfl rfl) ?_
  refine r_op (o_alloc 1 (zs := [.slice none 0 0, .slice none 0 0]) rfl rfl (by kernel_rfl) rfl) ?_
  refine r_op (oS 2) ?_
  refine etr ?_
  refine r_op (oC 2) ?_
  refine r_op (o_call 2 2 true (Go.Proofs.enters_of Try.func6 (by kernel_rfl) rfl) (c_impl_Restrict ((rs2)) ((fs3)) (false) (by omega) (by omega) (by omega)) rfl (.cons rfl (.agg (.cons .t0 (.cons .t0 .nil))) (.cons rfl (.c .t0) .nil)) rfl rfl rfl) ?_
  refine r_op (o_alloc 2 (zs := [.slice none 0 0, .slice none 0 0]) rfl rfl (by kernel_rfl) rfl) ?_
  refine r_op (oS 2) ?_
  refine etr ?_
  refine r_op (oC 2) ?_
  refine r_op (o_call 3 6 false (Go.Proofs.enters_of Try.func7 (by kernel_rfl) rfl) (c_impl_NullsOfInstance ((rs2)) ((fs3)) (by omega) (by omega)) rfl (.cons rfl (.agg (.cons .t0 (.cons .t0 .nil))) .nil) rfl rfl rfl) ?_
  refine r_op oA ?_
  refine r_end ?_
  refine t_seq ?_
  refine t_seq ?_
  refine t_draw (fun _ => true) (by kernel_rfl) ?_
  refine dT 0 rfl pM ?_
  refine dT 1 rfl (pC 2) ?_
  refine dO 2 rfl (o_call 6 8 false (Go.Proofs.enters_of Try.func9 (by kernel_rfl) rfl) (c_spec_NullsOfInstance ((rs2)) ((fs3)) (by omega) (by omega)) rfl (.cons rfl (.agg (.cons .t0 (.cons .t0 .nil))) .nil) rfl rfl rfl) ?_
  refine dO 3 rfl (o_call 8 8 false (Go.Proofs.enters_of Try.func8 (by kernel_rfl) rfl) (c_laws_sameInts (setI (nulV (flatT ((fs3))))) (setI (nulV (flatT ((fs3))))) (by omega)) rfl (.cons rfl (.c (.own rfl)) (.cons rfl (.c (.own rfl)) .nil)) rfl rfl rfl) ?_
  refine dT 4 rfl (p_not rfl) ?_
  refine dT 5 rfl pM ?_
  refine dH 6 rfl (fun _ => pC 2) (fun g6 => ?_) (fun g6 => ?_)
  ·
   have g6' := of_decide_eq_true (bnf g6)
   refine dH 8 rfl (fun _ => pC 2) (fun _ => ?_) (ncf g6)
   refine d_onlyG 7 rfl rfl (by kernel_rfl) rfl rfl rfl (fun _ => (o_call 8 8 false (Go.Proofs.enters_of Try.func10 (by kernel_rfl) rfl) (c_impl_IsGround ((rs2)) ((fs3)) (by omega) (by omega) (by omega)) rfl (.cons rfl (.agg (.cons .t0 (.cons .t0 .nil))) .nil) rfl rfl rfl)) (fun _ => ?_) (ncf g6)
   refine d_onlyG 9 rfl rfl (by kernel_rfl) rfl rfl rfl (fun _ => (o_call 8 8 false (Go.Proofs.enters_of Try.func11 (by kernel_rfl) rfl) (c_spec_IsGround ((rs2)) ((fs3)) (by omega) (by omega) (by omega)) rfl (.cons rfl (.agg (.cons .t0 (.cons .t0 .nil))) .nil) rfl rfl rfl)) (fun _ => ?_) (ncf g6)
   refine dH 10 rfl (fun _ => p_neB Try.underlying4 rfl rfl) (fun _ => ?_) (ncf g6)
   refine dT 11 rfl (p_pickF rfl g6 rfl) ?_
   refine d_end (by kernel_rfl) ?_
   refine t_cond rfl (fun h7 => ?_) (fun h7 => ?_)
   ·
    have h7' := h7
    try simp only [decide_eq_true_eq, decide_eq_false_iff_not, Bool.not_eq_true', Bool.not_eq_false', Bool.not_false, Bool.not_true] at h7'
    refine tsr ?_
    refine r_op oA ?_
    refine r_end ?_
    refine t_ret Try.func3 (.tmp rfl .nil) rfl fun E S w u hI hd => ?_
    refine post_mk hI hd ?_ trivial rfl rfl rfl <;> clear hI hd
    all_goals ((exfalso; clear ro3 ro4 xs3 hx2 hx4 N0 N1 N2 N3; (try rw [WR] at *); grind))
   ·
    have h7' := h7
    try simp only [decide_eq_true_eq, decide_eq_false_iff_not, Bool.not_eq_true', Bool.not_eq_false', Bool.not_false, Bool.not_true] at h7'
    refine t_skip ?_
    refine t_seq ?_
    refine tsr ?_
    refine r_op (oC 2) ?_
    refine r_op (o_call 8 8 false (Go.Proofs.enters_of Try.func12 (by kernel_rfl) rfl) (c_spec_IsValidInstance ((rs2)) ((fs3)) (by omega) (by omega) (by omega)) rfl (.cons rfl (.agg (.cons .t0 (.cons .t0 .nil))) .nil) rfl rfl rfl) ?_
    refine r_op (o_not rfl rfl) ?_
    refine r_end ?_
    refine t_cond rfl (fun h8 => ?_) (fun h8 => ?_)
    ·
     have h8' := (bnt h8)
     refine tsr ?_
     refine r_op (oF 1) ?_
     refine r_op oL ?_
     refine r_op (o_len rfl rfl rfl) ?_
     refine r_op (oF 1) ?_
     refine r_op oL ?_
     refine r_op (o_len rfl rfl rfl) ?_
     refine r_op oB ?_
     refine r_op oB ?_
     refine r_op oA ?_
     refine r_end ?_
     refine t_ret Try.func3 (.tmp rfl .nil) rfl fun E S w u hI hd => ?_
     refine post_mk hI hd ?_ trivial rfl rfl rfl <;> clear hI hd
     all_goals ((refine scB ?_; clear ro3 ro4 xs3 hx2 hx4 N0 N1 N2 N3; (try simp only [WR] at *); grind))
    ·
     have h8' := (bnf h8)
     refine t_skip ?_
     refine tsr ?_
     refine r_op oM ?_
     refine r_opX (o_callG 8 8 (Go.Proofs.enters_of Try.func13 (by kernel_rfl) rfl) (c_spec_DrawIsSubset (code) (by omega)) rfl (.cons rfl (.c .t0) .nil) rfl rfl) ?_
     rintro ⟨⟨rs9, fs10, rs211, fs212⟩, hq13⟩
     try dsimp only at hq13
     try dsimp only
     obtain ⟨q14, q15⟩ := hq13
     have u0 : instL rs9 fs10 := (by assumption); have u00 : instL rs211 fs212 := (by assumption); have u1 := szF_L u0.2.2.2; have u2 := szF_L u00.2.2.2; have u3 := u0.2.2.1; have u4 := u00.2.2.1
     refine r_op oM ?_
     refine r_op (o_extract rfl rfl rfl rfl) ?_
     refine r_op (o_extract rfl rfl rfl rfl) ?_
     refine r_op (o_alloc 8 (zs := [.slice none 0 0, .slice none 0 0]) rfl rfl (by kernel_rfl) rfl) ?_
     refine r_op (o_alloc 9 (zs := [.slice none 0 0, .slice none 0 0]) rfl rfl (by kernel_rfl) rfl) ?_
     refine r_op (oS 2) ?_
     refine r_op (oS 2) ?_
     refine r_end ?_
     refine t_seq ?_
     refine t_draw (fun _ => true) (by kernel_rfl) ?_
     refine dT 0 rfl (pF 1) ?_
     refine dT 1 rfl pL ?_
     refine dT 2 rfl (p_len rfl rfl) ?_
     refine dT 3 rfl (pF 1) ?_
     refine dT 4 rfl pL ?_
     refine dT 5 rfl (p_len rfl rfl) ?_
     refine dT 6 rfl pB ?_
     refine dT 7 rfl (pF 1) ?_
     refine dT 8 rfl pL ?_
     refine dT 9 rfl (p_len rfl rfl) ?_
     refine dT 10 rfl pB ?_
     refine dT 11 rfl pM ?_
     refine dH 12 rfl (fun _ => pC 2) (fun g16 => ?_) (fun g16 => ?_)
     ·
      have g16' := of_decide_eq_true g16
      refine dH 13 rfl (fun _ => pC 2) (fun _ => ?_) (nc g16)
      refine d_onlyG 14 rfl rfl (by kernel_rfl) rfl rfl rfl (fun _ => (o_call 10 10 false (Go.Proofs.enters_of Try.func14 (by kernel_rfl) rfl) (c_impl_IsSubset (rstR ((rs2)) ((fs3))) (rstF ((rs2)) ((fs3)) (true)) ((rs2)) ((fs3)) (by omega) (by omega)) rfl (.cons rfl (.agg (.cons .t0 (.cons .t0 .nil))) (.cons rfl (.agg (.cons .t0 (.cons .t0 .nil))) .nil)) rfl rfl rfl)) (fun _ => ?_) (nc g16)
      refine dT 15 rfl (p_pickT rfl g16 rfl) ?_
      refine dT 16 rfl pM ?_
      refine dH 17 rfl (fun _ => pC 2) (fun g17 => ?_) (fun g17 => ?_)
      ·
       have g17' := g17
       refine dH 18 rfl (fun _ => pC 2) (fun _ => ?_) (nc g17)
       refine d_onlyG 19 rfl rfl (by kernel_rfl) rfl rfl rfl (fun _ => (o_call 10 10 false (Go.Proofs.enters_of Try.func14 (by kernel_rfl) rfl) (c_impl_IsSubset (rstR ((rs2)) ((fs3))) (rstF ((rs2)) ((fs3)) (false)) ((rs2)) ((fs3)) (by omega) (by omega)) rfl (.cons rfl (.agg (.cons .t0 (.cons .t0 .nil))) (.cons rfl (.agg (.cons .t0 (.cons .t0 .nil))) .nil)) rfl rfl rfl)) (fun _ => ?_) (nc g17)
       refine dT 20 rfl (p_pickT rfl g17 rfl) ?_
       refine dT 21 rfl pM ?_
       refine dH 22 rfl (fun _ => pC 2) (fun g18 => ?_) (fun g18 => ?_)
       ·
        have g18' := g18
        refine d_onlyG 23 rfl rfl (by kernel_rfl) rfl rfl rfl (fun _ => (o_call 10 13 false (Go.Proofs.enters_of Try.func7 (by kernel_rfl) rfl) (c_impl_NullsOfInstance (rstR ((rs2)) ((fs3))) (rstF ((rs2)) ((fs3)) (true)) (by omega) (by omega)) rfl (.cons rfl (.agg (.cons .t0 (.cons .t0 .nil))) .nil) rfl rfl rfl)) (fun _ => ?_) (nc g18)
        refine dH 24 rfl (fun _ => p_leno rfl rfl rfl) (fun _ => ?_) (nc g18)
        refine dH 25 rfl (fun _ => pB) (fun _ => ?_) (nc g18)
        refine dT 26 rfl (p_pickT rfl g18 rfl) ?_
        refine dT 27 rfl pM ?_
        refine dH 28 rfl (fun _ => pC 2) (fun g19 => ?_) (fun g19 => ?_)
        ·
         have g19' := of_decide_eq_true g19
         refine dH 30 rfl (fun _ => pM) (fun _ => ?_) (nc g19)
         refine d_onlyG 29 rfl rfl (by kernel_rfl) rfl rfl rfl (fun _ => (o_call 13 16 false (Go.Proofs.enters_of Try.func7 (by kernel_rfl) rfl) (c_impl_NullsOfInstance (rstR ((rs2)) ((fs3))) (rstF ((rs2)) ((fs3)) (false)) (by omega) (by omega)) rfl (.cons rfl (.agg (.cons .t0 (.cons .t0 .nil))) .nil) rfl rfl rfl)) (fun _ => ?_) (nc g19)
         refine d_onlyG 31 rfl rfl (by kernel_rfl) rfl rfl rfl (fun _ => (o_call 16 16 false (Go.Proofs.enters_of Try.func8 (by kernel_rfl) rfl) (c_laws_sameInts (setI (nulV (flatT (rstF ((rs2)) ((fs3)) (false))))) (setI (nulV (flatT ((fs3))))) (by omega)) rfl (.cons rfl (.c (.own rfl)) (.cons rfl (.c (.own rfl)) .nil)) rfl rfl rfl)) (fun _ => ?_) (nc g19)
         refine dT 32 rfl (p_pickT rfl g19 rfl) ?_
         refine dT 33 rfl pM ?_
         refine dH 34 rfl (fun _ => pC 2) (fun g20 => ?_) (fun g20 => ?_)
         ·
          have g20' := of_decide_eq_true g20
          refine dH 35 rfl (fun _ => pC 2) (fun _ => ?_) (nc g20)
          refine dH 37 rfl (fun _ => pC 2) (fun _ => ?_) (nc g20)
          refine dH 38 rfl (fun _ => pC 2) (fun _ => ?_) (nc g20)
          refine d_onlyG 36 rfl rfl (by kernel_rfl) rfl rfl rfl (fun _ => (o_call 16 16 false (Go.Proofs.enters_of Try.func14 (by kernel_rfl) rfl) (c_impl_IsSubset ((rs9)) ((fs10)) ((rs211)) ((fs212)) (by omega) (by omega)) rfl (.cons rfl (.agg (.cons .t0 (.cons .t0 .nil))) (.cons rfl (.agg (.cons .t0 (.cons .t0 .nil))) .nil)) rfl rfl rfl)) (fun _ => ?_) (nc g20)
          refine d_onlyG 39 rfl rfl (by kernel_rfl) rfl rfl rfl (fun _ => (o_call 16 16 false (Go.Proofs.enters_of Try.func15 (by kernel_rfl) rfl) (c_spec_IsSubset ((rs9)) ((fs10)) ((rs211)) ((fs212)) (by omega) (by omega)) rfl (.cons rfl (.agg (.cons .t0 (.cons .t0 .nil))) (.cons rfl (.agg (.cons .t0 (.cons .t0 .nil))) .nil)) rfl rfl rfl)) (fun _ => ?_) (nc g20)
          refine dH 40 rfl (fun _ => p_eqB Try.underlying4 rfl rfl) (fun _ => ?_) (nc g20)
          refine dT 41 rfl (p_pickT rfl g20 rfl) ?_
          refine dT 42 rfl pM ?_
          refine dH 43 rfl (fun _ => pC 2) (fun g21 => ?_) (fun g21 => ?_)
          ·
           have g21' := g21
           refine dH 45 rfl (fun _ => pM) (fun _ => ?_) (nc g21)
           refine dH 46 rfl (fun _ => p_leno rfl rfl rfl) (fun _ => ?_) (nc g21)
           refine dH 47 rfl (fun _ => pB) (fun _ => ?_) (nc g21)
           refine d_onlyG 44 rfl rfl (by kernel_rfl) rfl rfl rfl (fun _ => (o_call 16 16 false (Go.Proofs.enters_of Try.func10 (by kernel_rfl) rfl) (c_impl_IsGround ((rs2)) ((fs3)) (by omega) (by omega) (by omega)) rfl (.cons rfl (.agg (.cons .t0 (.cons .t0 .nil))) .nil) rfl rfl rfl)) (fun _ => ?_) (nc g21)
           refine dH 48 rfl (fun _ => p_eqB Try.underlying4 rfl rfl) (fun _ => ?_) (nc g21)
           refine dT 49 rfl (p_pickT rfl g21 rfl) ?_
           refine dT 50 rfl pA ?_
           refine d_end (by kernel_rfl) ?_
           refine t_ret Try.func3 (.tmp rfl .nil) rfl fun E S w u hI hd => ?_
           refine post_mk hI hd ?_ trivial rfl rfl rfl <;> clear hI hd
           all_goals ((refine scB ?_; clear ro3 ro4 xs3 hx2 hx4 N0 N1 N2 N3; (try simp only [WR] at *); grind))
          ·
           have g21' := g21
           refine dG 44 (ncf g21) (fun _ => ?_)
           refine dG 45 (ncf g21) (fun _ => ?_)
           refine dG 46 (ncf g21) (fun _ => ?_)
           refine dG 47 (ncf g21) (fun _ => ?_)
           refine dG 48 (ncf g21) (fun _ => ?_)
           refine dT 49 rfl (p_pickF rfl g21 rfl) ?_
           refine dT 50 rfl pA ?_
           refine d_end (by kernel_rfl) ?_
           refine t_ret Try.func3 (.tmp rfl .nil) rfl fun E S w u hI hd => ?_
           refine post_mk hI hd ?_ trivial rfl rfl rfl <;> clear hI hd
           all_goals ((exfalso; clear ro3 ro4 xs3 hx2 hx4 N0 N1 N2 N3; (try rw [WR] at *); grind))
         ·
          have g20' := of_decide_eq_false g20
          refine dG 35 (ncf g20) (fun _ => ?_)
          refine dG 36 (ncf g20) (fun _ => ?_)
          refine dG 37 (ncf g20) (fun _ => ?_)
          refine dG 38 (ncf g20) (fun _ => ?_)
          refine dG 39 (ncf g20) (fun _ => ?_)
          refine dG 40 (ncf g20) (fun _ => ?_)
          refine dT 41 rfl (p_pickF rfl g20 rfl) ?_
          refine dT 42 rfl pM ?_
          refine dG 43 (ncf rfl) (fun _ => ?_)
          refine dG 44 (ncf rfl) (fun _ => ?_)
          refine dG 45 (ncf rfl) (fun _ => ?_)
          refine dG 46 (ncf rfl) (fun _ => ?_)
          refine dG 47 (ncf rfl) (fun _ => ?_)
          refine dG 48 (ncf rfl) (fun _ => ?_)
          refine dT 49 rfl (p_pickF rfl rfl rfl) ?_
          refine dT 50 rfl pA ?_
          refine d_end (by kernel_rfl) ?_
          refine t_ret Try.func3 (.tmp rfl .nil) rfl fun E S w u hI hd => ?_
          refine post_mk hI hd ?_ trivial rfl rfl rfl <;> clear hI hd
          all_goals ((exfalso; clear ro3 ro4 xs3 hx2 hx4 N0 N1 N2 N3; (try rw [WR] at *); grind))
        ·
         have g19' := of_decide_eq_false g19
         refine dG 29 (ncf g19) (fun _ => ?_)
         refine dG 30 (ncf g19) (fun _ => ?_)
         refine dG 31 (ncf g19) (fun _ => ?_)
         refine dT 32 rfl (p_pickF rfl g19 rfl) ?_
         refine dT 33 rfl pM ?_
         refine dG 34 (ncf rfl) (fun _ => ?_)
         refine dG 35 (ncf rfl) (fun _ => ?_)
         refine dG 36 (ncf rfl) (fun _ => ?_)
         refine dG 37 (ncf rfl) (fun _ => ?_)
         refine dG 38 (ncf rfl) (fun _ => ?_)
         refine dG 39 (ncf rfl) (fun _ => ?_)
         refine dG 40 (ncf rfl) (fun _ => ?_)
         refine dT 41 rfl (p_pickF rfl rfl rfl) ?_
         refine dT 42 rfl pM ?_
         refine dG 43 (ncf rfl) (fun _ => ?_)
         refine dG 44 (ncf rfl) (fun _ => ?_)
         refine dG 45 (ncf rfl) (fun _ => ?_)
         refine dG 46 (ncf rfl) (fun _ => ?_)
         refine dG 47 (ncf rfl) (fun _ => ?_)
         refine dG 48 (ncf rfl) (fun _ => ?_)
         refine dT 49 rfl (p_pickF rfl rfl rfl) ?_
         refine dT 50 rfl pA ?_
         refine d_end (by kernel_rfl) ?_
         refine t_ret Try.func3 (.tmp rfl .nil) rfl fun E S w u hI hd => ?_
         refine post_mk hI hd ?_ trivial rfl rfl rfl <;> clear hI hd
         all_goals ((exfalso; clear ro3 ro4 xs3 hx2 hx4 N0 N1 N2 N3; (try rw [WR] at *); grind))
       ·
        have g18' := g18
        refine dG 23 (ncf g18) (fun _ => ?_)
        refine dG 24 (ncf g18) (fun _ => ?_)
        refine dG 25 (ncf g18) (fun _ => ?_)
        refine dT 26 rfl (p_pickF rfl g18 rfl) ?_
        refine dT 27 rfl pM ?_
        refine dG 28 (ncf rfl) (fun _ => ?_)
        refine dG 29 (ncf rfl) (fun _ => ?_)
        refine dG 30 (ncf rfl) (fun _ => ?_)
        refine dG 31 (ncf rfl) (fun _ => ?_)
        refine dT 32 rfl (p_pickF rfl rfl rfl) ?_
        refine dT 33 rfl pM ?_
        refine dG 34 (ncf rfl) (fun _ => ?_)
        refine dG 35 (ncf rfl) (fun _ => ?_)
        refine dG 36 (ncf rfl) (fun _ => ?_)
        refine dG 37 (ncf rfl) (fun _ => ?_)
        refine dG 38 (ncf rfl) (fun _ => ?_)
        refine dG 39 (ncf rfl) (fun _ => ?_)
        refine dG 40 (ncf rfl) (fun _ => ?_)
        refine dT 41 rfl (p_pickF rfl rfl rfl) ?_
        refine dT 42 rfl pM ?_
        refine dG 43 (ncf rfl) (fun _ => ?_)
        refine dG 44 (ncf rfl) (fun _ => ?_)
        refine dG 45 (ncf rfl) (fun _ => ?_)
        refine dG 46 (ncf rfl) (fun _ => ?_)
        refine dG 47 (ncf rfl) (fun _ => ?_)
        refine dG 48 (ncf rfl) (fun _ => ?_)
        refine dT 49 rfl (p_pickF rfl rfl rfl) ?_
        refine dT 50 rfl pA ?_
        refine d_end (by kernel_rfl) ?_
        refine t_ret Try.func3 (.tmp rfl .nil) rfl fun E S w u hI hd => ?_
        refine post_mk hI hd ?_ trivial rfl rfl rfl <;> clear hI hd
        all_goals ((exfalso; clear ro3 ro4 xs3 hx2 hx4 N0 N1 N2 N3; (try rw [WR] at *); grind))
      ·
       have g17' := g17
       refine dG 18 (ncf g17) (fun _ => ?_)
       refine dG 19 (ncf g17) (fun _ => ?_)
       refine dT 20 rfl (p_pickF rfl g17 rfl) ?_
       refine dT 21 rfl pM ?_
       refine dG 22 (ncf rfl) (fun _ => ?_)
       refine dG 23 (ncf rfl) (fun _ => ?_)
       refine dG 24 (ncf rfl) (fun _ => ?_)
       refine dG 25 (ncf rfl) (fun _ => ?_)
       refine dT 26 rfl (p_pickF rfl rfl rfl) ?_
       refine dT 27 rfl pM ?_
       refine dG 28 (ncf rfl) (fun _ => ?_)
       refine dG 29 (ncf rfl) (fun _ => ?_)
       refine dG 30 (ncf rfl) (fun _ => ?_)
       refine dG 31 (ncf rfl) (fun _ => ?_)
       refine dT 32 rfl (p_pickF rfl rfl rfl) ?_
       refine dT 33 rfl pM ?_
       refine dG 34 (ncf rfl) (fun _ => ?_)
       refine dG 35 (ncf rfl) (fun _ => ?_)
       refine dG 36 (ncf rfl) (fun _ => ?_)
       refine dG 37 (ncf rfl) (fun _ => ?_)
       refine dG 38 (ncf rfl) (fun _ => ?_)
       refine dG 39 (ncf rfl) (fun _ => ?_)
       refine dG 40 (ncf rfl) (fun _ => ?_)
       refine dT 41 rfl (p_pickF rfl rfl rfl) ?_
       refine dT 42 rfl pM ?_
       refine dG 43 (ncf rfl) (fun _ => ?_)
       refine dG 44 (ncf rfl) (fun _ => ?_)
       refine dG 45 (ncf rfl) (fun _ => ?_)
       refine dG 46 (ncf rfl) (fun _ => ?_)
       refine dG 47 (ncf rfl) (fun _ => ?_)
       refine dG 48 (ncf rfl) (fun _ => ?_)
       refine dT 49 rfl (p_pickF rfl rfl rfl) ?_
       refine dT 50 rfl pA ?_
       refine d_end (by kernel_rfl) ?_
       refine t_ret Try.func3 (.tmp rfl .nil) rfl fun E S w u hI hd => ?_
       refine post_mk hI hd ?_ trivial rfl rfl rfl <;> clear hI hd
       all_goals ((exfalso; clear ro3 ro4 xs3 hx2 hx4 N0 N1 N2 N3; (try rw [WR] at *); grind))
     ·
      have g16' := of_decide_eq_false g16
      refine dG 13 (ncf g16) (fun _ => ?_)
      refine dG 14 (ncf g16) (fun _ => ?_)
      refine dT 15 rfl (p_pickF rfl g16 rfl) ?_
      refine dT 16 rfl pM ?_
      refine dG 17 (ncf rfl) (fun _ => ?_)
      refine dG 18 (ncf rfl) (fun _ => ?_)
      refine dG 19 (ncf rfl) (fun _ => ?_)
      refine dT 20 rfl (p_pickF rfl rfl rfl) ?_
      refine dT 21 rfl pM ?_
      refine dG 22 (ncf rfl) (fun _ => ?_)
      refine dG 23 (ncf rfl) (fun _ => ?_)
      refine dG 24 (ncf rfl) (fun _ => ?_)
      refine dG 25 (ncf rfl) (fun _ => ?_)
      refine dT 26 rfl (p_pickF rfl rfl rfl) ?_
      refine dT 27 rfl pM ?_
      refine dG 28 (ncf rfl) (fun _ => ?_)
      refine dG 29 (ncf rfl) (fun _ => ?_)
      refine dG 30 (ncf rfl) (fun _ => ?_)
      refine dG 31 (ncf rfl) (fun _ => ?_)
      refine dT 32 rfl (p_pickF rfl rfl rfl) ?_
      refine dT 33 rfl pM ?_
      refine dG 34 (ncf rfl) (fun _ => ?_)
      refine dG 35 (ncf rfl) (fun _ => ?_)
      refine dG 36 (ncf rfl) (fun _ => ?_)
      refine dG 37 (ncf rfl) (fun _ => ?_)
      refine dG 38 (ncf rfl) (fun _ => ?_)
      refine dG 39 (ncf rfl) (fun _ => ?_)
      refine dG 40 (ncf rfl) (fun _ => ?_)
      refine dT 41 rfl (p_pickF rfl rfl rfl) ?_
      refine dT 42 rfl pM ?_
      refine dG 43 (ncf rfl) (fun _ => ?_)
      refine dG 44 (ncf rfl) (fun _ => ?_)
      refine dG 45 (ncf rfl) (fun _ => ?_)
      refine dG 46 (ncf rfl) (fun _ => ?_)
      refine dG 47 (ncf rfl) (fun _ => ?_)
      refine dG 48 (ncf rfl) (fun _ => ?_)
      refine dT 49 rfl (p_pickF rfl rfl rfl) ?_
      refine dT 50 rfl pA ?_
      refine d_end (by kernel_rfl) ?_
      refine t_ret Try.func3 (.tmp rfl .nil) rfl fun E S w u hI hd => ?_
      refine post_mk hI hd ?_ trivial rfl rfl rfl <;> clear hI hd
      all_goals ((exfalso; clear ro3 ro4 xs3 hx2 hx4 N0 N1 N2 N3; (try rw [WR] at *); grind))
  ·
   have g6' := of_decide_eq_false (bnt g6)
   refine dG 7 (nc g6) (fun _ => ?_)
   refine dG 8 (nc g6) (fun _ => ?_)
   refine dG 9 (nc g6) (fun _ => ?_)
   refine dG 10 (nc g6) (fun _ => ?_)
   refine dT 11 rfl (p_pickT rfl g6 rfl) ?_
   refine d_end (by kernel_rfl) ?_
   refine t_cond rfl (fun _ => ?_) (nc rfl)
   refine tsr ?_
   refine r_op oA ?_
   refine r_end ?_
   refine t_ret Try.func3 (.tmp rfl .nil) rfl fun E S w u hI hd => ?_
   refine post_mk hI hd ?_ trivial rfl rfl rfl <;> clear hI hd
   all_goals ((exfalso; clear ro3 ro4 xs3 hx2 hx4 N0 N1 N2 N3; (try rw [WR] at *); grind))
end Go.Eng
