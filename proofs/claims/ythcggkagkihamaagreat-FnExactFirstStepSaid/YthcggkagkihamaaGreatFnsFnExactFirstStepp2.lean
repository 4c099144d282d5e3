/- What the functions that FnExactFirstStep reaches answer. -/
import Derived.Test.YthcggkagkihamaaGreatFnsFnExactFirstStepp1
import Derived.Test.YthcggkagkihamaaGreatEngZN
import Derived.Test.YthcggkagkihamaaGreatChecked
set_option linter.unusedVariables false
set_option linter.unusedSimpArgs false
namespace Go.Eng
open Go Go.RowKit Go.Proofs
set_option maxHeartbeats 1000000
set_option maxRecDepth 10000
theorem c_impl_unboundBinding  : Pu Tryz.prog 201 [] [(1, some (.row none 3 true 1 encI (freeB)))] 2 (.c (.own 1)) := by
 refine pu_enter Tryz.func201 rfl (Nat.le_of_ble_eq_true rfl) fun w S => ?_
 refine tsr<|rA<|etr ?_
 refine r_op (o_lit1 0 (e := 3) (sz := 1) (zs := [.int .i64 (0)]) (enc := encI) (10) rfl rfl (by kernel_rfl) rfl rfl rfl rfl rfl rfl (.cons .sc .nil)) ?_
 refine r_op (o_call 1 2 false (en Tryz.func227) (c_slices_Repeat___int_int_ ) rfl (.cons rfl (.c (.own rfl)) (.cons rfl (.c .t0) .nil)) rfl rfl rfl) ?_
 refine rA<|r_end ?_
 refine tk Tryz.func201 (.tmp rfl .nil) ?_ (hL := ⟨eqR ?_, trivial⟩)
 all_goals (rfl)
theorem c_slices_Clone___int_int_ (l : List Int) (hl : l.length ≤ 1099511627776) : Pu Tryz.prog 55 [.c (.t none (.sl 1 encI (l)))] [(0, some (.row none 3 true 1 encI (l)))] 1 (.c (.own 0)) := by
 refine pu_enter Tryz.func55 rfl (Nat.le_of_ble_eq_true rfl) fun w S => ?_
 refine tsr<|rA<|r_end<|t_seq<|tsr ?_
 refine rM ?_
 refine r_eqnil rfl rfl rfl (fun en1 => ?_) ?_
 ·
  refine r_end ?_
  refine t_cond rfl (fun _ => ?_) (nc rfl)
  refine tsr<|rA<|r_end ?_
  refine gt_nil 0 (t := 2) (et := 3) (sz := 1) true encI rfl rfl ?_
  refine tk Tryz.func55 (.tmp rfl .nil) ?_ (hL := ⟨eqR ?_, trivial⟩)
  all_goals first | rfl | ((exact en1.symm))
 ·
  refine r_end ?_
  refine t_cond rfl (ncf rfl) (fun _ => ?_)
  refine t_skip<|tsr ?_
  refine r_op (o_lit0 0 (e := 3) (sz := 1) (zs := [.int .i64 (0)]) encI rfl rfl (by kernel_rfl) rfl) ?_
  refine rM ?_
  refine r_op (o_appendS 0 (e := 3) (sz := 1) (by' := 8) rfl (by kernel_rfl) rfl rfl rfl rfl (fun _ _ => ⟨_, rfl⟩) (by (simp; omega)) (by (simp; omega))) ?_
  refine rA<|r_end ?_
  refine tk Tryz.func55 (.tmp rfl .nil) ?_ (hL := ⟨eqR ?_, trivial⟩)
  all_goals (rfl)
theorem c_impl_bind (b : List Int) (r : Int) (ts : List Int) (r2 : Int) (vs : List Int) (hb : b.length = 5) (ha : ts.length ≤ 4611686018427387904) (ht : ∀ t ∈ ts, -10 ≤ t ∧ t ≤ 4) (hv : r = r2 → ts.length = vs.length) : Pu Tryz.prog 187 [.c (.t none (.sl 1 encI (b))), .agg [.t none (.v (.int .i64 (r))), .t none (.sl 1 encI (ts))], .agg [.t none (.v (.int .i64 (r2))), .t none (.sl 1 encI (vs))]] [(0, some (.row none 3 true 1 encI (if (fitF (r, ts) (r2, vs) b).2 = true then (fitF (r, ts) (r2, vs) b).1 else [])))] 1 (.tup [(false, [.own 0]), (false, [.t none (.v (.bool ((fitF (r, ts) (r2, vs) b).2)))])]) := by
 refine pu_enter Tryz.func187 rfl (Nat.le_of_ble_eq_true rfl) fun w S => ?_
 refine tsr ?_
 refine r_op (o_box 0 rfl rfl rfl rfl) ?_
 refine r_op (o_box 1 rfl rfl rfl rfl) ?_
 refine rA ?_
 refine rA<|r_end<|t_seq<|tsr ?_
 refine rF 0 ?_
 refine rL ?_
 refine rF 0 ?_
 refine rL ?_
 refine rB<|r_end ?_
 refine t_cond rfl (fun h1 => ?_) (fun h1 => ?_)
 ·
  have h1' := of_decide_eq_true h1
  refine tsr<|rA ?_
  refine rA<|r_end ?_
  refine gt_nil 2 (t := 6) (et := 3) (sz := 1) true encI rfl rfl ?_
  refine gt_as0b 6 2 7 rfl rfl rfl rfl ?_
  refine tk Tryz.func187 (.tmp rfl (.tmp rfl .nil)) ?_ (hL := ⟨eqR ?_, trivial⟩) <;> (try clear ih0)
  all_goals ((have e : fitF (r, ts) (r2, vs) b = _ := (by exact fitF_no (by omega))); first | (rw [e]; done) | (rw [e]; rfl))
 ·
  have h1' := of_decide_eq_false h1
  refine t_skip<|tsr<|rM ?_
  refine r_op (o_call 2 3 false (en Tryz.func55) (c_slices_Clone___int_int_ (b) (by omega)) rfl (.cons rfl (.c .t0) .nil) rfl rfl rfl) ?_
  refine rA<|r_end<|t_seq<|tsr ?_
  refine rF 1 ?_
  refine rL ?_
  refine r_op (o_len rfl rfl rfl) ?_
  refine rM<|r_end<|t_block ?_
  refine t_loopL (fun (m, q) => ⟨[(5, some (.c (.ptr 1 0))), (8, some (.c (.own 2))), (20, some (.c (.t none (.sl 1 encI (ts))))), (21, some (.c (.t none (.v (.int .i64 (((ts).length : Int))))))), (22, some (.c (.t none (.v (.int .i64 ((m : Int)))))))], [(0, some (.box [.t none (.v (.int .i64 (r))), .t none (.sl 1 encI (ts))])), (1, some (.box [.t none (.v (.int .i64 (r2))), .t none (.sl 1 encI (vs))])), (2, some (.row none 3 true 1 encI (q)))], 3⟩ : Nat × List Int → St) (fun (m, q) => m ≤ ts.length ∧ q.length = 5 ∧ fitP b ((ts.zip vs).take m) = (q, true)) (fun (m, q) => ts.length - m) (0, b) ⟨⟨rfl, ⟨rfl, ⟨rfl, ⟨rfl, ⟨rfl, trivial⟩⟩⟩⟩⟩, ⟨rfl, ⟨rfl, ⟨rfl, trivial⟩⟩⟩, rfl⟩ (by exact ⟨Nat.zero_le _, hb, rfl⟩) ?_
  rintro ⟨m, q⟩ hI ih0
  try dsimp only at hI ih0
  obtain ⟨i1, i2, i3⟩ := hI
  refine tsr<|rB<|r_end<|t_seq ?_
  refine t_cond rfl (fun h2 => ?_) (fun h2 => ?_)
  ·
   have h2' := of_decide_eq_true h2
   refine t_skip<|t_seq<|t_block<|tsr<|rM ?_
   obtain ⟨z3, hz4, b5⟩ := at_get (xs := ts) (n := (m : Int)) (by omega) (by omega)
   refine r_op (o_index rfl (by kernel_rfl) rfl rfl b5 hz4) ?_
   refine r_op (o_load1 rfl (by kernel_rfl) rfl rfl) ?_
   refine rA ?_
   refine rA<|etr ?_
   refine rF 1 ?_
   refine rL ?_
   refine rM ?_
   obtain ⟨z6, hz7, b8⟩ := at_get (xs := vs) (n := (m : Int)) (by omega) (by omega)
   refine r_op (o_index rfl (by kernel_rfl) rfl rfl b8 hz7) ?_
   refine r_op (o_load1 rfl (by kernel_rfl) rfl rfl) ?_
   refine rA<|r_end<|t_block<|tsr ?_
   refine rM ?_
   refine rB ?_
   refine rA<|r_end ?_
   refine t_cond rfl (fun h9 => ?_) (fun h9 => ?_)
   ·
    have h9' := of_decide_eq_true h9
    refine tsr<|rM ?_
    refine rM ?_
    refine rB ?_
    refine rB<|r_end ?_
    refine t_cond rfl (fun h10 => ?_) (fun h10 => ?_)
    ·
     have h10' := of_decide_eq_true h10
     refine tsr<|rA ?_
     refine rA<|r_end ?_
     refine gt_nil 3 (t := 6) (et := 3) (sz := 1) true encI rfl rfl ?_
     refine gt_as0b 6 3 7 rfl rfl rfl rfl ?_
     refine tk Tryz.func187 (.tmp rfl (.tmp rfl .nil)) ?_ (hL := ⟨eqR ?_, trivial⟩) <;> (try clear ih0)
     all_goals ((have e : fitF (r, ts) (r2, vs) b = _ := (by exact fitF_yes (by omega) (fit_bad i3 (zip_at hz4 hz7 rfl rfl) (fs_neg_bad (by omega) (by (have o1 := ht _ (List.mem_of_getElem? hz4); have o2 : IntKind.i64.wrap (-1 - z3) = -1 - z3 := wr64 (by omega) (by omega); omega)))))); first | (rw [e]; done) | (rw [e]; rfl))
    ·
     have h10' := of_decide_eq_false h10
     refine t_skip<|t_endblock<|t_endblock<|t_region<|rB ?_
     refine rM<|r_end ?_
     refine t_le ?_ (ih0 (m + 1, q) (by (try dsimp only); omega) (by (try dsimp only); exact ⟨by omega, (by exact i2), by (exact fit_more i3 (zip_at hz4 hz7 rfl rfl) (fs_neg (by omega) (by (have o1 := ht _ (List.mem_of_getElem? hz4); have o2 : IntKind.i64.wrap (-1 - z3) = -1 - z3 := wr64 (by omega) (by omega); omega))))⟩))
     exact ⟨⟨rfl, ⟨rfl, ⟨rfl, ⟨rfl, ⟨(eqI (wr64 (by omega) (by omega))), trivial⟩⟩⟩⟩⟩, ⟨rfl, ⟨rfl, ⟨rfl, trivial⟩⟩⟩, rfl⟩
   ·
    have h9' := of_decide_eq_false h9
    refine tsr<|rM ?_
    refine rM ?_
    obtain ⟨z11, hz12, b13⟩ := at_get (xs := q) (n := z3) (by omega) (by (have o1 := ht _ (List.mem_of_getElem? (by assumption)); omega))
    refine r_op (o_indexo rfl (by kernel_rfl) rfl rfl rfl b13 (at_lt b13 hz12)) ?_
    refine r_op (o_load1o rfl (by kernel_rfl) rfl rfl rfl hz12) ?_
    refine rB ?_
    refine rA<|r_end ?_
    refine t_cond rfl (fun h14 => ?_) (fun h14 => ?_)
    ·
     have h14' := of_decide_eq_true h14
     refine t_region<|rM ?_
     refine rM ?_
     refine rM ?_
     refine r_op (o_indexo rfl (by kernel_rfl) rfl rfl rfl b13 (at_lt b13 hz12)) ?_
     refine r_op (o_storeo (z6) (n := 1) (by kernel_rfl) rfl rfl hz12 rfl rfl rfl rfl (.cons .sc .nil) rfl (fun j h1 h2 => by (simp at h1 h2; omega))) ?_
     refine r_end<|t_endblock<|t_endblock<|t_region<|rB ?_
     refine rM<|r_end ?_
     refine t_le ?_ (ih0 (m + 1, (q).set (z3).toNat (z6)) (by (try dsimp only); omega) (by (try dsimp only); exact ⟨by omega, (by (rw [List.length_set]; exact i2)), by (exact fit_more i3 (zip_at hz4 hz7 rfl rfl) (fs_set (by omega) hz12 (by omega)))⟩))
     exact ⟨⟨rfl, ⟨rfl, ⟨rfl, ⟨rfl, ⟨(eqI (wr64 (by omega) (by omega))), trivial⟩⟩⟩⟩⟩, ⟨rfl, ⟨rfl, ⟨rfl, trivial⟩⟩⟩, rfl⟩
    ·
     have h14' := of_decide_eq_false h14
     refine tsr<|rM ?_
     refine rM ?_
     refine r_op (o_indexo rfl (by kernel_rfl) rfl rfl rfl b13 (at_lt b13 hz12)) ?_
     refine r_op (o_load1o rfl (by kernel_rfl) rfl rfl rfl hz12) ?_
     refine rM ?_
     refine rB ?_
     refine rA<|r_end ?_
     refine t_cond rfl (fun h15 => ?_) (fun h15 => ?_)
     ·
      have h15' := of_decide_eq_true h15
      refine tsr<|rA ?_
      refine rA<|r_end ?_
      refine gt_nil 3 (t := 6) (et := 3) (sz := 1) true encI rfl rfl ?_
      refine gt_as0b 6 3 7 rfl rfl rfl rfl ?_
      refine tk Tryz.func187 (.tmp rfl (.tmp rfl .nil)) ?_ (hL := ⟨eqR ?_, trivial⟩) <;> (try clear ih0)
      all_goals ((have e : fitF (r, ts) (r2, vs) b = _ := (by exact fitF_yes (by omega) (fit_bad i3 (zip_at hz4 hz7 rfl rfl) (fs_bad (by omega) hz12 (by omega) (by omega))))); first | (rw [e]; done) | (rw [e]; rfl))
     ·
      have h15' := of_decide_eq_false h15
      refine t_skip<|t_endblock<|t_endblock<|t_region<|rB ?_
      refine rM<|r_end ?_
      refine t_le ?_ (ih0 (m + 1, q) (by (try dsimp only); omega) (by (try dsimp only); exact ⟨by omega, (by exact i2), by (exact fit_more i3 (zip_at hz4 hz7 rfl rfl) (fs_same (by omega) hz12 (by omega)))⟩))
      exact ⟨⟨rfl, ⟨rfl, ⟨rfl, ⟨rfl, ⟨(eqI (wr64 (by omega) (by omega))), trivial⟩⟩⟩⟩⟩, ⟨rfl, ⟨rfl, ⟨rfl, trivial⟩⟩⟩, rfl⟩
  ·
   have h2' := of_decide_eq_false h2
   refine t_exit rfl<|tsr<|rM ?_
   refine rA ?_
   refine rA<|r_end ?_
   refine gt_as0b 6 2 7 rfl rfl rfl rfl ?_
   refine tk Tryz.func187 (.tmp rfl (.tmp rfl .nil)) ?_ (hL := ⟨eqR ?_, trivial⟩) <;> (try clear ih0)
   all_goals ((have e : fitF (r, ts) (r2, vs) b = _ := (by exact fitF_yes (by omega) (fit_end i3 (by omega)))); first | (rw [e]; done) | (rw [e]; rfl))
theorem c_impl_matches_n : ∀ (n : Nat) (U : Nat → Value) (fs l : Atoms) (b : List Int) (hf : fs.length ≤ 30) (hl : l.length ≤ 3) (hb : b.length = 5) (hv : ∀ a ∈ l, ∀ f ∈ fs, a.1 = f.1 → a.2.length = f.2.length) (ht : ∀ a ∈ l, (∀ t ∈ a.2, -10 ≤ t ∧ t ≤ 4) ∧ a.2.length ≤ 4611686018427387904) (hn : l.length = n), Mu Tryz.prog 153 [.c (.t none (.sl 2 (enS2 encI (enSl 1 encI)) (fs))), .c (.t none (.sl 2 (enS2 encI (enSl 1 encI)) (l))), .c (.own 0)] [(0, some (.row (some (U 0)) 3 true 1 encI (b)))] 1 [(0, some (.row none 29 true 1 (enSl 1 encI) (matchL fs l b)))] 1 (.c (.own 0)) := by
 refine rec_on fun n ih => ?_
 intro U fs l b hf hl hb hv ht hn
 have rec_ : ∀ (U : Nat → Value) (fs l : Atoms) (b : List Int) (hdec : l.length < n) (hf : fs.length ≤ 30) (hl : l.length ≤ 3) (hb : b.length = 5) (hv : ∀ a ∈ l, ∀ f ∈ fs, a.1 = f.1 → a.2.length = f.2.length) (ht : ∀ a ∈ l, (∀ t ∈ a.2, -10 ≤ t ∧ t ≤ 4) ∧ a.2.length ≤ 4611686018427387904), Mu Tryz.prog 153 [.c (.t none (.sl 2 (enS2 encI (enSl 1 encI)) (fs))), .c (.t none (.sl 2 (enS2 encI (enSl 1 encI)) (l))), .c (.own 0)] [(0, some (.row (some (U 0)) 3 true 1 encI (b)))] 1 [(0, some (.row none 29 true 1 (enSl 1 encI) (matchL fs l b)))] 1 (.c (.own 0)) := fun U fs l b hdec hf hl hb hv ht => ih _ hdec U fs l b hf hl hb hv ht rfl
 refine mu_enter Tryz.func153 rfl (Nat.le_of_ble_eq_true rfl) fun w S M => ?_
 refine tsr<|rA<|r_end<|t_seq<|tsr ?_
 refine rM ?_
 refine r_op (o_len rfl rfl rfl) ?_
 refine rB<|r_end ?_
 refine t_cond rfl (fun h1 => ?_) (fun h1 => ?_)
 ·
  have h1' := of_decide_eq_true h1
  refine tsr<|rM ?_
  refine r_op (o_lit2 1 (e := 29) (sz := 1) (zs := [.slice none 0 0]) (enc := (enSl 1 encI)) (b) rfl rfl (by kernel_rfl) rfl rfl rfl rfl rfl rfl (.take (.own rfl) rfl .nil) rfl) ?_
  refine rA<|r_end ?_
  refine gt_as0 6 1 rfl rfl ?_
  refine tkM Tryz.func153 (.tmp rfl .nil) ?_ (hL := ⟨eqR ?_, trivial⟩) <;> (try clear ih0)
  all_goals first | rfl | ((exact (matchL_nil (by assumption)).symm))
 ·
  have h1' := of_decide_eq_false h1
  refine t_skip<|tsr ?_
  refine r_op (o_lit0 1 (e := 29) (sz := 1) (zs := [.slice none 0 0]) (enSl 1 encI) rfl rfl (by kernel_rfl) rfl) ?_
  refine rA<|r_end<|t_seq<|tsr ?_
  refine rM ?_
  refine r_op (o_len rfl rfl rfl) ?_
  refine rM<|r_end<|t_block ?_
  refine t_loopL (fun m => ⟨[(0, some (.c (.t none (.sl 2 (enS2 encI (enSl 1 encI)) (fs))))), (1, some (.c (.t none (.sl 2 (enS2 encI (enSl 1 encI)) (l))))), (2, some (.c (.own 0))), (6, some (.c (.t none (.v (.slice none 0 0))))), (7, some (.c (.own 1))), (18, some (.c (.t none (.sl 2 (enS2 encI (enSl 1 encI)) (fs))))), (19, some (.c (.t none (.v (.int .i64 (((fs).length : Int))))))), (20, some (.c (.t none (.v (.int .i64 ((m : Int)))))))], [(0, some (.row (some (U 0)) 3 true 1 encI (b))), (1, some (.row none 29 true 1 (enSl 1 encI) (matchM fs l b m)))], 2⟩ : Nat → St) (fun m => m ≤ fs.length) (fun m => fs.length - m) 0 ⟨⟨rfl, ⟨rfl, ⟨rfl, ⟨rfl, ⟨rfl, ⟨rfl, ⟨rfl, ⟨rfl, trivial⟩⟩⟩⟩⟩⟩⟩⟩, ⟨rfl, ⟨(eqR (matchM_z (by assumption)).symm), trivial⟩⟩, rfl⟩ (by exact Nat.zero_le _) ?_
  rintro m hI ih0
  try dsimp only at hI ih0
  have i1 := hI
  refine tsr<|rB<|r_end<|t_seq ?_
  refine t_cond rfl (fun h2 => ?_) (fun h2 => ?_)
  ·
   have h2' := of_decide_eq_true h2
   refine t_skip<|t_seq<|t_block<|tsr ?_
   obtain ⟨z3, hz4, b5⟩ := at_get (xs := fs) (n := (m : Int)) (by omega) (by omega)
   refine r_op (o_index rfl (by kernel_rfl) rfl rfl b5 hz4) ?_
   refine r_op (o_loadA rfl (n := 2) (by kernel_rfl) (by kernel_rfl) rfl rfl) ?_
   refine r_op (o_alloc 2 (zs := [.int .i64 (0), .slice none 0 0]) rfl rfl (by kernel_rfl) rfl) ?_
   refine rS 2<|r_end<|t_seq ?_
   refine t_draw (fun _ => true) (by kernel_rfl) ?_
   refine dT 0 rfl pM ?_
   refine dT 1 rfl pM ?_
   obtain ⟨z6, hz7, b8⟩ := at_get (xs := l) (n := 0) (by omega) (by omega)
   refine dT 2 rfl (p_index (by kernel_rfl) rfl rfl b8 hz7) ?_
   refine dT 3 rfl (p_loadA (n := 2) (by kernel_rfl) (by kernel_rfl) rfl rfl) ?_
   refine dT 4 rfl (pC 2) ?_
   refine dO 5 rfl (o_call 3 4 false (en Tryz.func187) (c_impl_bind (b) (z6.1) (z6.2) (z3.1) (z3.2) (by omega) (by exact (ht _ (List.mem_of_getElem? (by assumption))).2) (by exact (ht _ (List.mem_of_getElem? (by assumption))).1) (by exact hv _ (List.mem_of_getElem? (by assumption)) _ (List.mem_of_getElem? (by assumption)))) rfl (.cons rfl (.c (.own rfl)) (.cons rfl (.agg (.cons .t0 (.cons .t0 .nil))) (.cons rfl (.agg (.cons .t0 (.cons .t0 .nil))) .nil))) rfl rfl rfl) ?_
   refine dT 6 rfl pM ?_
   refine dT 7 rfl (p_extract rfl rfl rfl) ?_
   refine dT 8 rfl (p_extract rfl rfl rfl) ?_
   refine dT 9 rfl pA ?_
   refine dT 10 rfl pA ?_
   refine d_end (by kernel_rfl) ?_
   refine tsr<|rM<|r_end ?_
   refine t_cond rfl (fun h9 => ?_) (fun h9 => ?_)
   ·
    have h9' := h9
    refine t_region<|rM ?_
    refine rM ?_
    refine rM ?_
    refine r_op (o_sub rfl (by kernel_rfl) rfl (.l rfl (by omega) (by omega))) ?_
    refine rM ?_
    refine r_op (o_callD 3 (matchL (fs) (((l).take (l).length).drop ((1 : Int)).toNat) (if (fitF ((z6.1), (z6.2)) ((z3.1), (z3.2)) (b)).2 = true then (fitF ((z6.1), (z6.2)) ((z3.1), (z3.2)) (b)).1 else [])) (en Tryz.func153) (fun U => rec_ U  (fs) (((l).take (l).length).drop ((1 : Int)).toNat) (if (fitF ((z6.1), (z6.2)) ((z3.1), (z3.2)) (b)).2 = true then (fitF ((z6.1), (z6.2)) ((z3.1), (z3.2)) (b)).1 else []) (by (simp only [List.length_drop, List.length_take]; omega)) (by omega) (by (simp only [List.length_drop, List.length_take]; omega)) (by (rw [if_pos (by assumption)]; exact (fitF_len _ _ _).trans hb)) (by exact fun a ha => hv a (mem_tail ha)) (by exact fun a ha => ht a (mem_tail ha))) rfl rfl (.cons rfl .t0 (.cons rfl .t0 (.cons rfl (.own rfl) .nil)))) ?_
    refine r_op (o_appendD 1 (e := 29) (sz := 1) (by' := 24) rfl (by kernel_rfl) rfl rfl rfl rfl rfl rfl (by (refine Nat.le_trans (Nat.mul_le_mul_right _ (room_m hf hl (ne_nil_of (by assumption)) (by simp only [List.length_drop, List.length_take]; omega))) (by decide))) (by exact Nat.le_trans (room_m hf hl (ne_nil_of (by assumption)) (by simp only [List.length_drop, List.length_take]; omega)) (by decide))) ?_
    refine rA<|r_end<|t_endblock<|t_region ?_
    refine rB ?_
    refine rM<|r_end ?_
    refine t_le ?_ (ih0 (m + 1) (by (try dsimp only); omega) (by (try dsimp only); omega))
    exact ⟨⟨rfl, ⟨rfl, ⟨rfl, ⟨rfl, ⟨rfl, ⟨rfl, ⟨rfl, ⟨(eqI (wr64 (by omega) (by omega))), trivial⟩⟩⟩⟩⟩⟩⟩⟩, ⟨rfl, ⟨(eqR (by (have e := matchM_yes (fs := fs) (l := l) (b := b) (m := m) hz7 rfl hz4 rfl (by assumption); rw [e, if_pos (by assumption), List.take_length]; rfl))), trivial⟩⟩, rfl⟩
   ·
    have h9' := h9
    refine t_skip<|t_endblock<|t_region<|rB ?_
    refine rM<|r_end ?_
    refine t_le ?_ (ih0 (m + 1) (by (try dsimp only); omega) (by (try dsimp only); omega))
    exact ⟨⟨rfl, ⟨rfl, ⟨rfl, ⟨rfl, ⟨rfl, ⟨rfl, ⟨rfl, ⟨(eqI (wr64 (by omega) (by omega))), trivial⟩⟩⟩⟩⟩⟩⟩⟩, ⟨rfl, ⟨(eqR (by exact (matchM_no hz7 rfl hz4 rfl (by assumption)).symm)), trivial⟩⟩, rfl⟩
  ·
   have h2' := of_decide_eq_false h2
   refine t_exit rfl<|tsr<|rM ?_
   refine rA<|r_end ?_
   refine gt_as0 6 1 rfl rfl ?_
   refine tkM Tryz.func153 (.tmp rfl .nil) ?_ (hL := ⟨eqR ?_, trivial⟩) <;> (try clear ih0)
   all_goals first | rfl | ((exact matchM_end (ne_nil_of (by assumption)) (by omega)))
theorem c_impl_matches (U : Nat → Value) (fs l : Atoms) (b : List Int) (hf : fs.length ≤ 30) (hl : l.length ≤ 3) (hb : b.length = 5) (hv : ∀ a ∈ l, ∀ f ∈ fs, a.1 = f.1 → a.2.length = f.2.length) (ht : ∀ a ∈ l, (∀ t ∈ a.2, -10 ≤ t ∧ t ≤ 4) ∧ a.2.length ≤ 4611686018427387904) : Mu Tryz.prog 153 [.c (.t none (.sl 2 (enS2 encI (enSl 1 encI)) (fs))), .c (.t none (.sl 2 (enS2 encI (enSl 1 encI)) (l))), .c (.own 0)] [(0, some (.row (some (U 0)) 3 true 1 encI (b)))] 1 [(0, some (.row none 29 true 1 (enSl 1 encI) (matchL fs l b)))] 1 (.c (.own 0)) := c_impl_matches_n _ U fs l b hf hl hb hv ht rfl
theorem c_slices_Equal___int_int_ (a b : List Int) (ha : a.length ≤ 4611686018427387904) : Pu Tryz.prog 230 [.c (.t none (.sl 1 encI (a))), .c (.t none (.sl 1 encI (b)))] [] 0 (.c (.t none (.v (.bool (decide (a = b)))))) := by
 refine pu_enter Tryz.func230 rfl (Nat.le_of_ble_eq_true rfl) fun w S => ?_
 refine tsr<|rA<|r_end<|t_seq<|tsr ?_
 refine rM ?_
 refine r_op (o_len rfl rfl rfl) ?_
 refine rM ?_
 refine r_op (o_len rfl rfl rfl) ?_
 refine rB<|r_end ?_
 refine t_cond rfl (fun h1 => ?_) (fun h1 => ?_)
 ·
  have h1' := of_decide_eq_true h1
  refine tsr<|rA<|r_end ?_
  refine tk Tryz.func230 (.tmp rfl .nil) ?_ <;> (try clear ih0)
  all_goals ((have : a ≠ b := by rintro rfl; simp at *); simp [this])
 ·
  have h1' := of_decide_eq_false h1
  refine t_skip<|t_seq<|tsr<|rM ?_
  refine r_op (o_len rfl rfl rfl) ?_
  refine rM<|r_end<|t_block ?_
  refine t_loopL (fun m => ⟨[(0, some (.c (.t none (.sl 1 encI (a))))), (1, some (.c (.t none (.sl 1 encI (b))))), (12, some (.c (.t none (.v (.int .i64 (((a).length : Int))))))), (13, some (.c (.t none (.v (.int .i64 ((m : Int)))))))], [], 0⟩ : Nat → St) (fun m => m ≤ a.length ∧ a.length = b.length ∧ a.take m = b.take m) (fun m => a.length - m) 0 ⟨⟨rfl, ⟨rfl, ⟨rfl, ⟨rfl, trivial⟩⟩⟩⟩, trivial, rfl⟩ (by exact ⟨Nat.zero_le _, by omega, rfl⟩) ?_
  rintro m hI ih0
  try dsimp only at hI ih0
  obtain ⟨i1, i2, i3⟩ := hI
  refine tsr<|rB<|r_end<|t_seq ?_
  refine t_cond rfl (fun h2 => ?_) (fun h2 => ?_)
  ·
   have h2' := of_decide_eq_true h2
   refine t_skip<|t_seq<|t_block<|tsr<|rM ?_
   refine rA<|r_end<|t_seq ?_
   refine t_draw (fun _ => true) (by kernel_rfl) ?_
   refine dT 0 rfl pM ?_
   refine dT 1 rfl pM ?_
   obtain ⟨z3, hz4, b5⟩ := at_get (xs := a) (n := (m : Int)) (by omega) (by omega)
   refine dT 2 rfl (p_index (by kernel_rfl) rfl rfl b5 hz4) ?_
   refine dT 3 rfl (p_load1 (by kernel_rfl) rfl rfl) ?_
   refine dT 4 rfl pM ?_
   refine dT 5 rfl pM ?_
   obtain ⟨z6, hz7, b8⟩ := at_get (xs := b) (n := (m : Int)) (by omega) (by omega)
   refine dT 6 rfl (p_index (by kernel_rfl) rfl rfl b8 hz7) ?_
   refine dT 7 rfl (p_load1 (by kernel_rfl) rfl rfl) ?_
   refine dT 8 rfl pB ?_
   refine d_end (by kernel_rfl) ?_
   refine t_cond rfl (fun h9 => ?_) (fun h9 => ?_)
   ·
    have h9' := of_decide_eq_true h9
    refine tsr<|rA<|r_end ?_
    refine tk Tryz.func230 (.tmp rfl .nil) ?_ <;> (try clear ih0)
    all_goals (have := ne_at (a := a) (b := b) (by assumption) (by assumption) (by assumption); simp_all)
   ·
    have h9' := of_decide_eq_false h9
    refine t_skip<|t_endblock<|t_region<|rB ?_
    refine rM<|r_end ?_
    refine t_le ?_ (ih0 (m + 1) (by (try dsimp only); omega) (by (try dsimp only); exact ⟨by omega, i2, take_same i3 (same_at (by assumption) (by assumption) (by omega))⟩))
    exact ⟨⟨rfl, ⟨rfl, ⟨rfl, ⟨(eqI (wr64 (by omega) (by omega))), trivial⟩⟩⟩⟩, trivial, rfl⟩
  ·
   have h2' := of_decide_eq_false h2
   refine t_exit rfl<|tsr<|rA<|r_end ?_
   refine tk Tryz.func230 (.tmp rfl .nil) ?_ <;> (try clear ih0)
   all_goals ((obtain rfl : m = a.length := by omega); rw [List.take_length, i2, List.take_length] at i3; simp [i3])
theorem c_impl_hasBinding_1 (y x : List Int) (hy : y.length ≤ 4611686018427387904) : Pu Tryz.prog 229 [.c (.t none (.sl 1 encI (y))), .c (.pel none ((enSl 1 encI) (x)) 1)] [] 0 (.c (.t none (.v (.bool (decide (y = x)))))) := by
 refine pu_enter Tryz.func229 rfl (Nat.le_of_ble_eq_true rfl) fun w S => ?_
 refine tsr<|rA<|etr ?_
 refine rM ?_
 refine r_op (o_load1 rfl (by kernel_rfl) rfl rfl) ?_
 refine r_op (o_call 0 0 false (en Tryz.func230) (c_slices_Equal___int_int_ (y) (x) (by omega)) rfl (.cons rfl (.c .t0) (.cons rfl (.c .t0) .nil)) rfl rfl rfl) ?_
 refine rA<|r_end ?_
 refine tk Tryz.func229 (.tmp rfl .nil) ?_
 all_goals (rfl)
theorem c_slices_IndexFunc_____int___int_ (l : List (List (Int))) (f : Nat) (cs : List ((Nat → T) × Nat)) (p : List (Int) → Bool) (hl : l.length ≤ 9223372036854775807) (hf : ∀ x ∈ l, Fu Tryz.prog f ([.c (.t none (.sl 1 encI (x)))] ++ pels cs) (.c (.t none (.v (.bool (p x)))))) : Pu Tryz.prog 241 [.c (.t none (.sl 1 (enSl 1 encI) (l))), .c (.fv f cs)] [] 0 (.c (.t none (.v (.int .i64 (idxI p l))))) := by
 refine pu_enter Tryz.func241 rfl (Nat.le_of_ble_eq_true rfl) fun w S => ?_
 refine tsr<|rA<|r_end<|t_seq<|tsr ?_
 refine rM ?_
 refine r_op (o_len rfl rfl rfl) ?_
 refine rM<|r_end<|t_block ?_
 refine t_loopL (fun m => ⟨[(0, some (.c (.t none (.sl 1 (enSl 1 encI) (l))))), (1, some (.c (.fv f cs))), (7, some (.c (.t none (.v (.int .i64 (((l).length : Int))))))), (8, some (.c (.t none (.v (.int .i64 ((m : Int)))))))], [], 0⟩ : Nat → St) (fun m => m ≤ l.length ∧ ∀ j z, j < m → l[j]? = some z → p z = false) (fun m => l.length - m) 0 ⟨⟨rfl, ⟨rfl, ⟨rfl, ⟨rfl, trivial⟩⟩⟩⟩, trivial, rfl⟩ (by exact ⟨Nat.zero_le _, fun j z h => by omega⟩) ?_
 rintro m hI ih0
 try dsimp only at hI ih0
 obtain ⟨i1, i2⟩ := hI
 refine tsr<|rB<|r_end<|t_seq ?_
 refine t_cond rfl (fun h1 => ?_) (fun h1 => ?_)
 ·
  have h1' := of_decide_eq_true h1
  refine t_skip<|t_seq<|t_block<|tsr<|rM ?_
  refine rA<|etr ?_
  refine rM ?_
  refine rM ?_
  refine rM ?_
  obtain ⟨z2, hz3, b4⟩ := at_get (xs := l) (n := (m : Int)) (by omega) (by omega)
  refine r_op (o_index rfl (by kernel_rfl) rfl rfl b4 hz3) ?_
  refine r_op (o_load1 rfl (by kernel_rfl) rfl rfl) ?_
  refine r_op (o_callv 0 0 false (hf z2 (List.mem_of_getElem? (by assumption))).1 (hf z2 (List.mem_of_getElem? (by assumption))).2 rfl rfl (.c .fv) (.cons rfl (.c .t0) .nil) rfl rfl rfl) ?_
  refine r_end ?_
  refine t_cond rfl (fun h5 => ?_) (fun h5 => ?_)
  ·
   have h5' := h5
   refine tsr<|rM ?_
   refine rA<|r_end ?_
   refine tk Tryz.func241 (.tmp rfl .nil) ?_ <;> (try clear ih0)
   all_goals (rw [idx_hit i2 (by assumption) (by assumption)])
  ·
   have h5' := h5
   refine t_skip<|t_endblock<|t_region<|rB ?_
   refine rM<|r_end ?_
   refine t_le ?_ (ih0 (m + 1) (by (try dsimp only); omega) (by (try dsimp only); exact ⟨by omega, no_step i2 (by assumption) rfl (by assumption)⟩))
   exact ⟨⟨rfl, ⟨rfl, ⟨rfl, ⟨(eqI (wr64 (by omega) (by omega))), trivial⟩⟩⟩⟩, trivial, rfl⟩
 ·
  have h1' := of_decide_eq_false h1
  refine t_exit rfl<|tsr<|rA<|r_end ?_
  refine tk Tryz.func241 (.tmp rfl .nil) ?_ <;> (try clear ih0)
  all_goals (rw [idx_none i2 (by omega)])
theorem c_slices_ContainsFunc_____int___int_ (l : List (List (Int))) (f : Nat) (cs : List ((Nat → T) × Nat)) (p : List (Int) → Bool) (hl : l.length ≤ 9223372036854775807) (hf : ∀ x ∈ l, Fu Tryz.prog f ([.c (.t none (.sl 1 encI (x)))] ++ pels cs) (.c (.t none (.v (.bool (p x)))))) : Pu Tryz.prog 228 [.c (.t none (.sl 1 (enSl 1 encI) (l))), .c (.fv f cs)] [] 0 (.c (.t none (.v (.bool (l.any p))))) := by
 refine pu_enter Tryz.func228 rfl (Nat.le_of_ble_eq_true rfl) fun w S => ?_
 refine tsr<|rA<|etr ?_
 refine rM ?_
 refine rM ?_
 refine r_op (o_call 0 0 false (en Tryz.func241) (c_slices_IndexFunc_____int___int_ (l) (f) (cs) (p) (by omega) (hf)) rfl (.cons rfl (.c .t0) (.cons rfl (.c .fv) .nil)) rfl rfl rfl) ?_
 refine rB ?_
 refine rA<|r_end ?_
 refine tk Tryz.func228 (.tmp rfl .nil) ?_
 all_goals (exact scB idx_any)
theorem c_impl_hasBinding (l : List (List Int)) (x : List Int) (hn : l.length ≤ 1048576) (hl : ∀ y ∈ l, y.length ≤ 1048576) : Pu Tryz.prog 202 [.c (.t none (.sl 1 (enSl 1 encI) (l))), .c (.t none (.sl 1 encI (x)))] [] 0 (.c (.t none (.v (.bool (hasR l x))))) := by
 refine pu_enter Tryz.func202 rfl (Nat.le_of_ble_eq_true rfl) fun w S => ?_
 refine tsr ?_
 refine r_op (o_box 0 rfl rfl rfl rfl) ?_
 refine rA<|etr ?_
 refine rM ?_
 refine r_op (o_makeFunc rfl (.cons rfl .nil)) ?_
 refine r_op (o_call 1 1 false (en Tryz.func228) (c_slices_ContainsFunc_____int___int_ (l) (229) ([((enSl 1 encI) (x), 1)]) (fun (x0 : List (Int)) => decide ((x0) = (x))) (by omega) (fun x0 mx0 => ⟨en Tryz.func229, c_impl_hasBinding_1 (x0) (x) (by (have e := hl _ (by assumption); omega))⟩)) rfl (.cons rfl (.c .t0) (.cons rfl (.c (.clo (.cons rfl rfl rfl (.cons .t .nil) .nil))) .nil)) rfl rfl rfl) ?_
 refine rA<|r_end ?_
 refine tk Tryz.func202 (.tmp rfl .nil) ?_
 all_goals (rfl)
theorem c_impl_FindMatches (rs : Rels) (fs l : Atoms) (hrs : rs.length ≤ 4611686018427387904) (hfs : szS (fun (x : Int × (List (Int))) => (x.2).length) fs ≤ 1048576) (hll : szS (fun (x : Int × (List (Int))) => (x.2).length) l ≤ 1048576) (ho : ∀ z ∈ fs, ∀ x ∈ z.2, okI x) : Pu Tryz.prog 167 [.agg [.t none (.sl 3 (enS3 encS encI encB) (rs)), .t none (.sl 2 (enS2 encI (enSl 1 encI)) (fs))], .c (.t none (.sl 2 (enS2 encI (enSl 1 encI)) (l)))] [(1, some (.row none 29 true 1 (enSl 1 encI) (findL rs fs l)))] 2 (.c (.own 1)) := by
 refine pu_enter Tryz.func167 rfl (Nat.le_of_ble_eq_true rfl) fun w S => ?_
 refine tsr ?_
 refine r_op (o_box 0 rfl rfl rfl rfl) ?_
 refine rA<|etr ?_
 refine r_op (o_lit0 1 (e := 29) (sz := 1) (zs := [.slice none 0 0]) (enSl 1 encI) rfl rfl (by kernel_rfl) rfl) ?_
 refine rA<|r_end<|t_seq<|tsr ?_
 refine rC 2 ?_
 refine rM ?_
 refine r_op (o_call 2 2 false (en Tryz.func152) (c_impl_areMatchable (rs) (fs) (l) (by omega) (by omega) (by omega) (by omega)) rfl (.cons rfl (.agg (.cons .t0 (.cons .t0 .nil))) (.cons rfl (.c .t0) .nil)) rfl rfl rfl) ?_
 refine r_op (o_not rfl rfl) ?_
 refine r_end ?_
 refine t_cond rfl (fun h1 => ?_) (fun h1 => ?_)
 ·
  have h1' := (bnt h1)
  refine tsr<|rM ?_
  refine rA<|r_end ?_
  refine tk Tryz.func167 (.tmp rfl .nil) ?_ (hL := ⟨eqR ?_, trivial⟩) <;> (try clear ih0)
  all_goals first | rfl | ((exact findL_no (by simp_all; done)))
 ·
  have h1' := (bnf h1)
  refine t_skip<|t_seq<|t_seq ?_
  refine t_draw (fun i => !(Nat.beq i 4)) (by kernel_rfl) ?_
  refine dT 0 rfl (pF 1) ?_
  refine dT 1 rfl pL ?_
  refine dT 2 rfl pM ?_
  refine d_two 3 6 rfl rfl (by kernel_rfl) rfl rfl (o_call 2 4 false (en Tryz.func201) (c_impl_unboundBinding ) rfl .nil rfl rfl rfl) oM ?_ ?_
  ·
   refine d_two 4 6 rfl rfl (by kernel_rfl) rfl rfl (o_callD 3 (matchL (fs) (l) (freeB)) (en Tryz.func153) (fun U => c_impl_matches U  (fs) (l) (freeB) (by exact (mt_pre (by assumption)).1) (by exact (mt_pre (by assumption)).2.1) (by rfl) (by exact (mt_pre (by assumption)).2.2.1) (by exact (mt_pre (by assumption)).2.2.2)) rfl rfl (.cons rfl .t0 (.cons rfl .t0 (.cons rfl (.own rfl) .nil)))) oM ?_ ?_
   ·
    refine dT 5 rfl (p_leno rfl rfl rfl) ?_
    refine dT 6 rfl pM ?_
    refine d_end (by kernel_rfl) ?_
    refine t_block ?_
    refine gt_sum 3 rfl ?_
    refine t_loopL (fun (vs, m) => ⟨[(4, some (.c (.t none (.v (.slice none 0 0))))), (5, some (.c (.own 1))), (18, some (.c (.own 3))), (19, some (.c (.t none (.v (.int .i64 (((matchL (fs) (l) (freeB)).length : Int))))))), (20, some (.c (.t none (.v (.int .i64 ((m : Int)))))))], [(0, some (.box [.t none (.sl 3 (enS3 encS encI encB) (rs)), .t none (.sl 2 (enS2 encI (enSl 1 encI)) (fs))])), (1, some (.row none 29 true 1 (enSl 1 encI) (dedL ((matchL fs l freeB).take m)))), (3, some (.row none 29 true 1 (encK (enSl 1 encI)) (tkL vs (matchL fs l freeB))))], 4⟩ : List Value × Nat → St) (fun (vs, m) => vs.length = m ∧ m ≤ (matchL fs l freeB).length) (fun (vs, m) => (matchL fs l freeB).length - m) ([], 0) ⟨⟨rfl, ⟨rfl, ⟨rfl, ⟨rfl, ⟨rfl, trivial⟩⟩⟩⟩⟩, ⟨rfl, ⟨rfl, ⟨rfl, trivial⟩⟩⟩, rfl⟩ (by exact ⟨rfl, Nat.zero_le _⟩) ?_
    rintro ⟨vs, m⟩ hI ih0
    try dsimp only at hI ih0
    obtain ⟨i0, i1⟩ := hI; have mp := mt_pre (rs := rs) (fs := fs) (l := l) (by assumption); have dr := ded_room (m := m) mp.1 mp.2.1; have tl := tkL_len (vs := vs) (L := matchL fs l freeB) (by omega); have mm := matchL_most mp.1 mp.2.1 freeB
    refine tsr<|rB<|r_end<|t_seq ?_
    refine t_cond rfl (fun h2 => ?_) (fun h2 => ?_)
    ·
     have h2' := of_decide_eq_true h2
     refine t_skip<|t_seq<|t_block<|t_seq ?_
     obtain ⟨z3, hz4, b5⟩ := at_get (xs := matchL fs l freeB) (n := (m : Int)) (by omega) (by omega)
     refine gt_take0 4 3 rfl rfl (tkL_at (by omega) hz4) fun e6 v7 => ?_
     refine t_region ?_
     obtain ⟨z8, hz9, b10⟩ := at_get (xs := (tkL vs (matchL fs l freeB)).set (m : Int).toNat (.inl v7)) (n := (m : Int)) (by omega) (by (rw [List.length_set]; omega))
     refine r_op (o_indexo rfl (by kernel_rfl) rfl rfl rfl b10 (at_lt b10 hz9)) ?_
     refine r_op (o_loadpin rfl (k := 4) (o := 0) (by kernel_rfl) rfl rfl (tk_got (by omega) (by omega)) rfl) ?_
     refine rA<|etr ?_
     refine rM ?_
     refine rM ?_
     refine r_op (o_call 5 5 false (en Tryz.func202) (c_impl_hasBinding (dedL ((matchL fs l freeB).take m)) (z3) (by omega) (by (intro y hy; have e5 := ded_five hy; omega))) rfl (.cons rfl (.c (.own rfl)) (.cons rfl (.c (.own rfl)) .nil)) rfl rfl rfl) ?_
     refine r_op (o_not rfl rfl) ?_
     refine r_end ?_
     refine t_cond rfl (fun h11 => ?_) (fun h11 => ?_)
     ·
      have h11' := (bnt h11)
      refine t_region<|rM ?_
      refine rM ?_
      refine r_op (o_litS 5 (e := 29) (sz := 1) (zs := [.slice none 0 0]) rfl rfl (by kernel_rfl) rfl rfl rfl rfl rfl) ?_
      refine r_op (o_append 1 (e := 29) (sz := 1) (by' := 24) (z3) rfl (by kernel_rfl) rfl rfl rfl rfl rfl rfl (.take (.own rfl) rfl .nil) rfl (by omega) (by omega)) ?_
      refine rA<|r_end<|t_endblock<|t_region ?_
      refine rB ?_
      refine rM<|r_end ?_
      refine t_le ?_ (ih0 (vs ++ [v7], m + 1) (by (try dsimp only); omega) (by (try dsimp only); exact ⟨by simp; omega, by omega⟩))
      exact ⟨⟨rfl, ⟨rfl, ⟨rfl, ⟨rfl, ⟨(eqI (wr64 (by omega) (by omega))), trivial⟩⟩⟩⟩⟩, ⟨rfl, ⟨(eqR (by exact (ded_more hz4 rfl (by assumption)).symm)), ⟨(eqR (tkL_set i0 (by omega))), trivial⟩⟩⟩, rfl⟩
     ·
      have h11' := (bnf h11)
      refine t_skip<|t_endblock<|t_region<|rB ?_
      refine rM<|r_end ?_
      refine t_le ?_ (ih0 (vs ++ [v7], m + 1) (by (try dsimp only); omega) (by (try dsimp only); exact ⟨by simp; omega, by omega⟩))
      exact ⟨⟨rfl, ⟨rfl, ⟨rfl, ⟨rfl, ⟨(eqI (wr64 (by omega) (by omega))), trivial⟩⟩⟩⟩⟩, ⟨rfl, ⟨(eqR (by exact (ded_same hz4 rfl (by assumption)).symm)), ⟨(eqR (tkL_set i0 (by omega))), trivial⟩⟩⟩, rfl⟩
    ·
     have h2' := of_decide_eq_false h2
     refine t_exit rfl<|tsr<|rM ?_
     refine rA<|r_end ?_
     refine tk Tryz.func167 (.tmp rfl .nil) ?_ (hL := ⟨eqR ?_, trivial⟩) <;> (try clear ih0)
     all_goals first | rfl | ((exact findL_yes (by assumption) (by omega)))
   ·
    refine dO 4 rfl (o_callD 3 (matchL (fs) (l) (freeB)) (en Tryz.func153) (fun U => c_impl_matches U  (fs) (l) (freeB) (by exact (mt_pre (by assumption)).1) (by exact (mt_pre (by assumption)).2.1) (by rfl) (by exact (mt_pre (by assumption)).2.2.1) (by exact (mt_pre (by assumption)).2.2.2)) rfl rfl (.cons rfl .t0 (.cons rfl .t0 (.cons rfl (.own rfl) .nil)))) ?_
    refine dT 5 rfl (p_leno rfl rfl rfl) ?_
    refine d_end (by kernel_rfl) ?_
    refine t_block ?_
    refine gt_sum 3 rfl ?_
    refine t_loopL (fun (vs, m) => ⟨[(4, some (.c (.t none (.v (.slice none 0 0))))), (5, some (.c (.own 1))), (18, some (.c (.own 3))), (19, some (.c (.t none (.v (.int .i64 (((matchL (fs) (l) (freeB)).length : Int))))))), (20, some (.c (.t none (.v (.int .i64 ((m : Int)))))))], [(0, some (.box [.t none (.sl 3 (enS3 encS encI encB) (rs)), .t none (.sl 2 (enS2 encI (enSl 1 encI)) (fs))])), (1, some (.row none 29 true 1 (enSl 1 encI) (dedL ((matchL fs l freeB).take m)))), (3, some (.row none 29 true 1 (encK (enSl 1 encI)) (tkL vs (matchL fs l freeB))))], 4⟩ : List Value × Nat → St) (fun (vs, m) => vs.length = m ∧ m ≤ (matchL fs l freeB).length) (fun (vs, m) => (matchL fs l freeB).length - m) ([], 0) ⟨⟨rfl, ⟨rfl, ⟨rfl, ⟨rfl, ⟨rfl, trivial⟩⟩⟩⟩⟩, ⟨rfl, ⟨rfl, ⟨rfl, trivial⟩⟩⟩, rfl⟩ (by exact ⟨rfl, Nat.zero_le _⟩) ?_
    rintro ⟨vs, m⟩ hI ih0
    try dsimp only at hI ih0
    obtain ⟨i0, i1⟩ := hI; have mp := mt_pre (rs := rs) (fs := fs) (l := l) (by assumption); have dr := ded_room (m := m) mp.1 mp.2.1; have tl := tkL_len (vs := vs) (L := matchL fs l freeB) (by omega); have mm := matchL_most mp.1 mp.2.1 freeB
    refine tsr<|rB<|r_end<|t_seq ?_
    refine t_cond rfl (fun h12 => ?_) (fun h12 => ?_)
    ·
     have h12' := of_decide_eq_true h12
     refine t_skip<|t_seq<|t_block<|t_seq ?_
     obtain ⟨z13, hz14, b15⟩ := at_get (xs := matchL fs l freeB) (n := (m : Int)) (by omega) (by omega)
     refine gt_take0 4 3 rfl rfl (tkL_at (by omega) hz14) fun e16 v17 => ?_
     refine t_region ?_
     obtain ⟨z18, hz19, b20⟩ := at_get (xs := (tkL vs (matchL fs l freeB)).set (m : Int).toNat (.inl v17)) (n := (m : Int)) (by omega) (by (rw [List.length_set]; omega))
     refine r_op (o_indexo rfl (by kernel_rfl) rfl rfl rfl b20 (at_lt b20 hz19)) ?_
     refine r_op (o_loadpin rfl (k := 4) (o := 0) (by kernel_rfl) rfl rfl (tk_got (by omega) (by omega)) rfl) ?_
     refine rA<|etr ?_
     refine rM ?_
     refine rM ?_
     refine r_op (o_call 5 5 false (en Tryz.func202) (c_impl_hasBinding (dedL ((matchL fs l freeB).take m)) (z13) (by omega) (by (intro y hy; have e5 := ded_five hy; omega))) rfl (.cons rfl (.c (.own rfl)) (.cons rfl (.c (.own rfl)) .nil)) rfl rfl rfl) ?_
     refine r_op (o_not rfl rfl) ?_
     refine r_end ?_
     refine t_cond rfl (fun h21 => ?_) (fun h21 => ?_)
     ·
      have h21' := (bnt h21)
      refine t_region<|rM ?_
      refine rM ?_
      refine r_op (o_litS 5 (e := 29) (sz := 1) (zs := [.slice none 0 0]) rfl rfl (by kernel_rfl) rfl rfl rfl rfl rfl) ?_
      refine r_op (o_append 1 (e := 29) (sz := 1) (by' := 24) (z13) rfl (by kernel_rfl) rfl rfl rfl rfl rfl rfl (.take (.own rfl) rfl .nil) rfl (by omega) (by omega)) ?_
      refine rA<|r_end<|t_endblock<|t_region ?_
      refine rB ?_
      refine rM<|r_end ?_
      refine t_le ?_ (ih0 (vs ++ [v17], m + 1) (by (try dsimp only); omega) (by (try dsimp only); exact ⟨by simp; omega, by omega⟩))
      exact ⟨⟨rfl, ⟨rfl, ⟨rfl, ⟨rfl, ⟨(eqI (wr64 (by omega) (by omega))), trivial⟩⟩⟩⟩⟩, ⟨rfl, ⟨(eqR (by exact (ded_more hz14 rfl (by assumption)).symm)), ⟨(eqR (tkL_set i0 (by omega))), trivial⟩⟩⟩, rfl⟩
     ·
      have h21' := (bnf h21)
      refine t_skip<|t_endblock<|t_region<|rB ?_
      refine rM<|r_end ?_
      refine t_le ?_ (ih0 (vs ++ [v17], m + 1) (by (try dsimp only); omega) (by (try dsimp only); exact ⟨by simp; omega, by omega⟩))
      exact ⟨⟨rfl, ⟨rfl, ⟨rfl, ⟨rfl, ⟨(eqI (wr64 (by omega) (by omega))), trivial⟩⟩⟩⟩⟩, ⟨rfl, ⟨(eqR (by exact (ded_same hz14 rfl (by assumption)).symm)), ⟨(eqR (tkL_set i0 (by omega))), trivial⟩⟩⟩, rfl⟩
    ·
     have h12' := of_decide_eq_false h12
     refine t_exit rfl<|tsr<|rM ?_
     refine rA<|r_end ?_
     refine tk Tryz.func167 (.tmp rfl .nil) ?_ (hL := ⟨eqR ?_, trivial⟩) <;> (try clear ih0)
     all_goals first | rfl | ((exact findL_yes (by assumption) (by omega)))
  ·
   refine dO 3 rfl (o_call 2 4 false (en Tryz.func201) (c_impl_unboundBinding ) rfl .nil rfl rfl rfl) ?_
   refine dO 4 rfl (o_callD 3 (matchL (fs) (l) (freeB)) (en Tryz.func153) (fun U => c_impl_matches U  (fs) (l) (freeB) (by exact (mt_pre (by assumption)).1) (by exact (mt_pre (by assumption)).2.1) (by rfl) (by exact (mt_pre (by assumption)).2.2.1) (by exact (mt_pre (by assumption)).2.2.2)) rfl rfl (.cons rfl .t0 (.cons rfl .t0 (.cons rfl (.own rfl) .nil)))) ?_
   refine dT 5 rfl (p_leno rfl rfl rfl) ?_
   refine d_end (by kernel_rfl) ?_
   refine t_block ?_
   refine gt_sum 3 rfl ?_
   refine t_loopL (fun (vs, m) => ⟨[(4, some (.c (.t none (.v (.slice none 0 0))))), (5, some (.c (.own 1))), (18, some (.c (.own 3))), (19, some (.c (.t none (.v (.int .i64 (((matchL (fs) (l) (freeB)).length : Int))))))), (20, some (.c (.t none (.v (.int .i64 ((m : Int)))))))], [(0, some (.box [.t none (.sl 3 (enS3 encS encI encB) (rs)), .t none (.sl 2 (enS2 encI (enSl 1 encI)) (fs))])), (1, some (.row none 29 true 1 (enSl 1 encI) (dedL ((matchL fs l freeB).take m)))), (3, some (.row none 29 true 1 (encK (enSl 1 encI)) (tkL vs (matchL fs l freeB))))], 4⟩ : List Value × Nat → St) (fun (vs, m) => vs.length = m ∧ m ≤ (matchL fs l freeB).length) (fun (vs, m) => (matchL fs l freeB).length - m) ([], 0) ⟨⟨rfl, ⟨rfl, ⟨rfl, ⟨rfl, ⟨rfl, trivial⟩⟩⟩⟩⟩, ⟨rfl, ⟨rfl, ⟨rfl, trivial⟩⟩⟩, rfl⟩ (by exact ⟨rfl, Nat.zero_le _⟩) ?_
   rintro ⟨vs, m⟩ hI ih0
   try dsimp only at hI ih0
   obtain ⟨i0, i1⟩ := hI; have mp := mt_pre (rs := rs) (fs := fs) (l := l) (by assumption); have dr := ded_room (m := m) mp.1 mp.2.1; have tl := tkL_len (vs := vs) (L := matchL fs l freeB) (by omega); have mm := matchL_most mp.1 mp.2.1 freeB
   refine tsr<|rB<|r_end<|t_seq ?_
   refine t_cond rfl (fun h22 => ?_) (fun h22 => ?_)
   ·
    have h22' := of_decide_eq_true h22
    refine t_skip<|t_seq<|t_block<|t_seq ?_
    obtain ⟨z23, hz24, b25⟩ := at_get (xs := matchL fs l freeB) (n := (m : Int)) (by omega) (by omega)
    refine gt_take0 4 3 rfl rfl (tkL_at (by omega) hz24) fun e26 v27 => ?_
    refine t_region ?_
    obtain ⟨z28, hz29, b30⟩ := at_get (xs := (tkL vs (matchL fs l freeB)).set (m : Int).toNat (.inl v27)) (n := (m : Int)) (by omega) (by (rw [List.length_set]; omega))
    refine r_op (o_indexo rfl (by kernel_rfl) rfl rfl rfl b30 (at_lt b30 hz29)) ?_
    refine r_op (o_loadpin rfl (k := 4) (o := 0) (by kernel_rfl) rfl rfl (tk_got (by omega) (by omega)) rfl) ?_
    refine rA<|etr ?_
    refine rM ?_
    refine rM ?_
    refine r_op (o_call 5 5 false (en Tryz.func202) (c_impl_hasBinding (dedL ((matchL fs l freeB).take m)) (z23) (by omega) (by (intro y hy; have e5 := ded_five hy; omega))) rfl (.cons rfl (.c (.own rfl)) (.cons rfl (.c (.own rfl)) .nil)) rfl rfl rfl) ?_
    refine r_op (o_not rfl rfl) ?_
    refine r_end ?_
    refine t_cond rfl (fun h31 => ?_) (fun h31 => ?_)
    ·
     have h31' := (bnt h31)
     refine t_region<|rM ?_
     refine rM ?_
     refine r_op (o_litS 5 (e := 29) (sz := 1) (zs := [.slice none 0 0]) rfl rfl (by kernel_rfl) rfl rfl rfl rfl rfl) ?_
     refine r_op (o_append 1 (e := 29) (sz := 1) (by' := 24) (z23) rfl (by kernel_rfl) rfl rfl rfl rfl rfl rfl (.take (.own rfl) rfl .nil) rfl (by omega) (by omega)) ?_
     refine rA<|r_end<|t_endblock<|t_region ?_
     refine rB ?_
     refine rM<|r_end ?_
     refine t_le ?_ (ih0 (vs ++ [v27], m + 1) (by (try dsimp only); omega) (by (try dsimp only); exact ⟨by simp; omega, by omega⟩))
     exact ⟨⟨rfl, ⟨rfl, ⟨rfl, ⟨rfl, ⟨(eqI (wr64 (by omega) (by omega))), trivial⟩⟩⟩⟩⟩, ⟨rfl, ⟨(eqR (by exact (ded_more hz24 rfl (by assumption)).symm)), ⟨(eqR (tkL_set i0 (by omega))), trivial⟩⟩⟩, rfl⟩
    ·
     have h31' := (bnf h31)
     refine t_skip<|t_endblock<|t_region<|rB ?_
     refine rM<|r_end ?_
     refine t_le ?_ (ih0 (vs ++ [v27], m + 1) (by (try dsimp only); omega) (by (try dsimp only); exact ⟨by simp; omega, by omega⟩))
     exact ⟨⟨rfl, ⟨rfl, ⟨rfl, ⟨rfl, ⟨(eqI (wr64 (by omega) (by omega))), trivial⟩⟩⟩⟩⟩, ⟨rfl, ⟨(eqR (by exact (ded_same hz24 rfl (by assumption)).symm)), ⟨(eqR (tkL_set i0 (by omega))), trivial⟩⟩⟩, rfl⟩
   ·
    have h22' := of_decide_eq_false h22
    refine t_exit rfl<|tsr<|rM ?_
    refine rA<|r_end ?_
    refine tk Tryz.func167 (.tmp rfl .nil) ?_ (hL := ⟨eqR ?_, trivial⟩) <;> (try clear ih0)
    all_goals first | rfl | ((exact findL_yes (by assumption) (by omega)))
def ob_c_impl_Instantiate : Option (List Int) → List (Nat × Option Ob)
 | none => []
 | some q => [(3, some (.row none 3 true 1 encI (q)))]
def res_c_impl_Instantiate (r : Int) (ts : List Int) (b : List Int) : Option (List Int) → AV
 | none => .tup [(true, [.t none (.v (.int .i64 (0))), .t none (.v (.slice none 0 0))]), (false, [.t none (.v (.bool (false)))])]
 | some q => .tup [(true, [.t none (.v (.int .i64 (r))), .own 3]), (false, [.t none (.v (.bool (true)))])]
theorem c_impl_Instantiate (r : Int) (ts : List Int) (b : List Int) (hl : ts.length ≤ 1048576) (ho : ∀ x ∈ ts, okI x) (mo : Option (List Int)) (hm : instV b ts = mo) : Pu Tryz.prog 58 [.agg [.t none (.v (.int .i64 (r))), .t none (.sl 1 encI (ts))], .c (.t none (.sl 1 encI (b)))] (ob_c_impl_Instantiate mo) 4 (res_c_impl_Instantiate r ts b mo) := by
 refine pu_enter Tryz.func58 rfl (Nat.le_of_ble_eq_true rfl) fun w S => ?_
 refine tsr ?_
 refine r_op (o_box 0 rfl rfl rfl rfl) ?_
 refine r_op (o_alloc 1 (zs := [.int .i64 (0), .slice none 0 0]) rfl rfl (by kernel_rfl) rfl) ?_
 refine rA<|etr ?_
 refine rF 0 ?_
 refine rL ?_
 refine r_op (o_build rfl (pl := [(0, 1), (1, 1)]) (zs := [.int .i64 (0), .slice none 0 0]) (by kernel_rfl) (by kernel_rfl) rfl rfl rfl) ?_
 refine r_op (o_alloc 2 (zs := [.int .i64 (0), .slice none 0 0]) rfl rfl (by kernel_rfl) rfl) ?_
 refine rS 2<|r_end<|t_seq<|tsr ?_
 refine rF 1 ?_
 refine rL ?_
 refine r_op (o_len rfl rfl rfl) ?_
 refine rM<|r_end<|t_block ?_
 refine gt_nilb 3 (b := 2) (o := 1) (et := 3) (sz := 1) true encI rfl rfl rfl ?_
 refine t_loopL (fun (m, acc) => ⟨[(1, some (.c (.t none (.sl 1 encI (b))))), (4, some (.c (.ptr 1 0))), (6, some (.c (.ptr 2 0))), (14, some (.c (.t none (.sl 1 encI (ts))))), (15, some (.c (.t none (.v (.int .i64 (((ts).length : Int))))))), (16, some (.c (.t none (.v (.int .i64 ((m : Int)))))))], [(0, some (.box [.t none (.v (.int .i64 (r))), .t none (.sl 1 encI (ts))])), (1, some (.box [.t none (.v (.int .i64 (0))), .t none (.v (.slice none 0 0))])), (2, some (.box [.t none (.v (.int .i64 (r))), .own 3])), (3, some (.row none 3 true 1 encI (acc)))], 4⟩ : Nat × List Int → St) (fun (m, acc) => m ≤ ts.length ∧ instV b (ts.take m) = some acc) (fun (m, acc) => ts.length - m) (0, []) ⟨⟨rfl, ⟨rfl, ⟨rfl, ⟨rfl, ⟨rfl, ⟨rfl, trivial⟩⟩⟩⟩⟩⟩, ⟨rfl, ⟨rfl, ⟨rfl, ⟨rfl, trivial⟩⟩⟩⟩, rfl⟩ (by exact ⟨Nat.zero_le _, rfl⟩) ?_
 rintro ⟨m, acc⟩ hI ih0
 try dsimp only at hI ih0
 obtain ⟨i1, i2⟩ := hI
 refine tsr<|rB<|r_end<|t_seq ?_
 refine t_cond rfl (fun h1 => ?_) (fun h1 => ?_)
 ·
  have h1' := of_decide_eq_true h1
  refine t_skip<|t_seq<|t_block<|tsr ?_
  obtain ⟨z2, hz3, b4⟩ := at_get (xs := ts) (n := (m : Int)) (by omega) (by omega)
  refine r_op (o_index rfl (by kernel_rfl) rfl rfl b4 hz3) ?_
  refine r_op (o_load1 rfl (by kernel_rfl) rfl rfl) ?_
  refine rA<|etr ?_
  refine rM ?_
  refine rB ?_
  refine rA<|r_end<|t_seq<|tsr ?_
  refine rM ?_
  refine rB<|r_end ?_
  refine t_cond rfl (fun h5 => ?_) (fun h5 => ?_)
  ·
   have h5' := of_decide_eq_true h5
   refine t_seq<|tsr<|rM ?_
   refine rM ?_
   refine r_op (o_len rfl rfl rfl) ?_
   refine rB<|r_end ?_
   refine t_cond rfl (fun h6 => ?_) (fun h6 => ?_)
   ·
    have h6' := of_decide_eq_true h6
    refine tsr ?_
    refine r_op (o_build rfl (pl := [(0, 1), (1, 1)]) (zs := [.int .i64 (0), .slice none 0 0]) (by kernel_rfl) (by kernel_rfl) rfl rfl rfl) ?_
    refine rS 2 ?_
    refine rA<|r_end ?_
    refine t_ret Tryz.func58 (.cells (n := 2) (by kernel_rfl) (by kernel_rfl) rfl rfl rfl (.tmp rfl .nil)) rfl fun E S w u hI hd => ?_
    obtain rfl : mo = none := by rw [← hm]; exact inst_none i2 (by assumption) rfl (inst_far (by assumption) (by assumption))
    refine post_mk hI hd ?_ trivial rfl rfl rfl <;> clear hI hd <;> (try clear ih0)
    all_goals (rfl)
   ·
    have h6' := of_decide_eq_false h6
    refine t_skip<|t_region<|rM ?_
    refine rM ?_
    obtain ⟨z7, hz8, b9⟩ := at_get (xs := b) (n := z2) (by omega) (by omega)
    refine r_op (o_index rfl (by kernel_rfl) rfl rfl b9 hz8) ?_
    refine r_op (o_load1 rfl (by kernel_rfl) rfl rfl) ?_
    refine rA<|r_end<|t_seq<|tsr ?_
    refine rM ?_
    refine r_op (o_call 4 4 false (en Tryz.func113) (c_impl_IsValidValue (z7)) rfl (.cons rfl (.c .t0) .nil) rfl rfl rfl) ?_
    refine r_op (o_not rfl rfl) ?_
    refine r_end ?_
    refine t_cond rfl (fun h10 => ?_) (fun h10 => ?_)
    ·
     have h10' := of_decide_eq_false (bnt h10)
     refine tsr ?_
     refine r_op (o_build rfl (pl := [(0, 1), (1, 1)]) (zs := [.int .i64 (0), .slice none 0 0]) (by kernel_rfl) (by kernel_rfl) rfl rfl rfl) ?_
     refine rS 2 ?_
     refine rA<|r_end ?_
     refine t_ret Tryz.func58 (.cells (n := 2) (by kernel_rfl) (by kernel_rfl) rfl rfl rfl (.tmp rfl .nil)) rfl fun E S w u hI hd => ?_
     obtain rfl : mo = none := by rw [← hm]; exact inst_none i2 (by assumption) rfl (inst_bad (by assumption) (by assumption) (by assumption))
     refine post_mk hI hd ?_ trivial rfl rfl rfl <;> clear hI hd <;> (try clear ih0)
     all_goals (rfl)
    ·
     have h10' := of_decide_eq_true (bnf h10)
     refine t_skip<|t_region<|rF 1 ?_
     refine rL ?_
     refine rM ?_
     refine r_op (o_litS 4 (e := 3) (sz := 1) (zs := [.int .i64 (0)]) rfl rfl (by kernel_rfl) rfl rfl rfl rfl rfl) ?_
     refine r_op (o_append 3 (e := 3) (sz := 1) (by' := 8) (z7) rfl (by kernel_rfl) rfl rfl rfl rfl rfl rfl (.cons .sc .nil) rfl (by (have := instV_len i2; simp at this; omega)) (by (have := instV_len i2; simp at this; omega))) ?_
     refine rF 1 ?_
     refine rS 1<|r_end<|t_endblock<|t_region ?_
     refine rB ?_
     refine rM<|r_end ?_
     refine t_le ?_ (ih0 (m + 1, acc ++ [z7]) (by (try dsimp only); omega) (by (try dsimp only); exact ⟨by omega, inst_step i2 (by assumption) rfl (inst_good (by assumption) (by assumption) (by assumption))⟩))
     exact ⟨⟨rfl, ⟨rfl, ⟨rfl, ⟨rfl, ⟨rfl, ⟨(eqI (wrS (by omega))), trivial⟩⟩⟩⟩⟩⟩, ⟨rfl, ⟨rfl, ⟨rfl, ⟨rfl, trivial⟩⟩⟩⟩, rfl⟩
  ·
   have h5' := of_decide_eq_false h5
   refine t_skip<|t_seq<|tsr<|rM ?_
   refine r_op (o_call 4 4 false (en Tryz.func113) (c_impl_IsValidValue (IntKind.i64.wrap ((-1) - z2))) rfl (.cons rfl (.c .t0) .nil) rfl rfl rfl) ?_
   refine r_op (o_not rfl rfl) ?_
   refine r_end ?_
   refine t_cond rfl (fun h11 => ?_) (fun h11 => ?_)
   ·
    have h11' := of_decide_eq_false (bnt h11)
    refine tsr ?_
    refine r_op (o_build rfl (pl := [(0, 1), (1, 1)]) (zs := [.int .i64 (0), .slice none 0 0]) (by kernel_rfl) (by kernel_rfl) rfl rfl rfl) ?_
    refine rS 2 ?_
    refine rA<|r_end ?_
    refine t_ret Tryz.func58 (.cells (n := 2) (by kernel_rfl) (by kernel_rfl) rfl rfl rfl (.tmp rfl .nil)) rfl fun E S w u hI hd => ?_
    obtain rfl : mo = none := by rw [← hm]; exact inst_none i2 (by assumption) rfl (inst_badn (by omega) (ho _ (List.mem_of_getElem? (by assumption))).1 (by assumption))
    refine post_mk hI hd ?_ trivial rfl rfl rfl <;> clear hI hd <;> (try clear ih0)
    all_goals (rfl)
   ·
    have h11' := of_decide_eq_true (bnf h11)
    refine t_skip<|t_region<|rF 1 ?_
    refine rL ?_
    refine rM ?_
    refine r_op (o_litS 4 (e := 3) (sz := 1) (zs := [.int .i64 (0)]) rfl rfl (by kernel_rfl) rfl rfl rfl rfl rfl) ?_
    refine r_op (o_append 3 (e := 3) (sz := 1) (by' := 8) (IntKind.i64.wrap ((-1) - z2)) rfl (by kernel_rfl) rfl rfl rfl rfl rfl rfl (.cons .sc .nil) rfl (by (have := instV_len i2; simp at this; omega)) (by (have := instV_len i2; simp at this; omega))) ?_
    refine rF 1 ?_
    refine rS 1<|r_end<|t_endblock<|t_region ?_
    refine rB ?_
    refine rM<|r_end ?_
    refine t_le ?_ (ih0 (m + 1, acc ++ [IntKind.i64.wrap ((-1) - z2)]) (by (try dsimp only); omega) (by (try dsimp only); exact ⟨by omega, inst_step i2 (by assumption) rfl (inst_goodn (by omega) (ho _ (List.mem_of_getElem? (by assumption))).1 (by assumption))⟩))
    exact ⟨⟨rfl, ⟨rfl, ⟨rfl, ⟨rfl, ⟨rfl, ⟨(eqI (wrS (by omega))), trivial⟩⟩⟩⟩⟩⟩, ⟨rfl, ⟨rfl, ⟨rfl, ⟨rfl, trivial⟩⟩⟩⟩, rfl⟩
 ·
  have h1' := of_decide_eq_false h1
  refine t_exit rfl<|tsr<|rC 2 ?_
  refine rS 2 ?_
  refine rA<|r_end ?_
  refine t_ret Tryz.func58 (.cells (n := 2) (by kernel_rfl) (by kernel_rfl) rfl rfl rfl (.tmp rfl .nil)) rfl fun E S w u hI hd => ?_
  obtain rfl : mo = some acc := by rw [← hm]; rw [List.take_of_length_le (by omega)] at i2; exact i2
  refine post_mk hI hd ?_ ⟨eqR ?_, trivial⟩ rfl rfl rfl <;> clear hI hd <;> (try clear ih0)
  all_goals (rfl)
theorem c_impl_sameFact (r : Int) (l : List Int) (r2 : Int) (l2 : List Int) (hl : l.length ≤ 1048576) (hl2 : l2.length ≤ 1048576) : Pu Tryz.prog 116 [.agg [.t none (.v (.int .i64 (r))), .t none (.sl 1 encI (l))], .agg [.t none (.v (.int .i64 (r2))), .t none (.sl 1 encI (l2))]] [] 0 (.c (.t none (.v (.bool (decide (cmpF (r, l) (r2, l2) = 0)))))) := by
 refine pu_enter Tryz.func116 rfl (Nat.le_of_ble_eq_true rfl) fun w S => ?_
 refine tsr ?_
 refine r_op (o_box 0 rfl rfl rfl rfl) ?_
 refine r_op (o_box 1 rfl rfl rfl rfl) ?_
 refine rA<|etr ?_
 refine rC 2 ?_
 refine rC 2 ?_
 refine r_op (o_call 2 2 false (en Tryz.func84) (c_impl_CompareFacts (r) (l) (r2) (l2) (by omega) (by omega)) rfl (.cons rfl (.agg (.cons .t0 (.cons .t0 .nil))) (.cons rfl (.agg (.cons .t0 (.cons .t0 .nil))) .nil)) rfl rfl rfl) ?_
 refine rB ?_
 refine rA<|r_end ?_
 refine tk Tryz.func116 (.tmp rfl .nil) ?_
 all_goals (rfl)
theorem c_impl_hasFact_1 (r : Int) (l : List Int) (f : Int × List Int) (hl : l.length ≤ 1048576) (hf : f.2.length ≤ 1048576) : Pu Tryz.prog 148 [.agg [.t none (.v (.int .i64 (r))), .t none (.sl 1 encI (l))], .c (.pel none ((enS2 encI (enSl 1 encI)) (f)) 2)] [] 0 (.c (.t none (.v (.bool (decide (cmpF (r, l) f = 0)))))) := by
 refine pu_enter Tryz.func148 rfl (Nat.le_of_ble_eq_true rfl) fun w S => ?_
 refine tsr ?_
 refine r_op (o_box 0 rfl rfl rfl rfl) ?_
 refine rA<|etr ?_
 refine rC 2 ?_
 refine r_op (o_loadA rfl (n := 2) (by kernel_rfl) (by kernel_rfl) rfl rfl) ?_
 refine r_op (o_call 1 1 false (en Tryz.func116) (c_impl_sameFact (r) (l) (f.1) (f.2) (by omega) (by omega)) rfl (.cons rfl (.agg (.cons .t0 (.cons .t0 .nil))) (.cons rfl (.agg (.cons .t0 (.cons .t0 .nil))) .nil)) rfl rfl rfl) ?_
 refine rA<|r_end ?_
 refine tk Tryz.func148 (.tmp rfl .nil) ?_
 all_goals (rfl)
theorem c_slices_IndexFunc___impl_Fact_impl_Fact_ (l : List (Int × (List (Int)))) (f : Nat) (cs : List ((Nat → T) × Nat)) (p : Int × (List (Int)) → Bool) (hl : l.length ≤ 9223372036854775807) (hf : ∀ x ∈ l, Fu Tryz.prog f ([.agg [.t none (.v (.int .i64 (x.1))), .t none (.sl 1 encI (x.2))]] ++ pels cs) (.c (.t none (.v (.bool (p x)))))) : Pu Tryz.prog 147 [.c (.t none (.sl 2 (enS2 encI (enSl 1 encI)) (l))), .c (.fv f cs)] [] 0 (.c (.t none (.v (.int .i64 (idxI p l))))) := by
 refine pu_enter Tryz.func147 rfl (Nat.le_of_ble_eq_true rfl) fun w S => ?_
 refine tsr<|rA<|r_end<|t_seq<|tsr ?_
 refine rM ?_
 refine r_op (o_len rfl rfl rfl) ?_
 refine rM<|r_end<|t_block ?_
 refine t_loopL (fun m => ⟨[(0, some (.c (.t none (.sl 2 (enS2 encI (enSl 1 encI)) (l))))), (1, some (.c (.fv f cs))), (7, some (.c (.t none (.v (.int .i64 (((l).length : Int))))))), (8, some (.c (.t none (.v (.int .i64 ((m : Int)))))))], [], 0⟩ : Nat → St) (fun m => m ≤ l.length ∧ ∀ j z, j < m → l[j]? = some z → p z = false) (fun m => l.length - m) 0 ⟨⟨rfl, ⟨rfl, ⟨rfl, ⟨rfl, trivial⟩⟩⟩⟩, trivial, rfl⟩ (by exact ⟨Nat.zero_le _, fun j z h => by omega⟩) ?_
 rintro m hI ih0
 try dsimp only at hI ih0
 obtain ⟨i1, i2⟩ := hI
 refine tsr<|rB<|r_end<|t_seq ?_
 refine t_cond rfl (fun h1 => ?_) (fun h1 => ?_)
 ·
  have h1' := of_decide_eq_true h1
  refine t_skip<|t_seq<|t_block<|tsr<|rM ?_
  refine rA<|etr ?_
  refine rM ?_
  refine rM ?_
  refine rM ?_
  obtain ⟨z2, hz3, b4⟩ := at_get (xs := l) (n := (m : Int)) (by omega) (by omega)
  refine r_op (o_index rfl (by kernel_rfl) rfl rfl b4 hz3) ?_
  refine r_op (o_loadA rfl (n := 2) (by kernel_rfl) (by kernel_rfl) rfl rfl) ?_
  refine r_op (o_callv 0 0 false (hf z2 (List.mem_of_getElem? (by assumption))).1 (hf z2 (List.mem_of_getElem? (by assumption))).2 rfl rfl (.c .fv) (.cons rfl (.agg (.cons .t0 (.cons .t0 .nil))) .nil) rfl rfl rfl) ?_
  refine r_end ?_
  refine t_cond rfl (fun h5 => ?_) (fun h5 => ?_)
  ·
   have h5' := h5
   refine tsr<|rM ?_
   refine rA<|r_end ?_
   refine tk Tryz.func147 (.tmp rfl .nil) ?_ <;> (try clear ih0)
   all_goals (rw [idx_hit i2 (by assumption) (by assumption)])
  ·
   have h5' := h5
   refine t_skip<|t_endblock<|t_region<|rB ?_
   refine rM<|r_end ?_
   refine t_le ?_ (ih0 (m + 1) (by (try dsimp only); omega) (by (try dsimp only); exact ⟨by omega, no_step i2 (by assumption) rfl (by assumption)⟩))
   exact ⟨⟨rfl, ⟨rfl, ⟨rfl, ⟨(eqI (wr64 (by omega) (by omega))), trivial⟩⟩⟩⟩, trivial, rfl⟩
 ·
  have h1' := of_decide_eq_false h1
  refine t_exit rfl<|tsr<|rA<|r_end ?_
  refine tk Tryz.func147 (.tmp rfl .nil) ?_ <;> (try clear ih0)
  all_goals (rw [idx_none i2 (by omega)])
theorem c_slices_ContainsFunc___impl_Fact_impl_Fact_ (l : List (Int × (List (Int)))) (f : Nat) (cs : List ((Nat → T) × Nat)) (p : Int × (List (Int)) → Bool) (hl : l.length ≤ 9223372036854775807) (hf : ∀ x ∈ l, Fu Tryz.prog f ([.agg [.t none (.v (.int .i64 (x.1))), .t none (.sl 1 encI (x.2))]] ++ pels cs) (.c (.t none (.v (.bool (p x)))))) : Pu Tryz.prog 86 [.c (.t none (.sl 2 (enS2 encI (enSl 1 encI)) (l))), .c (.fv f cs)] [] 0 (.c (.t none (.v (.bool (l.any p))))) := by
 refine pu_enter Tryz.func86 rfl (Nat.le_of_ble_eq_true rfl) fun w S => ?_
 refine tsr<|rA<|etr ?_
 refine rM ?_
 refine rM ?_
 refine r_op (o_call 0 0 false (en Tryz.func147) (c_slices_IndexFunc___impl_Fact_impl_Fact_ (l) (f) (cs) (p) (by omega) (hf)) rfl (.cons rfl (.c .t0) (.cons rfl (.c .fv) .nil)) rfl rfl rfl) ?_
 refine rB ?_
 refine rA<|r_end ?_
 refine tk Tryz.func86 (.tmp rfl .nil) ?_
 all_goals (exact scB idx_any)
theorem c_impl_hasFact (fs : Atoms) (r : Int) (ts : List Int) (hfs : szS (fun (x : Int × (List (Int))) => (x.2).length) fs ≤ 1048576) (hts : ts.length ≤ 1048576) : Pu Tryz.prog 88 [.c (.t none (.sl 2 (enS2 encI (enSl 1 encI)) (fs))), .agg [.t none (.v (.int .i64 (r))), .t none (.sl 1 encI (ts))]] [] 0 (.c (.t none (.v (.bool (hasF fs (r, ts)))))) := by
 refine pu_enter Tryz.func88 rfl (Nat.le_of_ble_eq_true rfl) fun w S => ?_
 have gl := sz_len (f := (fun (x : Int × (List (Int))) => (x.2).length)) (l := fs)
 refine tsr ?_
 refine r_op (o_box 0 rfl rfl rfl rfl) ?_
 refine rA<|etr ?_
 refine rM ?_
 refine r_op (o_makeFunc rfl (.cons rfl .nil)) ?_
 refine r_op (o_call 1 1 false (en Tryz.func86) (c_slices_ContainsFunc___impl_Fact_impl_Fact_ (fs) (148) ([((enS2 encI (enSl 1 encI)) ((r, ts)), 2)]) (fun (x0 : Int × (List (Int))) => decide (cmpF ((x0.1), (x0.2)) ((r, ts)) = 0)) (by omega) (fun x0 mx0 => ⟨en Tryz.func148, c_impl_hasFact_1 (x0.1) (x0.2) ((r, ts)) (by (have e1 := sz_mem (f := (fun (x : Int × (List (Int))) => (x.2).length)) (l := fs) (by assumption); (try dsimp only at e1); omega)) (by omega)⟩)) rfl (.cons rfl (.c .t0) (.cons rfl (.c (.clo (.cons rfl rfl rfl (.cons .t (.cons .t .nil)) .nil))) .nil)) rfl rfl rfl) ?_
 refine rA<|r_end ?_
 refine tk Tryz.func88 (.tmp rfl .nil) ?_
 all_goals (rfl)
theorem c_impl_IsTrigger (rs : Rels) (fs : Atoms) (a0 : List (Int × (List (Int)))) (a1 : List (Int × (List (Int)))) (a2 : Bool) (a3 : Int) (a4 : Int) (b : List Int) (hrs : rs.length ≤ 4611686018427387904) (hfs : szS (fun (x : Int × (List (Int))) => (x.2).length) fs ≤ 1048576) (ho : ∀ z ∈ fs, ∀ x ∈ z.2, okI x) (hs : szS (fun (x : Int × (List (Int))) => (x.2).length) a0 + szS (fun (x : Int × (List (Int))) => (x.2).length) a1 ≤ 1048576) (hoa : ∀ z ∈ a0, ∀ x ∈ z.2, okI x) (hob : ∀ x ∈ b, okI x) (hbl : b.length ≤ 1048576) : Pu Tryz.prog 89 [.agg [.t none (.sl 3 (enS3 encS encI encB) (rs)), .t none (.sl 2 (enS2 encI (enSl 1 encI)) (fs))], .agg [.t none (.sl 2 (enS2 encI (enSl 1 encI)) (a0)), .t none (.sl 2 (enS2 encI (enSl 1 encI)) (a1)), .t none (.v (.bool (a2))), .t none (.v (.int .i64 (a3))), .t none (.v (.int .i64 (a4)))], .c (.t none (.sl 1 encI (b)))] [] 0 (.c (.t none (.v (.bool (trgOk rs fs a0 a1 a2 a3 a4 b))))) := by
 refine pu_enter Tryz.func89 rfl (Nat.le_of_ble_eq_true rfl) fun w S => ?_
 have g0 := sz_len (f := (fun (x : Int × (List (Int))) => (x.2).length)) (l := a0); have v0 := setI_len (varsL a0); have v1 := varsL_size a0
 refine tsr ?_
 refine r_op (o_box 0 rfl rfl rfl rfl) ?_
 refine r_op (o_box 1 rfl rfl rfl rfl) ?_
 refine rA<|r_end<|t_seq<|tsr ?_
 refine rC 2 ?_
 refine r_op (o_call 2 2 false (en Tryz.func35) (c_impl_IsValidInstance (rs) (fs) (by omega) (by omega) (by omega)) rfl (.cons rfl (.agg (.cons .t0 (.cons .t0 .nil))) .nil) rfl rfl rfl) ?_
 refine r_op (o_not rfl rfl) ?_
 refine rM ?_
 refine rG (fun g1 => ?_) (fun g1 => ?_)
 ·
  have g1' := (bnf g1)
  refine rF 0 ?_
  refine rG (fun _ => ?_) (ncf g1)
  refine rL ?_
  refine rG (fun _ => ?_) (ncf g1)
  refine rC 5 ?_
  refine rG (fun _ => ?_) (ncf g1)
  refine r_op (o_call 2 2 false (en Tryz.func149) (c_impl_IsValidDependency (rs) (a0) (a1) (a2) (a3) (a4) (by omega) (by omega)) rfl (.cons rfl (.c .t0) (.cons rfl (.agg (.cons .t0 (.cons .t0 (.cons .t0 (.cons .t0 (.cons .t0 .nil)))))) .nil)) rfl rfl rfl) ?_
  refine rG (fun _ => ?_) (ncf g1)
  refine r_op (o_not rfl rfl) ?_
  refine r_op (o_pickF rfl rfl g1 rfl) ?_
  refine rM ?_
  refine rG (fun g2 => ?_) (fun g2 => ?_)
  ·
   have g2' := (bnf g2)
   refine rM ?_
   refine rG (fun _ => ?_) (ncf g2)
   refine r_op (o_len rfl rfl rfl) ?_
   refine rG (fun _ => ?_) (ncf g2)
   refine rB ?_
   refine r_op (o_pickF rfl rfl g2 rfl) ?_
   refine r_end ?_
   refine t_cond rfl (fun h3 => ?_) (fun h3 => ?_)
   ·
    have h3' := of_decide_eq_true h3
    refine tsr<|rA<|r_end ?_
    refine tk Tryz.func89 (.tmp rfl .nil) ?_ <;> (try clear ih0) <;> (try clear ih1)
    all_goals (refine scB ?_; (unfold trgOk; clear hrs hfs ho hs hoa hob g0 v0 v1; grind))
   ·
    have h3' := of_decide_eq_false h3
    refine t_skip<|tsr<|rF 0 ?_
    refine rL ?_
    refine r_op (o_call 2 3 false (en Tryz.func150) (c_impl_Variables (a0) (by omega)) rfl (.cons rfl (.c .t0) .nil) rfl rfl rfl) ?_
    refine rA<|r_end<|t_seq<|tsr ?_
    refine rM ?_
    refine r_op (o_len rfl rfl rfl) ?_
    refine rM<|r_end<|t_block ?_
    refine t_loopL (fun m => ⟨[(2, some (.c (.t none (.sl 1 encI (b))))), (3, some (.c (.ptr 0 0))), (4, some (.c (.ptr 1 0))), (7, some (.c (.own 2))), (32, some (.c (.t none (.sl 1 encI (b))))), (33, some (.c (.t none (.v (.int .i64 (((b).length : Int))))))), (34, some (.c (.t none (.v (.int .i64 ((m : Int)))))))], [(0, some (.box [.t none (.sl 3 (enS3 encS encI encB) (rs)), .t none (.sl 2 (enS2 encI (enSl 1 encI)) (fs))])), (1, some (.box [.t none (.sl 2 (enS2 encI (enSl 1 encI)) (a0)), .t none (.sl 2 (enS2 encI (enSl 1 encI)) (a1)), .t none (.v (.bool (a2))), .t none (.v (.int .i64 (a3))), .t none (.v (.int .i64 (a4)))])), (2, some (.row none 3 true 1 encI (setI (varsL (a0)))))], 3⟩ : Nat → St) (fun m => m ≤ b.length ∧ ∀ j, j < m → varStep (setI (varsL a0)) b j = true) (fun m => b.length - m) 0 ⟨⟨rfl, ⟨rfl, ⟨rfl, ⟨rfl, ⟨rfl, ⟨rfl, ⟨rfl, trivial⟩⟩⟩⟩⟩⟩⟩, ⟨rfl, ⟨rfl, ⟨rfl, trivial⟩⟩⟩, rfl⟩ (by exact ⟨Nat.zero_le _, fun j h => by omega⟩) ?_
    rintro m hI ih0
    try dsimp only at hI ih0
    obtain ⟨i1, i2⟩ := hI
    refine tsr<|rB<|r_end<|t_seq ?_
    refine t_cond rfl (fun h4 => ?_) (fun h4 => ?_)
    ·
     have h4' := of_decide_eq_true h4
     refine t_skip<|t_seq<|t_block<|tsr<|rM ?_
     obtain ⟨z5, hz6, b7⟩ := at_get (xs := b) (n := (m : Int)) (by omega) (by omega)
     refine r_op (o_index rfl (by kernel_rfl) rfl rfl b7 hz6) ?_
     refine r_op (o_load1 rfl (by kernel_rfl) rfl rfl) ?_
     refine rA ?_
     refine rA<|etr ?_
     refine rM ?_
     refine rB ?_
     refine rM ?_
     refine rM ?_
     refine r_op (o_call 3 3 false (en Tryz.func151) (c_slices_Contains___int_int_ (setI (varsL (a0))) ((m : Int)) (by omega)) rfl (.cons rfl (.c (.own rfl)) (.cons rfl (.c .t0) .nil)) rfl rfl rfl) ?_
     refine r_op (o_neB rfl Tryz.underlying4 rfl rfl) ?_
     refine r_end ?_
     refine t_cond rfl (fun h8 => ?_) (fun h8 => ?_)
     ·
      have h8' := h8
      try simp only [decide_eq_true_eq, decide_eq_false_iff_not, Bool.not_eq_true', Bool.not_eq_false', Bool.not_false, Bool.not_true] at h8'
      refine tsr<|rA<|r_end ?_
      refine tk Tryz.func89 (.tmp rfl .nil) ?_ <;> (try clear ih0) <;> (try clear ih1)
      all_goals (refine scB ?_; ((have e : varsOk (setI (varsL a0)) b = false := varsOk_not (m := m) (by omega) (by rw [varStep_at (V := setI (varsL a0)) (m := m) hz6]; (exact vs_bad1 (by assumption)))); (unfold trgOk; rw [e]; simp; done)))
     ·
      have h8' := h8
      try simp only [decide_eq_true_eq, decide_eq_false_iff_not, Bool.not_eq_true', Bool.not_eq_false', Bool.not_false, Bool.not_true] at h8'
      refine t_skip<|t_endblock<|t_region<|rB ?_
      refine rM<|r_end ?_
      refine t_le ?_ (ih0 (m + 1) (by (try dsimp only); omega) (by (try dsimp only); exact ⟨by omega, step_all i2 (by rw [varStep_at (V := setI (varsL a0)) (m := m) hz6]; (exact vs_ok1 (by assumption)))⟩))
      exact ⟨⟨rfl, ⟨rfl, ⟨rfl, ⟨rfl, ⟨rfl, ⟨rfl, ⟨(eqI (wr64 (by omega) (by omega))), trivial⟩⟩⟩⟩⟩⟩⟩, ⟨rfl, ⟨rfl, ⟨rfl, trivial⟩⟩⟩, rfl⟩
    ·
     have h4' := of_decide_eq_false h4
     refine t_exit rfl<|t_seq<|tsr<|rF 0 ?_
     refine rL ?_
     refine r_op (o_len rfl rfl rfl) ?_
     refine rM<|r_end<|t_block ?_
     refine t_loopL (fun n => ⟨[(2, some (.c (.t none (.sl 1 encI (b))))), (3, some (.c (.ptr 0 0))), (47, some (.c (.t none (.sl 2 (enS2 encI (enSl 1 encI)) (a0))))), (48, some (.c (.t none (.v (.int .i64 (((a0).length : Int))))))), (49, some (.c (.t none (.v (.int .i64 ((n : Int)))))))], [(0, some (.box [.t none (.sl 3 (enS3 encS encI encB) (rs)), .t none (.sl 2 (enS2 encI (enSl 1 encI)) (fs))])), (1, some (.box [.t none (.sl 2 (enS2 encI (enSl 1 encI)) (a0)), .t none (.sl 2 (enS2 encI (enSl 1 encI)) (a1)), .t none (.v (.bool (a2))), .t none (.v (.int .i64 (a3))), .t none (.v (.int .i64 (a4)))])), (2, some (.row none 3 true 1 encI (setI (varsL (a0)))))], 3⟩ : Nat → St) (fun n => n ≤ a0.length ∧ ∀ j z, j < n → a0[j]? = some z → trgStep fs b z = true) (fun n => a0.length - n) 0 ⟨⟨rfl, ⟨rfl, ⟨rfl, ⟨rfl, ⟨rfl, trivial⟩⟩⟩⟩⟩, ⟨rfl, ⟨rfl, ⟨rfl, trivial⟩⟩⟩, rfl⟩ (by exact ⟨Nat.zero_le _, fun j z h => by omega⟩) ?_
     rintro n hI ih1
     try dsimp only at hI ih1
     obtain ⟨k1, k2⟩ := hI
     refine tsr<|rB<|r_end<|t_seq ?_
     refine t_cond rfl (fun h9 => ?_) (fun h9 => ?_)
     ·
      have h9' := of_decide_eq_true h9
      refine t_skip<|t_seq<|t_block<|tsr ?_
      obtain ⟨z10, hz11, b12⟩ := at_get (xs := a0) (n := (n : Int)) (by omega) (by omega)
      refine r_op (o_index rfl (by kernel_rfl) rfl rfl b12 hz11) ?_
      refine r_op (o_loadA rfl (n := 2) (by kernel_rfl) (by kernel_rfl) rfl rfl) ?_
      refine r_op (o_alloc 3 (zs := [.int .i64 (0), .slice none 0 0]) rfl rfl (by kernel_rfl) rfl) ?_
      refine rS 2<|etr ?_
      refine rC 2 ?_
      refine rM ?_
      rcases hm13 : instV (b) (z10.2) with _ | q15
      ·
       refine r_op (o_call 4 8 false (en Tryz.func58) (c_impl_Instantiate (z10.1) (z10.2) (b) (by (have e1 := sz_at (f := (fun (x : Int × (List (Int))) => (x.2).length)) (l := a0) (m := n) (by assumption); (try dsimp only at e1); omega)) (by exact hoa _ (List.mem_of_getElem? (by assumption))) _ hm13) rfl (.cons rfl (.agg (.cons .t0 (.cons .t0 .nil))) (.cons rfl (.c .t0) .nil)) rfl rfl rfl) ?_
       refine rM ?_
       refine r_op (o_extract rfl rfl rfl rfl) ?_
       refine r_op (o_extract rfl rfl rfl rfl) ?_
       refine r_op (o_alloc 8 (zs := [.int .i64 (0), .slice none 0 0]) rfl rfl (by kernel_rfl) rfl) ?_
       refine rS 2 ?_
       refine rA<|etr ?_
       refine rM ?_
       refine r_op (o_not rfl rfl) ?_
       refine rM ?_
       refine rG (nc rfl) (fun _ => ?_)
       refine rG (nc rfl) (fun _ => ?_)
       refine rG (nc rfl) (fun _ => ?_)
       refine rG (nc rfl) (fun _ => ?_)
       refine rG (nc rfl) (fun _ => ?_)
       refine r_op (o_pickT rfl rfl rfl rfl) ?_
       refine r_end ?_
       refine t_cond rfl (fun _ => ?_) (nc rfl)
       refine tsr<|rA<|r_end ?_
       refine tk Tryz.func89 (.tmp rfl .nil) ?_ <;> (try clear ih0) <;> (try clear ih1)
       all_goals (refine scB ?_; ((have e : a0.all (trgStep fs b) = false := all_not hz11 (by exact trg_none (by assumption))); (unfold trgOk; rw [e]; simp; done)))
      ·
       refine r_op (o_call 4 8 false (en Tryz.func58) (c_impl_Instantiate (z10.1) (z10.2) (b) (by (have e1 := sz_at (f := (fun (x : Int × (List (Int))) => (x.2).length)) (l := a0) (m := n) (by assumption); (try dsimp only at e1); omega)) (by exact hoa _ (List.mem_of_getElem? (by assumption))) _ hm13) rfl (.cons rfl (.agg (.cons .t0 (.cons .t0 .nil))) (.cons rfl (.c .t0) .nil)) rfl rfl rfl) ?_
       refine rM ?_
       refine r_op (o_extract rfl rfl rfl rfl) ?_
       refine r_op (o_extract rfl rfl rfl rfl) ?_
       refine r_op (o_alloc 8 (zs := [.int .i64 (0), .slice none 0 0]) rfl rfl (by kernel_rfl) rfl) ?_
       refine rS 2 ?_
       refine rA<|etr ?_
       refine rM ?_
       refine r_op (o_not rfl rfl) ?_
       refine rM ?_
       refine rG (fun _ => ?_) (ncf rfl)
       refine rF 1 ?_
       refine rG (fun _ => ?_) (ncf rfl)
       refine rL ?_
       refine rG (fun _ => ?_) (ncf rfl)
       refine rC 2 ?_
       refine rG (fun _ => ?_) (ncf rfl)
       refine r_op (o_call 9 9 false (en Tryz.func88) (c_impl_hasFact (fs) ((z10.1)) ((q15)) (by omega) (by (have e5 := instV_len (by assumption); have e1 := sz_at (f := (fun (x : Int × (List (Int))) => (x.2).length)) (l := a0) (m := n) (by assumption); (try dsimp only at e1); omega))) rfl (.cons rfl (.c .t0) (.cons rfl (.agg (.cons .t0 (.cons (.own rfl) .nil))) .nil)) rfl rfl rfl) ?_
       refine rG (fun _ => ?_) (ncf rfl)
       refine r_op (o_not rfl rfl) ?_
       refine r_op (o_pickF rfl rfl rfl rfl) ?_
       refine r_end ?_
       refine t_cond rfl (fun h16 => ?_) (fun h16 => ?_)
       ·
        have h16' := (bnt h16)
        refine tsr<|rA<|r_end ?_
        refine tk Tryz.func89 (.tmp rfl .nil) ?_ <;> (try clear ih0) <;> (try clear ih1)
        all_goals (refine scB ?_; ((have e : a0.all (trgStep fs b) = false := all_not hz11 (by (rw [trg_some (by assumption)]; simp_all))); (unfold trgOk; rw [e]; simp; done)))
       ·
        have h16' := (bnf h16)
        refine t_skip<|t_endblock<|t_region<|rB ?_
        refine rM<|r_end ?_
        refine t_le ?_ (ih1 (n + 1) (by (try dsimp only); omega) (by (try dsimp only); exact ⟨by omega, yes_step k2 hz11 rfl (by rw [trg_some (by assumption)]; simp_all)⟩))
        exact ⟨⟨rfl, ⟨rfl, ⟨rfl, ⟨rfl, ⟨(eqI (wr64 (by omega) (by omega))), trivial⟩⟩⟩⟩⟩, ⟨rfl, ⟨rfl, ⟨rfl, trivial⟩⟩⟩, rfl⟩
     ·
      have h9' := of_decide_eq_false h9
      refine t_exit rfl<|tsr<|rA<|r_end ?_
      refine tk Tryz.func89 (.tmp rfl .nil) ?_ <;> (try clear ih0) <;> (try clear ih1)
      all_goals (refine scB ?_; (unfold trgOk; rw [varsOk_end i2 (by omega), all_yes k2 (by omega)]; clear hrs hfs ho hs hoa hob g0 v0 v1; grind))
  ·
   have g2' := (bnt g2)
   refine rG (nc g2) (fun _ => ?_)
   refine rG (nc g2) (fun _ => ?_)
   refine r_op (o_pickT rfl rfl g2 rfl) ?_
   refine r_end ?_
   refine t_cond rfl (fun _ => ?_) (nc rfl)
   refine tsr<|rA<|r_end ?_
   refine tk Tryz.func89 (.tmp rfl .nil) ?_ <;> (try clear ih0) <;> (try clear ih1)
   all_goals (refine scB ?_; (unfold trgOk; clear hrs hfs ho hs hoa hob g0 v0 v1; grind))
 ·
  have g1' := (bnt g1)
  refine rG (nc g1) (fun _ => ?_)
  refine rG (nc g1) (fun _ => ?_)
  refine rG (nc g1) (fun _ => ?_)
  refine rG (nc g1) (fun _ => ?_)
  refine r_op (o_pickT rfl rfl g1 rfl) ?_
  refine rM ?_
  refine rG (nc rfl) (fun _ => ?_)
  refine rG (nc rfl) (fun _ => ?_)
  refine rG (nc rfl) (fun _ => ?_)
  refine r_op (o_pickT rfl rfl rfl rfl) ?_
  refine r_end ?_
  refine t_cond rfl (fun _ => ?_) (nc rfl)
  refine tsr<|rA<|r_end ?_
  refine tk Tryz.func89 (.tmp rfl .nil) ?_ <;> (try clear ih0) <;> (try clear ih1)
  all_goals (refine scB ?_; (unfold trgOk; clear hrs hfs ho hs hoa hob g0 v0 v1; grind))
theorem c_impl_HasExtension (rs : Rels) (fs l : Atoms) (b : List Int) (hrs : rs.length ≤ 4611686018427387904) (hfs : szS (fun (x : Int × (List (Int))) => (x.2).length) fs ≤ 1048576) (hll : szS (fun (x : Int × (List (Int))) => (x.2).length) l ≤ 1048576) (ho : ∀ z ∈ fs, ∀ x ∈ z.2, okI x) (hbl : b.length ≤ 1048576) : Pu Tryz.prog 90 [.agg [.t none (.sl 3 (enS3 encS encI encB) (rs)), .t none (.sl 2 (enS2 encI (enSl 1 encI)) (fs))], .c (.t none (.sl 2 (enS2 encI (enSl 1 encI)) (l))), .c (.t none (.sl 1 encI (b)))] [] 0 (.c (.t none (.v (.bool (hasE rs fs l b))))) := by
 refine pu_enter Tryz.func90 rfl (Nat.le_of_ble_eq_true rfl) fun w S => ?_
 have gl := sz_len (f := (fun (x : Int × (List (Int))) => (x.2).length)) (l := l)
 refine tsr ?_
 refine r_op (o_box 0 rfl rfl rfl rfl) ?_
 refine rA<|r_end<|t_seq ?_
 refine t_draw (fun i => !(Nat.beq i 14)) (by kernel_rfl) ?_
 refine dT 0 rfl (pC 2) ?_
 refine dT 1 rfl pM ?_
 refine dO 2 rfl (o_call 1 1 false (en Tryz.func152) (c_impl_areMatchable (rs) (fs) (l) (by omega) (by omega) (by omega) (by omega)) rfl (.cons rfl (.agg (.cons .t0 (.cons .t0 .nil))) (.cons rfl (.c .t0) .nil)) rfl rfl rfl) ?_
 refine dT 3 rfl pM ?_
 refine dH 4 rfl (fun _ => pM) (fun g1 => ?_) (fun g1 => ?_)
 ·
  have g1' := g1
  refine dH 5 rfl (fun _ => p_len rfl rfl) (fun _ => ?_) (nc g1)
  refine dH 6 rfl (fun _ => pB) (fun _ => ?_) (nc g1)
  refine dT 7 rfl (p_pickT rfl g1 rfl) ?_
  refine dT 8 rfl pM ?_
  refine dH 9 rfl (fun _ => pF 1) (fun g2 => ?_) (fun g2 => ?_)
  ·
   have g2' := of_decide_eq_true g2
   refine dH 10 rfl (fun _ => pL) (fun _ => ?_) (nc g2)
   refine dH 11 rfl (fun _ => pM) (fun _ => ?_) (nc g2)
   refine dH 12 rfl (fun _ => pM) (fun _ => ?_) (nc g2)
   refine d_onlyG 13 rfl rfl (by kernel_rfl) rfl rfl rfl (fun _ => (o_call 1 2 false (en Tryz.func55) (c_slices_Clone___int_int_ (b) (by omega)) rfl (.cons rfl (.c .t0) .nil) rfl rfl rfl)) (fun _ => ?_) (nc g2)
   refine d_onlyG 14 rfl rfl (by kernel_rfl) rfl rfl rfl (fun _ => (o_callD 1 (matchL (fs) (l) ((b))) (en Tryz.func153) (fun U => c_impl_matches U  (fs) (l) ((b)) (by exact (mt_pre (by assumption)).1) (by exact (mt_pre (by assumption)).2.1) (by omega) (by exact (mt_pre (by assumption)).2.2.1) (by exact (mt_pre (by assumption)).2.2.2)) rfl rfl (.cons rfl .t0 (.cons rfl .t0 (.cons rfl (.own rfl) .nil))))) (fun _ => ?_) (nc g2)
   refine dH 15 rfl (fun _ => p_leno rfl rfl rfl) (fun _ => ?_) (nc g2)
   refine dH 16 rfl (fun _ => pB) (fun _ => ?_) (nc g2)
   refine dT 17 rfl (p_pickT rfl g2 rfl) ?_
   refine dT 18 rfl pA ?_
   refine d_end (by kernel_rfl) ?_
   refine tk Tryz.func90 (.tmp rfl .nil) ?_
   all_goals (refine scB ?_; (try simp only [show (0 : Int).toNat = 0 from rfl, List.drop_zero] at *); clear hrs hfs hll ho gl; unfold hasE; grind)
  ·
   have g2' := of_decide_eq_false g2
   refine dG 10 (ncf g2) (fun _ => ?_)
   refine dG 11 (ncf g2) (fun _ => ?_)
   refine dG 12 (ncf g2) (fun _ => ?_)
   refine dG 13 (ncf g2) (fun _ => ?_)
   refine dG 14 (ncf g2) (fun _ => ?_)
   refine dG 15 (ncf g2) (fun _ => ?_)
   refine dG 16 (ncf g2) (fun _ => ?_)
   refine dT 17 rfl (p_pickF rfl g2 rfl) ?_
   refine dT 18 rfl pA ?_
   refine d_end (by kernel_rfl) ?_
   refine tk Tryz.func90 (.tmp rfl .nil) ?_
   all_goals (refine scB ?_; (try simp only [show (0 : Int).toNat = 0 from rfl, List.drop_zero] at *); clear hrs hfs hll ho gl; unfold hasE; grind)
 ·
  have g1' := g1
  refine dG 5 (ncf g1) (fun _ => ?_)
  refine dG 6 (ncf g1) (fun _ => ?_)
  refine dT 7 rfl (p_pickF rfl g1 rfl) ?_
  refine dT 8 rfl pM ?_
  refine dG 9 (ncf rfl) (fun _ => ?_)
  refine dG 10 (ncf rfl) (fun _ => ?_)
  refine dG 11 (ncf rfl) (fun _ => ?_)
  refine dG 12 (ncf rfl) (fun _ => ?_)
  refine dG 13 (ncf rfl) (fun _ => ?_)
  refine dG 14 (ncf rfl) (fun _ => ?_)
  refine dG 15 (ncf rfl) (fun _ => ?_)
  refine dG 16 (ncf rfl) (fun _ => ?_)
  refine dT 17 rfl (p_pickF rfl rfl rfl) ?_
  refine dT 18 rfl pA ?_
  refine d_end (by kernel_rfl) ?_
  refine tk Tryz.func90 (.tmp rfl .nil) ?_
  all_goals (refine scB ?_; (try simp only [show (0 : Int).toNat = 0 from rfl, List.drop_zero] at *); clear hrs hfs hll ho gl; unfold hasE; grind)
theorem c_impl_IsActiveTrigger (rs : Rels) (fs : Atoms) (a0 : List (Int × (List (Int)))) (a1 : List (Int × (List (Int)))) (a2 : Bool) (a3 : Int) (a4 : Int) (b : List Int) (hrs : rs.length ≤ 4611686018427387904) (hfs : szS (fun (x : Int × (List (Int))) => (x.2).length) fs ≤ 1048576) (ho : ∀ z ∈ fs, ∀ x ∈ z.2, okI x) (hs : szS (fun (x : Int × (List (Int))) => (x.2).length) a0 + szS (fun (x : Int × (List (Int))) => (x.2).length) a1 ≤ 1048576) (hoa : ∀ z ∈ a0, ∀ x ∈ z.2, okI x) (hob : ∀ x ∈ b, okI x) (hbl : b.length ≤ 1048576) : Pu Tryz.prog 37 [.agg [.t none (.sl 3 (enS3 encS encI encB) (rs)), .t none (.sl 2 (enS2 encI (enSl 1 encI)) (fs))], .agg [.t none (.sl 2 (enS2 encI (enSl 1 encI)) (a0)), .t none (.sl 2 (enS2 encI (enSl 1 encI)) (a1)), .t none (.v (.bool (a2))), .t none (.v (.int .i64 (a3))), .t none (.v (.int .i64 (a4)))], .c (.t none (.sl 1 encI (b)))] [] 0 (.c (.t none (.v (.bool (actOk rs fs a0 a1 a2 a3 a4 b))))) := by
 refine pu_enter Tryz.func37 rfl (Nat.le_of_ble_eq_true rfl) fun w S => ?_
 have g0 := sz_len (f := (fun (x : Int × (List (Int))) => (x.2).length)) (l := a0); have v0 := setI_len (varsL a0); have v1 := varsL_size a0
 refine tsr ?_
 refine r_op (o_box 0 rfl rfl rfl rfl) ?_
 refine r_op (o_box 1 rfl rfl rfl rfl) ?_
 refine rA<|r_end<|t_seq<|tsr ?_
 refine rC 2 ?_
 refine rC 5 ?_
 refine rM ?_
 refine r_op (o_call 2 2 false (en Tryz.func89) (c_impl_IsTrigger (rs) (fs) (a0) (a1) (a2) (a3) (a4) (b) (by omega) (by omega) (by omega) (by omega) (by omega) (by omega) (by omega)) rfl (.cons rfl (.agg (.cons .t0 (.cons .t0 .nil))) (.cons rfl (.agg (.cons .t0 (.cons .t0 (.cons .t0 (.cons .t0 (.cons .t0 .nil)))))) (.cons rfl (.c .t0) .nil))) rfl rfl rfl) ?_
 refine r_op (o_not rfl rfl) ?_
 refine r_end ?_
 refine t_cond rfl (fun h1 => ?_) (fun h1 => ?_)
 ·
  have h1' := (bnt h1)
  refine tsr<|rA<|r_end ?_
  refine tk Tryz.func37 (.tmp rfl .nil) ?_
  all_goals (refine scB ?_; unfold actOk; clear hrs hfs ho hs hoa hob g0 v0 v1; (grind))
 ·
  have h1' := (bnf h1)
  refine t_skip<|t_seq<|tsr<|rF 2 ?_
  refine rL<|r_end ?_
  refine t_cond rfl (fun h2 => ?_) (fun h2 => ?_)
  ·
   have h2' := h2
   refine t_seq ?_
   refine t_draw (fun _ => true) (by kernel_rfl) ?_
   refine dT 0 rfl pM ?_
   refine dT 1 rfl (pF 3) ?_
   refine dT 2 rfl pL ?_
   obtain ⟨z3, hz4, b5⟩ := at_get (xs := b) (n := a3) (by exact (trg_idx (by assumption) (by assumption)).1.1) (by exact (trg_idx (by assumption) (by assumption)).1.2)
   refine dT 3 rfl (p_index (by kernel_rfl) rfl rfl b5 hz4) ?_
   refine dT 4 rfl (p_load1 (by kernel_rfl) rfl rfl) ?_
   refine dT 5 rfl pM ?_
   refine dT 6 rfl (pF 4) ?_
   refine dT 7 rfl pL ?_
   obtain ⟨z6, hz7, b8⟩ := at_get (xs := b) (n := a4) (by exact (trg_idx (by assumption) (by assumption)).2.1) (by exact (trg_idx (by assumption) (by assumption)).2.2)
   refine dT 8 rfl (p_index (by kernel_rfl) rfl rfl b8 hz7) ?_
   refine dT 9 rfl (p_load1 (by kernel_rfl) rfl rfl) ?_
   refine dT 10 rfl pB ?_
   refine dT 11 rfl pA ?_
   refine d_end (by kernel_rfl) ?_
   refine tk Tryz.func37 (.tmp rfl .nil) ?_
   all_goals (refine scB ?_; unfold actOk; clear hrs hfs ho hs hoa hob g0 v0 v1; (have e1 := getD_at hz4; have e2 := getD_at hz7; rw [e1, e2]; grind))
  ·
   have h2' := h2
   refine t_skip<|tsr<|rC 2 ?_
   refine rF 1 ?_
   refine rL ?_
   refine rM ?_
   refine r_op (o_call 2 2 false (en Tryz.func90) (c_impl_HasExtension (rs) (fs) (a1) (b) (by omega) (by omega) (by omega) (by omega) (by omega)) rfl (.cons rfl (.agg (.cons .t0 (.cons .t0 .nil))) (.cons rfl (.c .t0) (.cons rfl (.c .t0) .nil))) rfl rfl rfl) ?_
   refine r_op (o_not rfl rfl) ?_
   refine rA<|r_end ?_
   refine tk Tryz.func37 (.tmp rfl .nil) ?_
   all_goals (refine scB ?_; unfold actOk; clear hrs hfs ho hs hoa hob g0 v0 v1; (grind))
theorem c_impl_ActiveTriggers (rs : Rels) (fs : Atoms) (a0 : List (Int × (List (Int)))) (a1 : List (Int × (List (Int)))) (a2 : Bool) (a3 : Int) (a4 : Int) (hrs : rs.length ≤ 4611686018427387904) (hfs : szS (fun (x : Int × (List (Int))) => (x.2).length) fs ≤ 1048576) (ho : ∀ z ∈ fs, ∀ x ∈ z.2, okI x) (hs : szS (fun (x : Int × (List (Int))) => (x.2).length) a0 + szS (fun (x : Int × (List (Int))) => (x.2).length) a1 ≤ 1048576) (hoa : ∀ z ∈ a0, ∀ x ∈ z.2, okI x) : Pu Tryz.prog 123 [.agg [.t none (.sl 3 (enS3 encS encI encB) (rs)), .t none (.sl 2 (enS2 encI (enSl 1 encI)) (fs))], .agg [.t none (.sl 2 (enS2 encI (enSl 1 encI)) (a0)), .t none (.sl 2 (enS2 encI (enSl 1 encI)) (a1)), .t none (.v (.bool (a2))), .t none (.v (.int .i64 (a3))), .t none (.v (.int .i64 (a4)))]] [(2, some (.row none 29 true 1 (enSl 1 encI) (actL rs fs a0 a1 a2 a3 a4)))] 3 (.c (.own 2)) := by
 refine pu_enter Tryz.func123 rfl (Nat.le_of_ble_eq_true rfl) fun w S => ?_
 have g0 := sz_len (f := (fun (x : Int × (List (Int))) => (x.2).length)) (l := a0); have g1 := findL_len rs fs a0
 refine tsr ?_
 refine r_op (o_box 0 rfl rfl rfl rfl) ?_
 refine r_op (o_box 1 rfl rfl rfl rfl) ?_
 refine rA<|etr ?_
 refine r_op (o_lit0 2 (e := 29) (sz := 1) (zs := [.slice none 0 0]) (enSl 1 encI) rfl rfl (by kernel_rfl) rfl) ?_
 refine rA<|r_end<|t_seq<|tsr ?_
 refine rF 0 ?_
 refine rL ?_
 refine rC 5 ?_
 refine r_op (o_call 3 3 false (en Tryz.func149) (c_impl_IsValidDependency (rs) (a0) (a1) (a2) (a3) (a4) (by omega) (by omega)) rfl (.cons rfl (.c .t0) (.cons rfl (.agg (.cons .t0 (.cons .t0 (.cons .t0 (.cons .t0 (.cons .t0 .nil)))))) .nil)) rfl rfl rfl) ?_
 refine r_op (o_not rfl rfl) ?_
 refine r_end ?_
 refine t_cond rfl (fun h1 => ?_) (fun h1 => ?_)
 ·
  have h1' := (bnt h1)
  refine tsr<|rM ?_
  refine rA<|r_end ?_
  refine tk Tryz.func123 (.tmp rfl .nil) ?_ (hL := ⟨eqR ?_, trivial⟩) <;> (try clear ih0)
  all_goals first | rfl | ((exact actL_no (by simp_all; done)))
 ·
  have h1' := (bnf h1)
  refine t_skip<|t_seq<|tsr<|rC 2 ?_
  refine rF 0 ?_
  refine rL ?_
  refine r_op (o_call 3 5 false (en Tryz.func167) (c_impl_FindMatches (rs) (fs) (a0) (by omega) (by omega) (by omega) (by omega)) rfl (.cons rfl (.agg (.cons .t0 (.cons .t0 .nil))) (.cons rfl (.c .t0) .nil)) rfl rfl rfl) ?_
  refine r_op (o_leno rfl rfl rfl rfl) ?_
  refine rM<|r_end<|t_block ?_
  refine gt_sum 4 rfl ?_
  refine t_loopL (fun (vs, m) => ⟨[(2, some (.c (.ptr 0 0))), (3, some (.c (.ptr 1 0))), (4, some (.c (.t none (.v (.slice none 0 0))))), (5, some (.c (.own 2))), (18, some (.c (.own 4))), (19, some (.c (.t none (.v (.int .i64 (((findL (rs) (fs) (a0)).length : Int))))))), (20, some (.c (.t none (.v (.int .i64 ((m : Int)))))))], [(0, some (.box [.t none (.sl 3 (enS3 encS encI encB) (rs)), .t none (.sl 2 (enS2 encI (enSl 1 encI)) (fs))])), (1, some (.box [.t none (.sl 2 (enS2 encI (enSl 1 encI)) (a0)), .t none (.sl 2 (enS2 encI (enSl 1 encI)) (a1)), .t none (.v (.bool (a2))), .t none (.v (.int .i64 (a3))), .t none (.v (.int .i64 (a4)))])), (2, some (.row none 29 true 1 (enSl 1 encI) (((findL rs fs a0).take m).filter (actOk rs fs a0 a1 a2 a3 a4)))), (4, some (.row none 29 true 1 (encK (enSl 1 encI)) (tkL vs (findL rs fs a0))))], 5⟩ : List Value × Nat → St) (fun (vs, m) => vs.length = m ∧ m ≤ (findL rs fs a0).length) (fun (vs, m) => (findL rs fs a0).length - m) ([], 0) ⟨⟨rfl, ⟨rfl, ⟨rfl, ⟨rfl, ⟨rfl, ⟨rfl, ⟨rfl, trivial⟩⟩⟩⟩⟩⟩⟩, ⟨rfl, ⟨rfl, ⟨rfl, ⟨rfl, trivial⟩⟩⟩⟩, rfl⟩ (by exact ⟨rfl, Nat.zero_le _⟩) ?_
  rintro ⟨vs, m⟩ hI ih0
  try dsimp only at hI ih0
  obtain ⟨i0, i1⟩ := hI; have tl := tkL_len (vs := vs) (L := findL rs fs a0) (by omega); have fr := filt_room (p := actOk rs fs a0 a1 a2 a3 a4) (L := findL rs fs a0) (m := m) g1
  refine tsr<|rB<|r_end<|t_seq ?_
  refine t_cond rfl (fun h2 => ?_) (fun h2 => ?_)
  ·
   have h2' := of_decide_eq_true h2
   refine t_skip<|t_seq<|t_block<|t_seq ?_
   obtain ⟨z3, hz4, b5⟩ := at_get (xs := findL rs fs a0) (n := (m : Int)) (by omega) (by omega)
   refine gt_take0 5 4 rfl rfl (tkL_at (by omega) hz4) fun e6 v7 => ?_
   refine t_region ?_
   obtain ⟨z8, hz9, b10⟩ := at_get (xs := (tkL vs (findL rs fs a0)).set (m : Int).toNat (.inl v7)) (n := (m : Int)) (by omega) (by (rw [List.length_set]; omega))
   refine r_op (o_indexo rfl (by kernel_rfl) rfl rfl rfl b10 (at_lt b10 hz9)) ?_
   refine r_op (o_loadpin rfl (k := 5) (o := 0) (by kernel_rfl) rfl rfl (tk_got (by omega) (by omega)) rfl) ?_
   refine rA<|etr ?_
   refine rC 2 ?_
   refine rC 5 ?_
   refine rM ?_
   refine r_op (o_call 6 6 false (en Tryz.func37) (c_impl_IsActiveTrigger (rs) (fs) (a0) (a1) (a2) (a3) (a4) (z3) (by omega) (by omega) (by omega) (by omega) (by omega) (by exact findL_ok (fun f hf => ho f hf) (List.mem_of_getElem? (by assumption))) (by (have e5 := findL_five (List.mem_of_getElem? (by assumption)); omega))) rfl (.cons rfl (.agg (.cons .t0 (.cons .t0 .nil))) (.cons rfl (.agg (.cons .t0 (.cons .t0 (.cons .t0 (.cons .t0 (.cons .t0 .nil)))))) (.cons rfl (.c (.own rfl)) .nil))) rfl rfl rfl) ?_
   refine r_end ?_
   refine t_cond rfl (fun h11 => ?_) (fun h11 => ?_)
   ·
    have h11' := h11
    refine t_region<|rM ?_
    refine rM ?_
    refine r_op (o_litS 6 (e := 29) (sz := 1) (zs := [.slice none 0 0]) rfl rfl (by kernel_rfl) rfl rfl rfl rfl rfl) ?_
    refine r_op (o_append 2 (e := 29) (sz := 1) (by' := 24) (z3) rfl (by kernel_rfl) rfl rfl rfl rfl rfl rfl (.take (.own rfl) rfl .nil) rfl (by omega) (by omega)) ?_
    refine rA<|r_end<|t_endblock<|t_region ?_
    refine rB ?_
    refine rM<|r_end ?_
    refine t_le ?_ (ih0 (vs ++ [v7], m + 1) (by (try dsimp only); omega) (by (try dsimp only); exact ⟨by simp; omega, by omega⟩))
    exact ⟨⟨rfl, ⟨rfl, ⟨rfl, ⟨rfl, ⟨rfl, ⟨rfl, ⟨(eqI (wr64 (by omega) (by omega))), trivial⟩⟩⟩⟩⟩⟩⟩, ⟨rfl, ⟨rfl, ⟨(eqR (by exact filt_hit hz4 rfl (by assumption))), ⟨(eqR (tkL_set i0 (by omega))), trivial⟩⟩⟩⟩, rfl⟩
   ·
    have h11' := h11
    refine t_skip<|t_endblock<|t_region<|rB ?_
    refine rM<|r_end ?_
    refine t_le ?_ (ih0 (vs ++ [v7], m + 1) (by (try dsimp only); omega) (by (try dsimp only); exact ⟨by simp; omega, by omega⟩))
    exact ⟨⟨rfl, ⟨rfl, ⟨rfl, ⟨rfl, ⟨rfl, ⟨rfl, ⟨(eqI (wr64 (by omega) (by omega))), trivial⟩⟩⟩⟩⟩⟩⟩, ⟨rfl, ⟨rfl, ⟨(eqR (by exact filt_miss hz4 rfl (by assumption))), ⟨(eqR (tkL_set i0 (by omega))), trivial⟩⟩⟩⟩, rfl⟩
  ·
   have h2' := of_decide_eq_false h2
   refine t_exit rfl<|tsr<|rM ?_
   refine rA<|r_end ?_
   refine tk Tryz.func123 (.tmp rfl .nil) ?_ (hL := ⟨eqR ?_, trivial⟩) <;> (try clear ih0)
   all_goals first | rfl | ((exact actL_yes (by assumption) (by omega)))
theorem c_impl_FirstViolation (rs : Rels) (fs : Atoms) (ds : List Dep) (hrs : rs.length ≤ 4611686018427387904) (hfs : szS (fun (x : Int × (List (Int))) => (x.2).length) fs ≤ 1048576) (hds : szS (fun (x : (List (Int × (List (Int)))) × (List (Int × (List (Int)))) × Bool × Int × Int) => (szS (fun (x : Int × (List (Int))) => (x.2).length) (x.1)) + (szS (fun (x : Int × (List (Int))) => (x.2).length) (x.2.1))) ds ≤ 1048576) (ho : ∀ z ∈ fs, ∀ x ∈ z.2, okI x) (hod : ∀ d ∈ ds, ∀ z ∈ d.1, ∀ x ∈ z.2, okI x) : PuE Tryz.prog 69 [.agg [.t none (.sl 3 (enS3 encS encI encB) (rs)), .t none (.sl 2 (enS2 encI (enSl 1 encI)) (fs))], .c (.t none (.sl 5 (enS5 (enSl 2 (enS2 encI (enSl 1 encI))) (enSl 2 (enS2 encI (enSl 1 encI))) encB encI encI) (ds)))] (fun et => [(0, some (.row none et true 1 encI (vioB rs fs ds)))]) 1 (.tup [(false, [.t none (.v (.int .i64 (vioI rs fs ds)))]), (false, [.own 0]), (false, [.t none (.v (.bool (vioOk rs fs ds)))])]) := by
 refine pu_enterE Tryz.func69 rfl (Nat.le_of_ble_eq_true rfl) fun w S => ?_
 have gl := sz_len (f := (fun (x : (List (Int × (List (Int)))) × (List (Int × (List (Int)))) × Bool × Int × Int) => (szS (fun (x : Int × (List (Int))) => (x.2).length) (x.1)) + (szS (fun (x : Int × (List (Int))) => (x.2).length) (x.2.1)))) (l := ds)
 refine tsr ?_
 refine r_op (o_box 0 rfl rfl rfl rfl) ?_
 refine rA ?_
 refine rA ?_
 refine rA<|r_end<|t_seq<|tsr ?_
 refine rC 2 ?_
 refine r_op (o_call 1 1 false (en Tryz.func35) (c_impl_IsValidInstance (rs) (fs) (by omega) (by omega) (by omega)) rfl (.cons rfl (.agg (.cons .t0 (.cons .t0 .nil))) .nil) rfl rfl rfl) ?_
 refine r_op (o_not rfl rfl) ?_
 refine rM ?_
 refine rG (fun g1 => ?_) (fun g1 => ?_)
 ·
  have g1' := (bnf g1)
  refine rF 0 ?_
  refine rG (fun _ => ?_) (ncf g1)
  refine rL ?_
  refine rG (fun _ => ?_) (ncf g1)
  refine rM ?_
  refine rG (fun _ => ?_) (ncf g1)
  refine r_op (o_call 1 1 false (en Tryz.func122) (c_impl_AreValidDependencies (rs) (ds) (by omega) (by omega)) rfl (.cons rfl (.c .t0) (.cons rfl (.c .t0) .nil)) rfl rfl rfl) ?_
  refine rG (fun _ => ?_) (ncf g1)
  refine r_op (o_not rfl rfl) ?_
  refine r_op (o_pickF rfl rfl g1 rfl) ?_
  refine r_end ?_
  refine t_cond rfl (fun h2 => ?_) (fun h2 => ?_)
  ·
   have h2' := (bnt h2)
   refine tsr<|rA ?_
   refine rA ?_
   refine rA<|r_end ?_
   refine gt_nil 1 (t := 5) (et := 3) (sz := 1) true encI rfl rfl ?_
   refine gt_as [1] rfl ?_ rfl
   refine t_ret Tryz.func69 (.tmp rfl (.tmp rfl (.tmp rfl .nil))) rfl fun E S w u hI hd => ?_
   refine ⟨_, post_mk hI hd ?_ ⟨eqR ?_, trivial⟩ rfl rfl rfl⟩ <;> clear hI hd <;> (try clear ih0)
   all_goals (((have v0 : vioOk rs fs ds = false := (by exact vio_bad2 (by assumption))); have v1 := vio_off v0; first | exact v1.2.symm | exact tup3V v1.1.symm v0.symm))
  ·
   have h2' := (bnf h2)
   refine t_skip<|t_seq<|tsr<|rM ?_
   refine r_op (o_len rfl rfl rfl) ?_
   refine rM<|r_end<|t_block ?_
   refine t_loopL (fun m => ⟨[(2, some (.c (.ptr 0 0))), (20, some (.c (.t none (.sl 5 (enS5 (enSl 2 (enS2 encI (enSl 1 encI))) (enSl 2 (enS2 encI (enSl 1 encI))) encB encI encI) (ds))))), (21, some (.c (.t none (.v (.int .i64 (((ds).length : Int))))))), (22, some (.c (.t none (.v (.int .i64 ((m : Int)))))))], [(0, some (.box [.t none (.sl 3 (enS3 encS encI encB) (rs)), .t none (.sl 2 (enS2 encI (enSl 1 encI)) (fs))]))], 1⟩ : Nat → St) (fun m => m ≤ ds.length ∧ ∀ j z, j < m → ds[j]? = some z → hotD rs fs z = false) (fun m => ds.length - m) 0 ⟨⟨rfl, ⟨rfl, ⟨rfl, ⟨rfl, trivial⟩⟩⟩⟩, ⟨rfl, trivial⟩, rfl⟩ (by exact ⟨Nat.zero_le _, fun j z h => by omega⟩) ?_
   rintro m hI ih0
   try dsimp only at hI ih0
   obtain ⟨i1, i2⟩ := hI
   refine tsr<|rB<|r_end<|t_seq ?_
   refine t_cond rfl (fun h3 => ?_) (fun h3 => ?_)
   ·
    have h3' := of_decide_eq_true h3
    refine t_skip<|t_seq<|t_block<|tsr<|rM ?_
    obtain ⟨z4, hz5, b6⟩ := at_get (xs := ds) (n := (m : Int)) (by omega) (by omega)
    refine r_op (o_index rfl (by kernel_rfl) rfl rfl b6 hz5) ?_
    refine r_op (o_loadA rfl (n := 5) (by kernel_rfl) (by kernel_rfl) rfl rfl) ?_
    refine r_op (o_alloc 1 (zs := [.slice none 0 0, .slice none 0 0, .bool (false), .int .i64 (0), .int .i64 (0)]) rfl rfl (by kernel_rfl) rfl) ?_
    refine rA ?_
    refine rS 5<|etr ?_
    refine rC 2 ?_
    refine rC 5 ?_
    refine r_op (o_call 2 5 false (en Tryz.func123) (c_impl_ActiveTriggers (rs) (fs) (z4.1) (z4.2.1) (z4.2.2.1) (z4.2.2.2.1) (z4.2.2.2.2) (by omega) (by omega) (by omega) (by (have e1 := sz_at (f := (fun (x : (List (Int × (List (Int)))) × (List (Int × (List (Int)))) × Bool × Int × Int) => (szS (fun (x : Int × (List (Int))) => (x.2).length) (x.1)) + (szS (fun (x : Int × (List (Int))) => (x.2).length) (x.2.1)))) (l := ds) (m := m) (by assumption); (try dsimp only at e1); omega)) (by exact hod _ (List.mem_of_getElem? (by assumption)))) rfl (.cons rfl (.agg (.cons .t0 (.cons .t0 .nil))) (.cons rfl (.agg (.cons .t0 (.cons .t0 (.cons .t0 (.cons .t0 (.cons .t0 .nil)))))) .nil)) rfl rfl rfl) ?_
    refine rA<|etr ?_
    refine rM ?_
    refine r_op (o_leno rfl rfl rfl rfl) ?_
    refine rB<|r_end ?_
    refine t_cond rfl (fun h7 => ?_) (fun h7 => ?_)
    ·
     have h7' := of_decide_eq_true h7
     refine t_seq ?_
     refine gt_sum 4 rfl ?_
     obtain ⟨z8, hz9, b10⟩ := at_get (xs := actL rs fs z4.1 z4.2.1 z4.2.2.1 z4.2.2.2.1 z4.2.2.2.2) (n := (0 : Int)) (by omega) (by omega)
     refine gt_take0 5 4 rfl rfl (tkL_at (by rfl) hz9) fun e11 v12 => ?_
     refine t_draw (fun _ => true) (by kernel_rfl) ?_
     refine dT 0 rfl pM ?_
     refine dT 1 rfl pM ?_
     obtain ⟨z13, hz14, b15⟩ := at_get (xs := (tkL [] (actL rs fs z4.1 z4.2.1 z4.2.2.1 z4.2.2.2.1 z4.2.2.2.2)).set (0 : Int).toNat (.inl v12)) (n := 0) (by omega) (by (rw [tk_len2 (Nat.zero_le _)]; omega))
     refine dT 2 rfl (p_indexo (by kernel_rfl) rfl rfl rfl b15 (at_lt b15 hz14)) ?_
     refine dT 3 rfl (p_loadpin (k := 5) (o := 0) (by kernel_rfl) rfl rfl (tk_got (by rfl) (by omega)) rfl) ?_
     refine dT 4 rfl pA ?_
     refine dT 5 rfl pA ?_
     refine dT 6 rfl pA ?_
     refine d_end (by kernel_rfl) ?_
     refine gt_as [5] rfl ?_ rfl
     refine t_ret Tryz.func69 (.tmp rfl (.tmp rfl (.tmp rfl .nil))) rfl fun E S w u hI hd => ?_
     refine ⟨_, post_mk hI hd ?_ ⟨eqR ?_, trivial⟩ rfl rfl rfl⟩ <;> clear hI hd <;> (try clear ih0)
     all_goals ((have v1 := vio_hit (rs := rs) (fs := fs) (by assumption) (by assumption) i2 hz5 (hotD_pos (by assumption)) hz9; first | exact v1.2.2.symm | exact tup3V v1.2.1.symm v1.1.symm))
    ·
     have h7' := of_decide_eq_false h7
     refine t_skip<|t_endblock<|t_region<|rB ?_
     refine rM<|r_end ?_
     refine t_le ?_ (ih0 (m + 1) (by (try dsimp only); omega) (by (try dsimp only); exact ⟨by omega, no_step i2 hz5 rfl (hotD_not (by assumption))⟩))
     exact ⟨⟨rfl, ⟨rfl, ⟨rfl, ⟨(eqI (wr64 (by omega) (by omega))), trivial⟩⟩⟩⟩, ⟨rfl, trivial⟩, rfl⟩
   ·
    have h3' := of_decide_eq_false h3
    refine t_exit rfl<|tsr<|rA ?_
    refine rA ?_
    refine rA<|r_end ?_
    refine gt_nil 1 (t := 5) (et := 3) (sz := 1) true encI rfl rfl ?_
    refine gt_as [1] rfl ?_ rfl
    refine t_ret Tryz.func69 (.tmp rfl (.tmp rfl (.tmp rfl .nil))) rfl fun E S w u hI hd => ?_
    refine ⟨_, post_mk hI hd ?_ ⟨eqR ?_, trivial⟩ rfl rfl rfl⟩ <;> clear hI hd <;> (try clear ih0)
    all_goals (((have v0 : vioOk rs fs ds = false := (by exact vio_none i2 (by omega))); have v1 := vio_off v0; first | exact v1.2.symm | exact tup3V v1.1.symm v0.symm))
 ·
  have g1' := (bnt g1)
  refine rG (nc g1) (fun _ => ?_)
  refine rG (nc g1) (fun _ => ?_)
  refine rG (nc g1) (fun _ => ?_)
  refine rG (nc g1) (fun _ => ?_)
  refine r_op (o_pickT rfl rfl g1 rfl) ?_
  refine r_end ?_
  refine t_cond rfl (fun _ => ?_) (nc rfl)
  refine tsr<|rA ?_
  refine rA ?_
  refine rA<|r_end ?_
  refine gt_nil 1 (t := 5) (et := 3) (sz := 1) true encI rfl rfl ?_
  refine gt_as [1] rfl ?_ rfl
  refine t_ret Tryz.func69 (.tmp rfl (.tmp rfl (.tmp rfl .nil))) rfl fun E S w u hI hd => ?_
  refine ⟨_, post_mk hI hd ?_ ⟨eqR ?_, trivial⟩ rfl rfl rfl⟩ <;> clear hI hd <;> (try clear ih0)
  all_goals (((have v0 : vioOk rs fs ds = false := (by exact vio_bad1 (by assumption))); have v1 := vio_off v0; first | exact v1.2.symm | exact tup3V v1.1.symm v0.symm))
theorem c_slices_Clone___impl_Relation_impl_Relation_ (l : Rels) (hl : l.length ≤ 1048576) : Pu Tryz.prog 108 [.c (.t none (.sl 3 (enS3 encS encI encB) (l)))] [(0, some (.row none 119 true 3 (enS3 encS encI encB) (l)))] 1 (.c (.own 0)) := by
 refine pu_enter Tryz.func108 rfl (Nat.le_of_ble_eq_true rfl) fun w S => ?_
 refine tsr<|rA<|r_end<|t_seq<|tsr ?_
 refine rM ?_
 refine r_eqnil rfl rfl rfl (fun en1 => ?_) ?_
 ·
  refine r_end ?_
  refine t_cond rfl (fun _ => ?_) (nc rfl)
  refine tsr<|rA<|r_end ?_
  refine gt_nil 0 (t := 2) (et := 119) (sz := 3) true (enS3 encS encI encB) rfl rfl ?_
  refine tk Tryz.func108 (.tmp rfl .nil) ?_ (hL := ⟨eqR ?_, trivial⟩)
  all_goals first | rfl | ((exact en1.symm))
 ·
  refine r_end ?_
  refine t_cond rfl (ncf rfl) (fun _ => ?_)
  refine t_skip<|tsr ?_
  refine r_op (o_lit0 0 (e := 119) (sz := 3) (zs := [.string (mkS ([])), .int .i64 (0), .bool (false)]) (enS3 encS encI encB) rfl rfl (by kernel_rfl) rfl) ?_
  refine rM ?_
  refine r_op (o_appendS 0 (e := 119) (sz := 3) (by' := 32) rfl (by kernel_rfl) rfl rfl rfl rfl (fun _ j => by rcases j with _ | _ | j <;> exact ⟨_, rfl⟩) (by (simp; omega)) (by (simp; omega))) ?_
  refine rA<|r_end ?_
  refine tk Tryz.func108 (.tmp rfl .nil) ?_ (hL := ⟨eqR ?_, trivial⟩)
  all_goals (rfl)
theorem c_impl_factCopy (r : Int) (ts : List Int) (hl : ts.length ≤ 1048576) : Pu Tryz.prog 160 [.agg [.t none (.v (.int .i64 (r))), .t none (.sl 1 encI (ts))]] [(2, some (.row none 3 true 1 encI (ts)))] 3 (.agg [.t none (.v (.int .i64 (r))), .own 2]) := by
 refine pu_enter Tryz.func160 rfl (Nat.le_of_ble_eq_true rfl) fun w S => ?_
 refine tsr ?_
 refine r_op (o_box 0 rfl rfl rfl rfl) ?_
 refine r_op (o_alloc 1 (zs := [.int .i64 (0), .slice none 0 0]) rfl rfl (by kernel_rfl) rfl) ?_
 refine r_end<|t_seq ?_
 refine t_draw (fun i => !(Nat.beq i 6)) (by kernel_rfl) ?_
 refine dT 0 rfl (pF 0) ?_
 refine dT 1 rfl pL ?_
 refine dT 2 rfl (pF 1) ?_
 refine dT 3 rfl pL ?_
 refine dO 4 rfl (o_call 2 3 false (en Tryz.func55) (c_slices_Clone___int_int_ (ts) (by omega)) rfl (.cons rfl (.c .t0) .nil) rfl rfl rfl) ?_
 refine dT 5 rfl (p_build (pl := [(0, 1), (1, 1)]) (zs := [.int .i64 (0), .slice none 0 0]) (by kernel_rfl) (by kernel_rfl) rfl rfl rfl) ?_
 refine dO 6 rfl (oS 2) ?_
 refine d_end (by kernel_rfl) ?_
 refine tk Tryz.func160 (.cells (n := 2) (by kernel_rfl) (by kernel_rfl) rfl rfl rfl .nil) ?_ (hL := ⟨eqR ?_, trivial⟩)
 all_goals (rfl)
theorem c_impl_factsCopy (fs : Atoms) (hfs : szS (fun (x : Int × (List (Int))) => (x.2).length) fs ≤ 1048576) : Pu Tryz.prog 109 [.c (.t none (.sl 2 (enS2 encI (enSl 1 encI)) (fs)))] [(0, some (.row none 85 true 2 (enS2 encI (enSl 1 encI)) (fs)))] 1 (.c (.own 0)) := by
 refine pu_enter Tryz.func109 rfl (Nat.le_of_ble_eq_true rfl) fun w S => ?_
 have gl := sz_len (f := (fun (x : Int × (List (Int))) => (x.2).length)) (l := fs)
 refine tsr<|rA<|etr ?_
 refine r_op (o_lit0 0 (e := 85) (sz := 2) (zs := [.int .i64 (0), .slice none 0 0]) (enS2 encI (enSl 1 encI)) rfl rfl (by kernel_rfl) rfl) ?_
 refine rA<|r_end<|t_seq<|tsr ?_
 refine rM ?_
 refine r_op (o_len rfl rfl rfl) ?_
 refine rM<|r_end<|t_block ?_
 refine t_loopL (fun m => ⟨[(2, some (.c (.t none (.v (.slice none 0 0))))), (3, some (.c (.own 0))), (7, some (.c (.t none (.sl 2 (enS2 encI (enSl 1 encI)) (fs))))), (8, some (.c (.t none (.v (.int .i64 (((fs).length : Int))))))), (9, some (.c (.t none (.v (.int .i64 ((m : Int)))))))], [(0, some (.row none 85 true 2 (enS2 encI (enSl 1 encI)) (fs.take m)))], 1⟩ : Nat → St) (fun m => m ≤ fs.length) (fun m => fs.length - m) 0 ⟨⟨rfl, ⟨rfl, ⟨rfl, ⟨rfl, ⟨rfl, trivial⟩⟩⟩⟩⟩, ⟨rfl, trivial⟩, rfl⟩ (by exact Nat.zero_le _) ?_
 rintro m hI ih0
 try dsimp only at hI ih0
 have i1 := hI
 refine tsr<|rB<|r_end<|t_seq ?_
 refine t_cond rfl (fun h1 => ?_) (fun h1 => ?_)
 ·
  have h1' := of_decide_eq_true h1
  refine t_skip<|t_seq<|t_block<|tsr ?_
  obtain ⟨z2, hz3, b4⟩ := at_get (xs := fs) (n := (m : Int)) (by omega) (by omega)
  refine r_op (o_index rfl (by kernel_rfl) rfl rfl b4 hz3) ?_
  refine r_op (o_loadA rfl (n := 2) (by kernel_rfl) (by kernel_rfl) rfl rfl) ?_
  refine r_op (o_alloc 1 (zs := [.int .i64 (0), .slice none 0 0]) rfl rfl (by kernel_rfl) rfl) ?_
  refine rS 2<|rtr ?_
  refine rM ?_
  refine rC 2 ?_
  refine r_op (o_call 2 5 false (en Tryz.func160) (c_impl_factCopy (z2.1) (z2.2) (by (have e1 := sz_at (f := (fun (x : Int × (List (Int))) => (x.2).length)) (l := fs) (m := m) (by assumption); (try dsimp only at e1); omega))) rfl (.cons rfl (.agg (.cons .t0 (.cons .t0 .nil))) .nil) rfl rfl rfl) ?_
  refine r_op (o_litS 5 (e := 85) (sz := 2) (zs := [.int .i64 (0), .slice none 0 0]) rfl rfl (by kernel_rfl) rfl rfl rfl rfl rfl) ?_
  refine r_op (o_append 0 (e := 85) (sz := 2) (by' := 32) (((z2.1), (z2.2))) rfl (by kernel_rfl) rfl rfl rfl rfl rfl rfl (.cons .sc (.take (.own rfl) rfl .nil)) rfl (by (simp; omega)) (by (simp; omega))) ?_
  refine rA<|r_end<|t_endblock<|t_region ?_
  refine rB ?_
  refine rM<|r_end ?_
  refine t_le ?_ (ih0 (m + 1) (by (try dsimp only); omega) (by (try dsimp only); omega))
  exact ⟨⟨rfl, ⟨rfl, ⟨rfl, ⟨rfl, ⟨(eqI (wr64 (by omega) (by omega))), trivial⟩⟩⟩⟩⟩, ⟨(eqR (take_snoc hz3)), trivial⟩, rfl⟩
 ·
  have h1' := of_decide_eq_false h1
  refine t_exit rfl<|tsr<|rM ?_
  refine rA<|r_end ?_
  refine tk Tryz.func109 (.tmp rfl .nil) ?_ (hL := ⟨eqR ?_, trivial⟩) <;> (try clear ih0)
  all_goals first | rfl | ((rw [List.take_of_length_le (by omega)]))
theorem c_impl_instanceCopy (rs : Rels) (fs : Atoms) (hrs : rs.length ≤ 1048576) (hfs : szS (fun (x : Int × (List (Int))) => (x.2).length) fs ≤ 1048576) : Pu Tryz.prog 53 [.agg [.t none (.sl 3 (enS3 encS encI encB) (rs)), .t none (.sl 2 (enS2 encI (enSl 1 encI)) (fs))]] [(2, some (.row none 119 true 3 (enS3 encS encI encB) (rs))), (3, some (.row none 85 true 2 (enS2 encI (enSl 1 encI)) (fs)))] 4 (.agg [.own 2, .own 3]) := by
 refine pu_enter Tryz.func53 rfl (Nat.le_of_ble_eq_true rfl) fun w S => ?_
 refine tsr ?_
 refine r_op (o_box 0 rfl rfl rfl rfl) ?_
 refine r_op (o_alloc 1 (zs := [.slice none 0 0, .slice none 0 0]) rfl rfl (by kernel_rfl) rfl) ?_
 refine r_end<|t_seq ?_
 refine t_draw (fun i => !(Nat.beq i 7)) (by kernel_rfl) ?_
 refine dT 0 rfl (pF 0) ?_
 refine dT 1 rfl pL ?_
 refine dT 3 rfl (pF 1) ?_
 refine dT 4 rfl pL ?_
 refine dO 2 rfl (o_call 2 3 false (en Tryz.func108) (c_slices_Clone___impl_Relation_impl_Relation_ (rs) (by omega)) rfl (.cons rfl (.c .t0) .nil) rfl rfl rfl) ?_
 refine dO 5 rfl (o_call 3 4 false (en Tryz.func109) (c_impl_factsCopy (fs) (by omega)) rfl (.cons rfl (.c .t0) .nil) rfl rfl rfl) ?_
 refine dT 6 rfl (p_build (pl := [(0, 1), (1, 1)]) (zs := [.slice none 0 0, .slice none 0 0]) (by kernel_rfl) (by kernel_rfl) rfl rfl rfl) ?_
 refine dO 7 rfl (oS 2) ?_
 refine d_end (by kernel_rfl) ?_
 refine tk Tryz.func53 (.cells (n := 2) (by kernel_rfl) (by kernel_rfl) rfl rfl rfl .nil) ?_ (hL := ⟨eqR ?_, ⟨eqR ?_, trivial⟩⟩)
 all_goals (rfl)
theorem c_impl_IsNull (v : Int) : Pu Tryz.prog 110 [.c (.t none (.v (.int .i64 (v))))] [] 0 (.c (.t none (.v (.bool (decide (v < 0)))))) := by
 refine pu_enter Tryz.func110 rfl (Nat.le_of_ble_eq_true rfl) fun w S => ?_
 refine tsr<|rA<|etr ?_
 refine rM ?_
 refine rB ?_
 refine rA<|r_end ?_
 refine tk Tryz.func110 (.tmp rfl .nil) ?_
 all_goals (rfl)
theorem c_impl_IsValidSubstitution (ns vs : List Int) (hn : ns.length ≤ 4611686018427387904) (hv : vs.length ≤ 4611686018427387904) (on : ∀ x ∈ ns, okI x) (ov : ∀ x ∈ vs, okI x) : Pu Tryz.prog 161 [.agg [.t none (.sl 1 encI (ns)), .t none (.sl 1 encI (vs))]] [] 0 (.c (.t none (.v (.bool (subOk ns vs))))) := by
 refine pu_enter Tryz.func161 rfl (Nat.le_of_ble_eq_true rfl) fun w S => ?_
 refine tsr ?_
 refine r_op (o_box 0 rfl rfl rfl rfl) ?_
 refine rA<|r_end<|t_seq<|tsr ?_
 refine rF 0 ?_
 refine rL ?_
 refine r_op (o_len rfl rfl rfl) ?_
 refine rF 1 ?_
 refine rL ?_
 refine r_op (o_len rfl rfl rfl) ?_
 refine rB<|r_end ?_
 refine t_cond rfl (fun h1 => ?_) (fun h1 => ?_)
 ·
  have h1' := of_decide_eq_true h1
  refine tsr<|rA<|r_end ?_
  refine tk Tryz.func161 (.tmp rfl .nil) ?_ <;> (try clear ih0)
  all_goals (refine scB ?_; (rw [subOk_len (by omega)]; done))
 ·
  have h1' := of_decide_eq_false h1
  refine t_skip<|t_seq<|tsr<|rF 0 ?_
  refine rL ?_
  refine r_op (o_len rfl rfl rfl) ?_
  refine rM<|r_end<|t_block ?_
  refine t_loopL (fun m => ⟨[(1, some (.c (.ptr 0 0))), (13, some (.c (.t none (.sl 1 encI (ns))))), (14, some (.c (.t none (.v (.int .i64 (((ns).length : Int))))))), (15, some (.c (.t none (.v (.int .i64 ((m : Int)))))))], [(0, some (.box [.t none (.sl 1 encI (ns)), .t none (.sl 1 encI (vs))]))], 1⟩ : Nat → St) (fun m => m ≤ ns.length ∧ ns.length = vs.length ∧ ∀ j, j < m → subStep ns vs j = true) (fun m => ns.length - m) 0 ⟨⟨rfl, ⟨rfl, ⟨rfl, ⟨rfl, trivial⟩⟩⟩⟩, ⟨rfl, trivial⟩, rfl⟩ (by exact ⟨Nat.zero_le _, by omega, fun j h => by omega⟩) ?_
  rintro m hI ih0
  try dsimp only at hI ih0
  obtain ⟨i1, i2, i3⟩ := hI
  refine tsr<|rB<|r_end<|t_seq ?_
  refine t_cond rfl (fun h2 => ?_) (fun h2 => ?_)
  ·
   have h2' := of_decide_eq_true h2
   refine t_skip<|t_seq<|t_block<|tsr<|rM ?_
   obtain ⟨z3, hz4, b5⟩ := at_get (xs := ns) (n := (m : Int)) (by omega) (by omega)
   refine r_op (o_index rfl (by kernel_rfl) rfl rfl b5 hz4) ?_
   refine r_op (o_load1 rfl (by kernel_rfl) rfl rfl) ?_
   refine rA ?_
   refine rA<|etr ?_
   refine rM ?_
   refine r_op (o_call 1 1 false (en Tryz.func141) (c_impl_within (z3) (0) (39)) rfl (.cons rfl (.c .t0) (.cons rfl (.c .t0) (.cons rfl (.c .t0) .nil))) rfl rfl rfl) ?_
   refine r_op (o_not rfl rfl) ?_
   refine rM ?_
   refine rG (fun g6 => ?_) (fun g6 => ?_)
   ·
    have g6' := of_decide_eq_true (bnf g6)
    refine rM ?_
    refine rG (fun _ => ?_) (ncf g6)
    refine rB ?_
    refine rG (fun _ => ?_) (ncf g6)
    refine rM ?_
    refine rG (fun g7 => ?_) (fun g7 => ?_)
    ·
     have g7' := of_decide_eq_true g7
     refine rM ?_
     refine rG (fun _ => ?_) (nc g7)
     refine rF 0 ?_
     refine rG (fun _ => ?_) (nc g7)
     refine rL ?_
     refine rG (fun _ => ?_) (nc g7)
     refine rM ?_
     refine rG (fun _ => ?_) (nc g7)
     refine rB ?_
     refine rG (fun _ => ?_) (nc g7)
     obtain ⟨z8, hz9, b10⟩ := at_get (xs := ns) (n := IntKind.i64.wrap ((m : Int) - 1)) (by (simp only [IntKind.wrap_i64] at *; omega)) (by (simp only [IntKind.wrap_i64] at *; omega))
     refine r_op (o_index rfl (by kernel_rfl) rfl rfl b10 hz9) ?_
     refine rG (fun _ => ?_) (nc g7)
     refine r_op (o_load1 rfl (by kernel_rfl) rfl rfl) ?_
     refine rG (fun _ => ?_) (nc g7)
     refine rB ?_
     refine rG (fun _ => ?_) (ncf g6)
     refine r_op (o_pickT rfl rfl g7 rfl) ?_
     refine r_op (o_pickF rfl rfl g6 rfl) ?_
     refine rM ?_
     refine rG (fun g11 => ?_) (fun g11 => ?_)
     ·
      have g11' := of_decide_eq_false g11
      refine rF 1 ?_
      refine rG (fun _ => ?_) (ncf g11)
      refine rL ?_
      refine rG (fun _ => ?_) (ncf g11)
      refine rM ?_
      refine rG (fun _ => ?_) (ncf g11)
      obtain ⟨z12, hz13, b14⟩ := at_get (xs := vs) (n := (m : Int)) (by omega) (by omega)
      refine r_op (o_index rfl (by kernel_rfl) rfl rfl b14 hz13) ?_
      refine rG (fun _ => ?_) (ncf g11)
      refine r_op (o_load1 rfl (by kernel_rfl) rfl rfl) ?_
      refine rG (fun _ => ?_) (ncf g11)
      refine r_op (o_call 1 1 false (en Tryz.func113) (c_impl_IsValidValue (z12)) rfl (.cons rfl (.c .t0) .nil) rfl rfl rfl) ?_
      refine rG (fun _ => ?_) (ncf g11)
      refine r_op (o_not rfl rfl) ?_
      refine r_op (o_pickF rfl rfl g11 rfl) ?_
      refine r_end ?_
      refine t_cond rfl (fun h15 => ?_) (fun h15 => ?_)
      ·
       have h15' := of_decide_eq_false (bnt h15)
       refine tsr<|rA<|r_end ?_
       refine tk Tryz.func161 (.tmp rfl .nil) ?_ <;> (try clear ih0)
       all_goals (refine scB ?_; (rw [subOk_not (m := m) (by omega) (by exact subStep_v (by assumption) (by omega))]; done))
      ·
       have h15' := of_decide_eq_true (bnf h15)
       refine t_skip<|t_endblock<|t_region<|rB ?_
       refine rM<|r_end ?_
       refine t_le ?_ (ih0 (m + 1) (by (try dsimp only); omega) (by (try dsimp only); exact ⟨by omega, i2, step_all i3 (by (rw [subStep_n (m := m) (by assumption) (by assumption) (by omega) (by assumption) (by (try simp only [IntKind.wrap_i64]); omega), decide_eq_true (by omega), decide_eq_true (by omega), decide_eq_true (by omega)]; rfl))⟩))
       exact ⟨⟨rfl, ⟨rfl, ⟨rfl, ⟨(eqI (wr64 (by omega) (by omega))), trivial⟩⟩⟩⟩, ⟨rfl, trivial⟩, rfl⟩
     ·
      have g11' := of_decide_eq_true g11
      refine rG (nc g11) (fun _ => ?_)
      refine rG (nc g11) (fun _ => ?_)
      refine rG (nc g11) (fun _ => ?_)
      refine rG (nc g11) (fun _ => ?_)
      refine rG (nc g11) (fun _ => ?_)
      refine rG (nc g11) (fun _ => ?_)
      refine r_op (o_pickT rfl rfl g11 rfl) ?_
      refine r_end ?_
      refine t_cond rfl (fun _ => ?_) (nc rfl)
      refine tsr<|rA<|r_end ?_
      refine tk Tryz.func161 (.tmp rfl .nil) ?_ <;> (try clear ih0)
      all_goals (refine scB ?_; (rw [subOk_not (m := m) (by omega) (by exact subStep_p (m := m) (by assumption) (by omega) (by assumption) (by (try simp only [IntKind.wrap_i64]); omega) (by omega))]; done))
    ·
     have g7' := of_decide_eq_false g7
     refine rG (ncf g7) (fun _ => ?_)
     refine rG (ncf g7) (fun _ => ?_)
     refine rG (ncf g7) (fun _ => ?_)
     refine rG (ncf g7) (fun _ => ?_)
     refine rG (ncf g7) (fun _ => ?_)
     refine rG (ncf g7) (fun _ => ?_)
     refine rG (ncf g7) (fun _ => ?_)
     refine rG (fun _ => ?_) (ncf g6)
     refine r_op (o_pickF rfl rfl g7 rfl) ?_
     refine r_op (o_pickF rfl rfl g6 rfl) ?_
     refine rM ?_
     refine rG (fun _ => ?_) (ncf rfl)
     refine rF 1 ?_
     refine rG (fun _ => ?_) (ncf rfl)
     refine rL ?_
     refine rG (fun _ => ?_) (ncf rfl)
     refine rM ?_
     refine rG (fun _ => ?_) (ncf rfl)
     obtain ⟨z16, hz17, b18⟩ := at_get (xs := vs) (n := (m : Int)) (by omega) (by omega)
     refine r_op (o_index rfl (by kernel_rfl) rfl rfl b18 hz17) ?_
     refine rG (fun _ => ?_) (ncf rfl)
     refine r_op (o_load1 rfl (by kernel_rfl) rfl rfl) ?_
     refine rG (fun _ => ?_) (ncf rfl)
     refine r_op (o_call 1 1 false (en Tryz.func113) (c_impl_IsValidValue (z16)) rfl (.cons rfl (.c .t0) .nil) rfl rfl rfl) ?_
     refine rG (fun _ => ?_) (ncf rfl)
     refine r_op (o_not rfl rfl) ?_
     refine r_op (o_pickF rfl rfl rfl rfl) ?_
     refine r_end ?_
     refine t_cond rfl (fun h19 => ?_) (fun h19 => ?_)
     ·
      have h19' := of_decide_eq_false (bnt h19)
      refine tsr<|rA<|r_end ?_
      refine tk Tryz.func161 (.tmp rfl .nil) ?_ <;> (try clear ih0)
      all_goals (refine scB ?_; (rw [subOk_not (m := m) (by omega) (by exact subStep_v (by assumption) (by omega))]; done))
     ·
      have h19' := of_decide_eq_true (bnf h19)
      refine t_skip<|t_endblock<|t_region<|rB ?_
      refine rM<|r_end ?_
      refine t_le ?_ (ih0 (m + 1) (by (try dsimp only); omega) (by (try dsimp only); exact ⟨by omega, i2, step_all i3 (by (rw [subStep_0 (m := m) (by assumption) (by assumption) (by omega), decide_eq_true (by omega), decide_eq_true (by omega)]; rfl))⟩))
      exact ⟨⟨rfl, ⟨rfl, ⟨rfl, ⟨(eqI (wr64 (by omega) (by omega))), trivial⟩⟩⟩⟩, ⟨rfl, trivial⟩, rfl⟩
   ·
    have g6' := of_decide_eq_false (bnt g6)
    refine rG (nc g6) (fun _ => ?_)
    refine rG (nc g6) (fun _ => ?_)
    refine r_skip rfl rfl rfl ?_
    refine r_skip rfl rfl rfl ?_
    refine r_skip rfl rfl rfl ?_
    refine r_skip rfl rfl rfl ?_
    refine r_skip rfl rfl rfl ?_
    refine r_skip rfl rfl rfl ?_
    refine r_skip rfl rfl rfl ?_
    refine r_skip rfl rfl rfl ?_
    refine rG (nc g6) (fun _ => ?_)
    refine r_op (o_pickT rfl rfl g6 rfl) ?_
    refine rM ?_
    refine rG (nc rfl) (fun _ => ?_)
    refine rG (nc rfl) (fun _ => ?_)
    refine rG (nc rfl) (fun _ => ?_)
    refine rG (nc rfl) (fun _ => ?_)
    refine rG (nc rfl) (fun _ => ?_)
    refine rG (nc rfl) (fun _ => ?_)
    refine rG (nc rfl) (fun _ => ?_)
    refine r_op (o_pickT rfl rfl rfl rfl) ?_
    refine r_end ?_
    refine t_cond rfl (fun _ => ?_) (nc rfl)
    refine tsr<|rA<|r_end ?_
    refine tk Tryz.func161 (.tmp rfl .nil) ?_ <;> (try clear ih0)
    all_goals (refine scB ?_; (rw [subOk_not (m := m) (by omega) (by exact subStep_k (by assumption) (by omega))]; done))
  ·
   have h2' := of_decide_eq_false h2
   refine t_exit rfl<|tsr<|rA<|r_end ?_
   refine tk Tryz.func161 (.tmp rfl .nil) ?_ <;> (try clear ih0)
   all_goals (refine scB ?_; (rw [subOk_end i2 i3 (by omega)]; done))
theorem c_impl_ApplyToValue (ns vs : List Int) (v : Int) (hn : ns.length ≤ 4611686018427387904) (hv : vs.length ≤ 4611686018427387904) (on : ∀ x ∈ ns, okI x) (ov : ∀ x ∈ vs, okI x) (hv1 : -9223372036854775808 ≤ v) (hv2 : v ≤ 9223372036854775807) : Pu Tryz.prog 189 [.agg [.t none (.sl 1 encI (ns)), .t none (.sl 1 encI (vs))], .c (.t none (.v (.int .i64 (v))))] [] 0 (.c (.t none (.v (.int .i64 (appV ns vs v))))) := by
 refine pu_enter Tryz.func189 rfl (Nat.le_of_ble_eq_true rfl) fun w S => ?_
 have nn : (-40 ≤ v ∧ v ≤ -1) → idxI (eqP (if -40 ≤ v ∧ v ≤ -1 then -1 - v else 0)) ns = idxI (eqP (-1 - v)) ns := fun e => by rw [if_pos e]
 refine tsr ?_
 refine r_op (o_box 0 rfl rfl rfl rfl) ?_
 refine rA<|etr ?_
 refine rM ?_
 refine r_op (o_call 1 1 false (en Tryz.func111) (c_impl_NullNumber (v) (by omega) (by omega)) rfl (.cons rfl (.c .t0) .nil) rfl rfl rfl) ?_
 refine rM ?_
 refine r_op (o_extract rfl rfl rfl rfl) ?_
 refine r_op (o_extract rfl rfl rfl rfl) ?_
 refine rA ?_
 refine rA<|etr ?_
 refine rF 0 ?_
 refine rL ?_
 refine rM ?_
 refine r_op (o_call 1 1 false (en Tryz.func186) (c_slices_Index___int_int_ (ns) (if -40 ≤ (v) ∧ (v) ≤ -1 then -1 - (v) else 0) (by omega)) rfl (.cons rfl (.c .t0) (.cons rfl (.c .t0) .nil)) rfl rfl rfl) ?_
 refine rA<|r_end<|t_seq<|tsr ?_
 refine rM ?_
 refine r_op (o_not rfl rfl) ?_
 refine rM ?_
 refine rG (fun g1 => ?_) (fun g1 => ?_)
 ·
  have g1' := of_decide_eq_true (bnf g1)
  refine rM ?_
  refine rG (fun _ => ?_) (ncf g1)
  refine rB ?_
  refine r_op (o_pickF rfl rfl g1 rfl) ?_
  refine rM ?_
  refine rG (fun g2 => ?_) (fun g2 => ?_)
  ·
   have g2' := of_decide_eq_false g2
   refine rC 2 ?_
   refine rG (fun _ => ?_) (ncf g2)
   refine r_op (o_call 1 1 false (en Tryz.func161) (c_impl_IsValidSubstitution (ns) (vs) (by omega) (by omega) (by omega) (by omega)) rfl (.cons rfl (.agg (.cons .t0 (.cons .t0 .nil))) .nil) rfl rfl rfl) ?_
   refine rG (fun _ => ?_) (ncf g2)
   refine r_op (o_not rfl rfl) ?_
   refine r_op (o_pickF rfl rfl g2 rfl) ?_
   refine r_end ?_
   refine t_cond rfl (fun h3 => ?_) (fun h3 => ?_)
   ·
    have h3' := (bnt h3)
    refine tsr<|rM ?_
    refine rA<|r_end ?_
    refine tk Tryz.func189 (.tmp rfl .nil) ?_
    all_goals (refine scI ?_; (exact appV_no (fun q => by have q1 := q.2.2; clear nn; simp_all; done)))
   ·
    have h3' := (bnf h3)
    refine t_skip<|tsr<|rF 1 ?_
    refine rL ?_
    refine rM ?_
    obtain ⟨z4, hz5, b6⟩ := at_get (xs := vs) (n := idxI (eqP (if -40 ≤ (v) ∧ (v) ≤ -1 then -1 - (v) else 0)) (ns)) (by omega) (by (have q := nn (by assumption); have q2 := appV_idx (ns := ns) (vs := vs) (v := v) (by assumption) rfl (by omega) (by assumption); omega))
    refine r_op (o_index rfl (by kernel_rfl) rfl rfl b6 hz5) ?_
    refine r_op (o_load1 rfl (by kernel_rfl) rfl rfl) ?_
    refine rA<|r_end ?_
    refine tk Tryz.func189 (.tmp rfl .nil) ?_
    all_goals (refine scI ?_; (have q := nn (by assumption); exact appV_yes (by assumption) (by omega) q (by assumption) (by assumption)))
  ·
   have g2' := of_decide_eq_true g2
   refine rG (nc g2) (fun _ => ?_)
   refine rG (nc g2) (fun _ => ?_)
   refine r_op (o_pickT rfl rfl g2 rfl) ?_
   refine r_end ?_
   refine t_cond rfl (fun _ => ?_) (nc rfl)
   refine tsr<|rM ?_
   refine rA<|r_end ?_
   refine tk Tryz.func189 (.tmp rfl .nil) ?_
   all_goals (refine scI ?_; (exact appV_no (fun q => by have q1 := nn q.1; omega)))
 ·
  have g1' := of_decide_eq_false (bnt g1)
  refine rG (nc g1) (fun _ => ?_)
  refine r_op (o_pickT rfl rfl g1 rfl) ?_
  refine rM ?_
  refine rG (nc rfl) (fun _ => ?_)
  refine rG (nc rfl) (fun _ => ?_)
  refine rG (nc rfl) (fun _ => ?_)
  refine r_op (o_pickT rfl rfl rfl rfl) ?_
  refine r_end ?_
  refine t_cond rfl (fun _ => ?_) (nc rfl)
  refine tsr<|rM ?_
  refine rA<|r_end ?_
  refine tk Tryz.func189 (.tmp rfl .nil) ?_
  all_goals (refine scI ?_; (exact appV_no (fun q => by have q1 := nn q.1; omega)))
theorem c_impl_ApplyToFact (ns vs : List Int) (r : Int) (ts : List Int) (hn : ns.length ≤ 4611686018427387904) (hv : vs.length ≤ 4611686018427387904) (on : ∀ x ∈ ns, okI x) (ov : ∀ x ∈ vs, okI x) (hts : ts.length ≤ 1048576) (ot : ∀ x ∈ ts, okI x) : Pu Tryz.prog 162 [.agg [.t none (.sl 1 encI (ns)), .t none (.sl 1 encI (vs))], .agg [.t none (.v (.int .i64 (r))), .t none (.sl 1 encI (ts))]] [(5, some (.row none 3 true 1 encI (ts.map (appV ns vs))))] 6 (.agg [.t none (.v (.int .i64 (r))), .own 5]) := by
 refine pu_enter Tryz.func162 rfl (Nat.le_of_ble_eq_true rfl) fun w S => ?_
 refine tsr ?_
 refine r_op (o_box 0 rfl rfl rfl rfl) ?_
 refine r_op (o_box 1 rfl rfl rfl rfl) ?_
 refine r_op (o_alloc 2 (zs := [.int .i64 (0), .slice none 0 0]) rfl rfl (by kernel_rfl) rfl) ?_
 refine etr<|rC 2 ?_
 refine r_op (o_call 3 6 false (en Tryz.func160) (c_impl_factCopy (r) (ts) (by omega)) rfl (.cons rfl (.agg (.cons .t0 (.cons .t0 .nil))) .nil) rfl rfl rfl) ?_
 refine r_op (o_alloc 6 (zs := [.int .i64 (0), .slice none 0 0]) rfl rfl (by kernel_rfl) rfl) ?_
 refine rS 2<|r_end<|t_seq<|tsr ?_
 refine rF 1 ?_
 refine rL ?_
 refine r_op (o_len rfl rfl rfl) ?_
 refine rM<|r_end<|t_block ?_
 refine t_loopL (fun m => ⟨[(2, some (.c (.ptr 0 0))), (4, some (.c (.ptr 2 0))), (5, some (.c (.ptr 6 0))), (11, some (.c (.t none (.sl 1 encI (ts))))), (12, some (.c (.t none (.v (.int .i64 (((ts).length : Int))))))), (13, some (.c (.t none (.v (.int .i64 ((m : Int)))))))], [(0, some (.box [.t none (.sl 1 encI (ns)), .t none (.sl 1 encI (vs))])), (1, some (.box [.t none (.v (.int .i64 (r))), .t none (.sl 1 encI (ts))])), (2, some (.box [.t none (.v (.int .i64 (0))), .t none (.v (.slice none 0 0))])), (5, some (.row none 3 true 1 encI ((ts.take m).map (appV ns vs) ++ ts.drop m))), (6, some (.box [.t none (.v (.int .i64 ((r)))), .own 5]))], 7⟩ : Nat → St) (fun m => m ≤ ts.length) (fun m => ts.length - m) 0 ⟨⟨rfl, ⟨rfl, ⟨rfl, ⟨rfl, ⟨rfl, ⟨rfl, trivial⟩⟩⟩⟩⟩⟩, ⟨rfl, ⟨rfl, ⟨rfl, ⟨(eqR (by simp)), ⟨rfl, trivial⟩⟩⟩⟩⟩, rfl⟩ (by exact Nat.zero_le _) ?_
 rintro m hI ih0
 try dsimp only at hI ih0
 have i1 := hI
 refine tsr<|rB<|r_end<|t_seq ?_
 refine t_cond rfl (fun h1 => ?_) (fun h1 => ?_)
 ·
  have h1' := of_decide_eq_true h1
  refine t_skip<|t_seq<|t_block<|tsr<|rM ?_
  obtain ⟨z2, hz3, b4⟩ := at_get (xs := ts) (n := (m : Int)) (by omega) (by omega)
  refine r_op (o_index rfl (by kernel_rfl) rfl rfl b4 hz3) ?_
  refine r_op (o_load1 rfl (by kernel_rfl) rfl rfl) ?_
  refine rA ?_
  refine rA<|r_end ?_
  refine t_draw (fun i => !(Nat.beq i 7)) (by kernel_rfl) ?_
  refine dT 0 rfl (pF 1) ?_
  refine dT 1 rfl pL ?_
  refine dT 2 rfl pM ?_
  refine dT 3 rfl (pC 2) ?_
  refine dT 4 rfl pM ?_
  refine dO 5 rfl (o_call 7 7 false (en Tryz.func189) (c_impl_ApplyToValue (ns) (vs) (z2) (by omega) (by omega) (by omega) (by omega) (by exact (ot _ (List.mem_of_getElem? (by assumption))).1) (by exact (ot _ (List.mem_of_getElem? (by assumption))).2)) rfl (.cons rfl (.agg (.cons .t0 (.cons .t0 .nil))) (.cons rfl (.c .t0) .nil)) rfl rfl rfl) ?_
  obtain ⟨z5, hz6, b7⟩ := at_get (xs := (ts.take m).map (appV ns vs) ++ ts.drop m) (n := (m : Int)) (by omega) (by (simp; omega))
  refine dT 6 rfl (p_indexo (by kernel_rfl) rfl rfl rfl b7 (at_lt b7 hz6)) ?_
  refine dO 7 rfl (o_storeo (appV (ns) (vs) (z2)) (n := 1) (by kernel_rfl) rfl rfl hz6 rfl rfl rfl rfl (.cons .sc .nil) rfl (fun j h1 h2 => by (simp at h1 h2; omega))) ?_
  refine d_end (by kernel_rfl) ?_
  refine t_endblock<|t_region<|rB ?_
  refine rM<|r_end ?_
  refine t_le ?_ (ih0 (m + 1) (by (try dsimp only); omega) (by (try dsimp only); omega))
  exact ⟨⟨rfl, ⟨rfl, ⟨rfl, ⟨rfl, ⟨rfl, ⟨(eqI (wr64 (by omega) (by omega))), trivial⟩⟩⟩⟩⟩⟩, ⟨rfl, ⟨rfl, ⟨rfl, ⟨(eqR (map_put hz3 rfl)), ⟨rfl, trivial⟩⟩⟩⟩⟩, rfl⟩
 ·
  have h1' := of_decide_eq_false h1
  refine t_exit rfl<|tsr<|rC 2 ?_
  refine rS 2<|r_end ?_
  refine tk Tryz.func162 (.cells (n := 2) (by kernel_rfl) (by kernel_rfl) rfl rfl rfl .nil) ?_ (hL := ⟨eqR ?_, trivial⟩) <;> (try clear ih0)
  all_goals first | rfl | ((rw [List.take_of_length_le (by omega), List.drop_of_length_le (by omega), List.append_nil]))
def Tryz.sortF_ren : Go.Shelf.Ren := ⟨fun | 6 => 114 | 15 => 164 | 14 => 163 | 28 => 198 | 29 => 199 | 20 => 190 | 21 => 191 | 22 => 192 | 23 => 193 | 24 => 194 | 25 => 195 | 26 => 196 | 27 => 197 | 46 => 222 | 47 => 223 | 48 => 224 | 49 => 225 | 50 => 226 | 57 => 239 | n => n, fun | 22 => 33 | 24 => 85 | 25 => 112 | 3 => 3 | 39 => 174 | 0 => 0 | 53 => 204 | 55 => 206 | 4 => 4 | 46 => 198 | 45 => 197 | 50 => 76 | 5 => 5 | 9 => 9 | 66 => 226 | 70 => 230 | 76 => 237 | 77 => 238 | n => n, fun | n => n⟩
theorem Tryz.sortF : Go.Proofs.SlLaysF0.n6 Tryz.prog Tryz.sortF_ren := {
 mixed := by kernel_rfl
 f6 := ⟨Tryz.f114.name, by decide, Tryz.func114.trans (congrArg some (by kernel_rfl))⟩
 f14 := ⟨Tryz.f163.name, by decide, Tryz.func163.trans (congrArg some (by kernel_rfl))⟩
 f15 := Tryz.func164.trans (congrArg some (by kernel_rfl))
 f20 := ⟨Tryz.f190.name, by decide, Tryz.func190.trans (congrArg some (by kernel_rfl))⟩
 f21 := ⟨Tryz.f191.name, by decide, Tryz.func191.trans (congrArg some (by kernel_rfl))⟩
 f22 := ⟨Tryz.f192.name, by decide, Tryz.func192.trans (congrArg some (by kernel_rfl))⟩
 f23 := ⟨Tryz.f193.name, by decide, Tryz.func193.trans (congrArg some (by kernel_rfl))⟩
 f24 := ⟨Tryz.f194.name, by decide, Tryz.func194.trans (congrArg some (by kernel_rfl))⟩
 f25 := ⟨Tryz.f195.name, by decide, Tryz.func195.trans (congrArg some (by kernel_rfl))⟩
 f26 := ⟨Tryz.f196.name, by decide, Tryz.func196.trans (congrArg some (by kernel_rfl))⟩
 f27 := ⟨Tryz.f197.name, by decide, Tryz.func197.trans (congrArg some (by kernel_rfl))⟩
 f28 := Tryz.func198.trans (congrArg some (by kernel_rfl))
 f29 := Tryz.func199.trans (congrArg some (by kernel_rfl))
 f46 := ⟨Tryz.f222.name, by decide, Tryz.func222.trans (congrArg some (by kernel_rfl))⟩
 f47 := Tryz.func223.trans (congrArg some (by kernel_rfl))
 f48 := Tryz.func224.trans (congrArg some (by kernel_rfl))
 f49 := ⟨Tryz.f225.name, by decide, Tryz.func225.trans (congrArg some (by kernel_rfl))⟩
 f50 := ⟨Tryz.f226.name, by decide, Tryz.func226.trans (congrArg some (by kernel_rfl))⟩
 f57 := ⟨Tryz.f239.name, by decide, Tryz.func239.trans (congrArg some (by kernel_rfl))⟩
 t0 := Tryz.underlying0
 a0 := Tryz.isAgg0
 z0 := Tryz.sizeOf0
 v0 := Tryz.zeroValue0
 t3 := Tryz.underlying3
 a3 := Tryz.isAgg3
 z3 := Tryz.sizeOf3
 v3 := Tryz.zeroValue3
 t4 := Tryz.underlying4
 a4 := Tryz.isAgg4
 z4 := Tryz.sizeOf4
 v4 := Tryz.zeroValue4
 t5 := Tryz.underlying5
 a5 := Tryz.isAgg5
 z5 := Tryz.sizeOf5
 v5 := Tryz.zeroValue5
 t9 := Tryz.underlying9
 a9 := Tryz.isAgg9
 z9 := Tryz.sizeOf9
 v9 := Tryz.zeroValue9
 t22 := Tryz.underlying33
 a22 := Tryz.isAgg33
 z22 := Tryz.sizeOf33
 v22 := Tryz.zeroValue33
 t25 := Tryz.underlying112
 a25 := Tryz.isAgg112
 z25 := Tryz.sizeOf112
 v25 := Tryz.zeroValue112
 t39 := Tryz.underlying174
 a39 := Tryz.isAgg174
 z39 := Tryz.sizeOf174
 v39 := Tryz.zeroValue174
 t45 := Tryz.underlying197
 a45 := Tryz.isAgg197
 z45 := Tryz.sizeOf197
 v45 := Tryz.zeroValue197
 t46 := Tryz.underlying198
 a46 := Tryz.isAgg198
 z46 := Tryz.sizeOf198
 v46 := Tryz.zeroValue198
 t50 := Tryz.underlying76
 a50 := Tryz.isAgg76
 z50 := Tryz.sizeOf76
 v50 := Tryz.zeroValue76
 t53 := Tryz.underlying204
 a53 := Tryz.isAgg204
 z53 := Tryz.sizeOf204
 v53 := Tryz.zeroValue204
 t55 := Tryz.underlying206
 a55 := Tryz.isAgg206
 z55 := Tryz.sizeOf206
 v55 := Tryz.zeroValue206
 t66 := Tryz.underlying226
 a66 := Tryz.isAgg226
 z66 := Tryz.sizeOf226
 v66 := Tryz.zeroValue226
 t70 := Tryz.underlying230
 a70 := Tryz.isAgg230
 z70 := Tryz.sizeOf230
 v70 := Tryz.zeroValue230
 t76 := Tryz.underlying237
 a76 := Tryz.isAgg237
 z76 := Tryz.sizeOf237
 v76 := Tryz.zeroValue237
 t77 := Tryz.underlying238
 a77 := Tryz.isAgg238
 z77 := Tryz.sizeOf238
 v77 := Tryz.zeroValue238 }
theorem Tryz.isNaN_x (x : Int) (w : World) : Calls Tryz.prog 182 #[.int .i64 x] w fun e w' => e = .returned (.bool false) ∧ w' = w := by
 go_enter Tryz.func182, Tryz.ntmps182
 go_wp2
 go_ret
 exact ⟨by simp, rfl⟩
theorem Tryz.cmp_x (x y : Int) (w : World) : Calls Tryz.prog 145 #[.int .i64 x, .int .i64 y] w fun e w' => e = .returned (.int .i64 (Lib.compareInt x y)) ∧ w' = w := by
 go_enter Tryz.func145, Tryz.ntmps145
 go_wp2_with (go_at_call 182; refine (Tryz.isNaN_x _ _).mono ?_; rintro e w' ⟨rfl, hw⟩; rw [hw])
 all_goals (go_ret; refine ⟨?_, rfl⟩; unfold Lib.compareInt; (repeat' split) <;> first | rfl | (exfalso; omega))

set_option maxHeartbeats 2000000 in
set_option maxRecDepth 100000 in
theorem Tryz.cmpS_x (A1 A2 : Option Addr) (n m c d : Nat) (xs ys : List Int) (w : World) (hn : xs.length = n) (hm : ys.length = m) (hbig : n ≤ 4611686018427387904) (hbig2 : m ≤ 4611686018427387904) (h1 : Hd4 w A1 xs) (h2 : Hd4 w A2 ys) : Calls Tryz.prog 146 #[.slice A1 n c, .slice A2 m d] w fun e w' => e = .returned (.int .i64 (cmpL xs ys)) ∧ w' = w := by
 have hcon := fun x y W => Tryz.cmp_x x y W
 have T1 : Aside (Hd4 w A1 xs ∧ Hd4 w A2 ys ∧ xs.length = n ∧ ys.length = m) := ⟨h1, h2, hn, hm⟩
 clear h1 h2 hn hm
 go_enter Tryz.func146, Tryz.ntmps146
 go_wp2
 go_loopg [11] n (fun g s11 wr => ∃ k : Nat, k ≤ n ∧ k ≤ m ∧ n - k ≤ g ∧ s11 = .int .i64 k ∧ wr = w ∧ Aside (xs.take k = ys.take k))
 case atStart => exact ⟨0, Nat.zero_le _, Nat.zero_le _, by omega, rfl, rfl, rfl⟩
 case round =>
  obtain ⟨k, hk, hk2, hg, rfl, rfl, A⟩ := hrel
  by_cases hlt : k < n
  ·obtain ⟨t1, t2, t3, t4⟩ := T1.out
   have ex : xs[k]? = some (xs[k]'(by omega)) := List.getElem?_eq_getElem (by omega)
   obtain ⟨b1, eA1, g1⟩ := t1 k _ ex
   generalize hx : xs[k]'(by omega) = x at ex g1
   by_cases hlt2 : k < m
   ·have ey : ys[k]? = some (ys[k]'(by omega)) := List.getElem?_eq_getElem (by omega)
    obtain ⟨b2, eA2, g2⟩ := t2 k _ ey
    generalize hy : ys[k]'(by omega) = y at ey g2
    have B : Aside (xs[k]? = some x ∧ ys[k]? = some y) := ⟨ex, ey⟩
    clear ex ey hx hy t1 t2 t3 t4
    subst eA1 eA2
    by_cases hxy : x = y
    ·subst hxy
     have hc0 : Lib.compareInt x x = 0 := by simp [Lib.compareInt]
     go_wp2_with (go_at_call 145; refine (hcon _ _ _).mono ?_; rintro e w' ⟨rfl, rfl⟩; rw [hc0])
     go_roundg (n - (k + 1))
     case measure => omega
     case rel =>
      refine ⟨k + 1, by omega, by omega, by omega, by go_num, rfl, (show Aside _ from ?_)⟩
      rw [Aside, List.take_add_one, List.take_add_one, B.out.1, B.out.2, A.out]
    ·obtain ⟨r, hr⟩ : ∃ r, r = Lib.compareInt x y := ⟨_, rfl⟩
     have hr0 : ¬ r = 0 := by rw [hr]; unfold Lib.compareInt; (repeat' split) <;> omega
     have hr1 : cmpL xs ys = r := by
      obtain ⟨q1, q2⟩ := cmpL_at A.out B.out.1 B.out.2
      rw [hr]; unfold Lib.compareInt
      by_cases h1 : x < y
      ·rw [if_pos h1, q1 h1]
      ·rw [if_neg h1, if_pos (by omega), q2 (by omega)]
     have HR : Aside (cmpL xs ys = r) := hr1
     clear hr1
     go_wp2_with (go_at_call 145; refine (hcon _ _ _).mono ?_; rintro e w' ⟨rfl, rfl⟩; rw [← hr])
     go_ret
     exact ⟨by rw [HR.out, hr]; rfl, rfl⟩
   ·have hkm : m = k := by omega
    subst hkm
    have hr1 : cmpL xs ys = 1 := (cmpL_end A.out (by omega) (by omega)).2.1 (by omega) (by omega)
    have HR : Aside (cmpL xs ys = 1) := hr1
    clear hr1 t1 t2 t3 t4 hx ex
    subst eA1
    go_wp2
    go_ret
    exact ⟨by rw [HR.out]; rfl, rfl⟩
  ·have hkn : n = k := by omega
   subst hkn
   by_cases hnm : n < m
   ·have hr1 : cmpL xs ys = -1 := by
     obtain ⟨t1, t2, t3, t4⟩ := T1.out
     exact (cmpL_end A.out (by omega) (by omega)).1 (by omega) (by omega)
    have HR : Aside (cmpL xs ys = -1) := hr1
    clear hr1
    go_wp2
    go_ret
    exact ⟨by rw [HR.out]; rfl, rfl⟩
   ·have hr1 : cmpL xs ys = 0 := by
     obtain ⟨t1, t2, t3, t4⟩ := T1.out
     exact (cmpL_end A.out (by omega) (by omega)).2.2 (by omega) (by omega)
    have HR : Aside (cmpL xs ys = 0) := hr1
    clear hr1
    go_wp2
    go_ret
    exact ⟨by rw [HR.out]; rfl, rfl⟩

/-- cmp.Or of two numbers that a literal holds. -/
theorem Tryz.or_x (b c : Nat) (x y : Int) (w : World) (h1 : w.cell? ⟨b, 0, none⟩ = some (.int .i64 x)) (h2 : w.cell? ⟨b, 1, none⟩ = some (.int .i64 y)) : Calls Tryz.prog 144 #[.slice (some ⟨b, 0, none⟩) 2 c] w fun e w' => e = .returned (.int .i64 (if x = 0 then y else x)) ∧ w' = w := by
 by_cases hx : x = 0
 ·subst hx
  by_cases hy : y = 0
  ·subst hy
   go_enter Tryz.func144, Tryz.ntmps144
   go_wp2
   refine wp_loop_rounds 3 ?_
   rw [rounds_succ]
   go_wp2
   rw [rounds_succ]
   go_wp2
   rw [rounds_succ]
   go_wp2
   go_ret
   exact ⟨rfl, rfl⟩
  ·go_enter Tryz.func144, Tryz.ntmps144
   go_wp2
   refine wp_loop_rounds 3 ?_
   rw [rounds_succ]
   go_wp2
   rw [rounds_succ]
   go_wp2
   go_ret
   exact ⟨rfl, rfl⟩
 ·go_enter Tryz.func144, Tryz.ntmps144
  go_wp2
  refine wp_loop_rounds 3 ?_
  rw [rounds_succ]
  go_wp2
  go_ret
  exact ⟨rfl, rfl⟩

theorem Tryz.or_z (b c : Nat) (x y z : Int) (hz : (if x = 0 then y else x) = z) (w : World) (h1 : w.cell? ⟨b, 0, none⟩ = some (.int .i64 x)) (h2 : w.cell? ⟨b, 1, none⟩ = some (.int .i64 y)) : Calls Tryz.prog 144 #[.slice (some ⟨b, 0, none⟩) 2 c] w fun e w' => e = .returned (.int .i64 z) ∧ w' = w := by
 subst hz; exact Tryz.or_x b c x y w h1 h2
set_option maxHeartbeats 2000000 in
set_option maxRecDepth 100000 in
theorem Tryz.cmpF_x (r1 r2 : Int) (A1 A2 : Option Addr) (n m c d : Nat) (xs ys : List Int) (w : World) (hn : xs.length = n) (hm : ys.length = m) (hbig : n ≤ 4611686018427387904) (hbig2 : m ≤ 4611686018427387904) (h1 : Hd4 w A1 xs) (h2 : Hd4 w A2 ys) : Calls Tryz.prog 84 #[.agg #[.int .i64 r1, .slice A1 n c], .agg #[.int .i64 r2, .slice A2 m d]] w fun e w' => e = .returned (.int .i64 (cmpF (r1, xs) (r2, ys))) ∧ ∃ q os, w' = Go.Sort.grow (w.drewN q) os := by
 have hv : (if Lib.compareInt r1 r2 = 0 then cmpL xs ys else Lib.compareInt r1 r2) = cmpF (r1, xs) (r2, ys) := by
  unfold Lib.compareInt cmpF
  (repeat' split) <;> first | rfl | omega
 rw [← hv]
 clear hv
 have hc1 : ∀ W, Calls Tryz.prog 145 #[.int .i64 r1, .int .i64 r2] W fun e w' => e = .returned (.int .i64 (Lib.compareInt r1 r2)) ∧ w' = W := fun W => Tryz.cmp_x r1 r2 W
 have hc2 : ∀ q os, Calls Tryz.prog 146 #[.slice A1 n c, .slice A2 m d] (Go.Sort.grow (w.drewN q) os) fun e w' => e = .returned (.int .i64 (cmpL xs ys)) ∧ w' = Go.Sort.grow (w.drewN q) os := fun q os => by
  have mv : ∀ A xs, Hd4 w A xs → Hd4 (Go.Sort.grow (w.drewN q) os) A xs := fun A xs h j x hx => by
   obtain ⟨b, e, hc⟩ := h j x hx
   refine ⟨b, e, ?_⟩
   rw [Go.Sort.cell?_grow _ _ _ (by have := World.block_lt_of_cell? w _ hc; simpa using this)]
   exact hc
  exact Tryz.cmpS_x A1 A2 n m c d xs ys _ hn hm hbig hbig2 (mv _ _ h1) (mv _ _ h2)
 generalize Lib.compareInt r1 r2 = x at hc1 ⊢
 generalize cmpL xs ys = y at hc2 ⊢
 clear h1 h2 hn hm
 obtain ⟨z, hz⟩ : ∃ z, (if x = 0 then y else x) = z := ⟨_, rfl⟩
 rw [hz]
 go_enter Tryz.func84, Tryz.ntmps84
 go_wp2
 obtain ⟨o1, ho1⟩ : ∃ o : Obj, o = .cells #[.int .i64 r1, .slice A1 n c] 85 := ⟨_, rfl⟩
 obtain ⟨o2, ho2⟩ : ∃ o : Obj, o = .cells #[.int .i64 r2, .slice A2 m d] 85 := ⟨_, rfl⟩
 rw [← ho1, ← ho2]
 have hW0 : ((w.alloc o1).alloc o2).drew = Go.Sort.grow (w.drewN 1) #[o1, o2] := by
  rw [Go.Sort.alloc_eq_grow, Go.Sort.alloc_eq_grow, Go.Sort.grow_grow]; rfl
 refine wp_region_still_tail 10 (by kernel_rfl) (by kernel_rfl) ?_
 change wpStill _ _ ((w.alloc o1).alloc o2).drew (fun a' => wpList _ _ _ _ a' ((w.alloc o1).alloc o2).drew) _ _
 have hcell : ∀ k v, (match o1 with | .cells cs _ _ => cs[k]? | _ => none) = some v → ((w.alloc o1).alloc o2).drew.cell? ⟨w.heap.size, k, none⟩ = some v := fun k v h => by
  rw [ho1] at h ⊢
  unfold World.cell?
  rw [show (((w.alloc (.cells #[.int .i64 r1, .slice A1 n c] 85)).alloc o2).drew).heap = (w.heap.push (.cells #[.int .i64 r1, .slice A1 n c] 85)).push o2 from rfl]
  simpa [Array.getElem?_push] using h
 have hcell2 : ∀ k v, (match o2 with | .cells cs _ _ => cs[k]? | _ => none) = some v → ((w.alloc o1).alloc o2).drew.cell? ⟨w.heap.size + 1, k, none⟩ = some v := fun k v h => by
  rw [ho2] at h ⊢
  unfold World.cell?
  have e : ((w.heap.push o1).push (.cells #[.int .i64 r2, .slice A2 m d] 85))[w.heap.size + 1]? = some (.cells #[.int .i64 r2, .slice A2 m d] 85) := by
   rw [show w.heap.size + 1 = (w.heap.push o1).size by simp]
   exact Array.getElem?_push_size
  rw [show (((w.alloc o1).alloc (.cells #[.int .i64 r2, .slice A2 m d] 85)).drew).heap = (w.heap.push o1).push (.cells #[.int .i64 r2, .slice A2 m d] 85) from rfl, e]
  exact h
 have q1 := hcell 0 (.int .i64 r1) (by rw [ho1]; rfl)
 have q2 := hcell 1 (.slice A1 n c) (by rw [ho1]; rfl)
 have q3 := hcell2 0 (.int .i64 r2) (by rw [ho2]; rfl)
 have q4 := hcell2 1 (.slice A2 m d) (by rw [ho2]; rfl)
 clear hcell hcell2
 have hc2' := hc2 1 #[o1, o2]
 rw [← hW0] at hc2'
 clear hc2
 have HW : Aside (((w.alloc o1).alloc o2).drew = Go.Sort.grow (w.drewN 1) #[o1, o2]) := hW0
 clear hW0 ho1 ho2
 generalize ((w.alloc o1).alloc o2).drew = W at q1 q2 q3 q4 hc2' HW ⊢
 simp only [List.take_succ_cons, List.take_zero, List.drop_succ_cons, List.drop_zero]
 iterate 4 still_step
 still_call (hc1 _)
 iterate 4 still_step
 still_call hc2'
 refine wpStill_nil ?_
 clear q1 q2 q3 q4 hc1 hc2'
 go_wp2_with (go_at_call 144; refine (Tryz.or_z _ _ x y z hz _ (by exact (alloc_cell _ _ _ _ _ _ (by simp)).trans rfl) (by exact (alloc_cell _ _ _ _ _ _ (by simp)).trans rfl)).mono ?_; rintro e w' ⟨rfl, rfl⟩)
 go_ret
 exact ⟨rfl, 1, #[o1, o2] ++ #[_], by rw [Go.Sort.alloc_eq_grow, HW.out, Go.Sort.grow_grow]⟩

theorem c_slices_SortFunc___impl_Fact_impl_Fact_ (U : Nat → Value) (e0 : Nat) (l : Atoms) (hl : szS (fun (x : Int × (List (Int))) => (x.2).length) l ≤ 1048576) : Mu Tryz.prog 114 [.c (.own 0), .c (.clo 84 [])] [(0, some (.row (some (U 0)) e0 true 2 (enS2 encI (enSl 1 encI)) (l)))] 1 [(0, some (.row (some (U 0)) e0 true 2 (enS2 encI (enSl 1 encI)) (sortF l)))] 1 (.tup []) := by
 have gl := sz_len (f := (fun (x : Int × (List (Int))) => (x.2).length)) (l := l)
 exact sort_muF Tryz.sortF Tryz.isAgg85 Tryz.sizeOf85 (en Tryz.func84) Tryz.cmpF_x U e0 l (by omega) (fun x hx => by have e1 := sz_mem (f := (fun (x : Int × (List (Int))) => (x.2).length)) (l := l) hx; (try dsimp only at e1); omega)
theorem c_slices_CompactFunc___impl_Fact_impl_Fact__0 (S0 : Nat → Prop) (Dm : Value → Prop) (D : Value → List Int) (U : Nat → Value) (e0 : Nat) (l : List (Int × Value)) (hl : l.length ≤ 1048576) (hD : ∀ p ∈ l, Dm p.2) : MuX S0 (rawX S0 Dm D) Tryz.prog 115 [.c (.own 0), .c (.clo 116 [])] [(0, some (.row (some (U 0)) e0 false 2 (enS2 encI encV) (l)))] 1 [(0, some (.row none e0 false 2 (enS2 encI encV) (cmpT (rawQ D) l l.length)))] 1 (.c (.own 0)) := by
 refine mu_enterX Tryz.func115 rfl (Nat.le_of_ble_eq_true rfl) fun w S M hX hM => ?_
 refine tsr<|rA<|r_end<|t_seq<|tsr ?_
 refine rM ?_
 refine r_op (o_leno rfl rfl rfl rfl) ?_
 refine rB<|r_end ?_
 refine t_cond rfl (fun h1 => ?_) (fun h1 => ?_)
 ·
  have h1' := of_decide_eq_true h1
  refine tsr<|rM ?_
  refine rA<|r_end ?_
  refine gt_unpin 0 rfl ?_
  refine tkM Tryz.func115 (.tmp rfl .nil) ?_ (hL := ⟨eqR ?_, trivial⟩) <;> (try clear ih0) <;> (try clear ih1)
  all_goals first | rfl | (exact cp_short (by omega))
 ·
  have h1' := of_decide_eq_false h1
  refine t_skip<|t_seq<|tsr<|rA<|r_end<|t_block ?_
  refine t_loopL (fun m => ⟨[(0, some (.c (.own 0))), (1, some (.c (.clo 116 []))), (5, some (.c (.t none (.v (.int .i64 ((m : Int)))))))], [(0, some (.row (some (U 0)) e0 false 2 (enS2 encI encV) (l)))], 1⟩ : Nat → St) (fun m => cp1 (rawQ D) l m) (fun m => l.length - m) 1 ⟨⟨rfl, ⟨rfl, ⟨rfl, trivial⟩⟩⟩, ⟨rfl, trivial⟩, rfl⟩ (by exact cp1_start (by omega)) ?_
  rintro m hI ih0
  try dsimp only at hI ih0
  have i1 := hI.1; have i2 := hI.2.1
  refine t_seq<|tsr<|rM ?_
  refine rM ?_
  refine r_op (o_leno rfl rfl rfl rfl) ?_
  refine rB<|r_end ?_
  refine t_cond rfl (fun h2 => ?_) (fun h2 => ?_)
  ·
   have h2' := of_decide_eq_true h2
   refine t_skip<|t_seq<|t_block<|t_seq ?_
   refine t_draw (fun _ => true) (by kernel_rfl) ?_
   refine dT 0 rfl pM ?_
   refine dT 1 rfl pM ?_
   refine dT 2 rfl pM ?_
   obtain ⟨z3, hz4, b5⟩ := at_get (xs := l) (n := (m : Int)) (by omega) (by omega)
   refine dT 3 rfl (p_indexo (by kernel_rfl) rfl rfl rfl b5 (at_lt b5 hz4)) ?_
   refine dT 4 rfl (p_loadAo (by kernel_rfl) (by kernel_rfl) rfl rfl hz4) ?_
   refine dT 5 rfl pM ?_
   refine dT 6 rfl pM ?_
   refine dT 7 rfl pB ?_
   obtain ⟨z6, hz7, b8⟩ := at_get (xs := l) (n := IntKind.i64.wrap ((m : Int) - 1)) (by (simp only [IntKind.wrap_i64]; omega)) (by (simp only [IntKind.wrap_i64]; omega))
   refine dT 8 rfl (p_indexo (by kernel_rfl) rfl rfl rfl b8 (at_lt b8 hz7)) ?_
   refine dT 9 rfl (p_loadAo (by kernel_rfl) (by kernel_rfl) rfl rfl hz7) ?_
   refine dO 10 rfl (o_callcX (fun _ hk => raw_kept hk hM hX) 1 1 false (en Tryz.func116) (raw_eq (fun a b c d e f => c_impl_sameFact a b c d (by assumption) (by assumption)) S0 Dm D (z3.1) (z6.1) (z3.2) (z6.2) (by exact hD _ (List.mem_of_getElem? (by assumption))) (by exact hD _ (List.mem_of_getElem? (by assumption)))) rfl rfl (.cons rfl (.agg (.cons .t0 (.cons .t0 .nil))) (.cons rfl (.agg (.cons .t0 (.cons .t0 .nil))) .nil)) rfl rfl rfl) ?_
   refine d_end (by kernel_rfl) ?_
   refine t_cond rfl (fun h9 => ?_) (fun h9 => ?_)
   ·
    have h9' := of_decide_eq_true h9
    refine tsr<|rM ?_
    refine rM ?_
    refine r_op (o_subvl rfl (by kernel_rfl) rfl rfl rfl (by omega) (by omega)) ?_
    refine rA<|r_end<|t_seq<|tsr ?_
    refine rA<|r_end<|t_block ?_
    refine t_loopL (fun (k, i, q) => ⟨[(0, some (.c (.own 0))), (1, some (.c (.clo 116 []))), (5, some (.c (.t none (.v (.int .i64 ((k : Int))))))), (6, some (.c (.vw 0 (((m : Int)).toNat) (((l).length - ((m : Int)).toNat)) 2))), (7, some (.c (.t none (.v (.int .i64 ((i : Int)))))))], [(0, some (.row (some (U 0)) e0 false 2 (enS2 encI encV) (q)))], 1⟩ : Nat × Nat × List (Int × Value) → St) (fun (k, i, q) => cp2 (rawQ D) l q k (m + i) ∧ 1 ≤ i) (fun (k, i, q) => l.length - (m + i)) (m, 1, l) ⟨⟨rfl, ⟨rfl, ⟨rfl, ⟨rfl, ⟨rfl, trivial⟩⟩⟩⟩⟩, ⟨rfl, trivial⟩, rfl⟩ (by exact ⟨cp2_start hI hz4 hz7 (by simp only [IntKind.wrap_i64]; omega) (decide_eq_true (by assumption)), Nat.le_refl _⟩) ?_
    rintro ⟨k, i, q⟩ hI ih1
    try dsimp only at hI ih1
    obtain ⟨hI, j7⟩ := hI; have j1 := hI.1; have j2 := hI.2.1; have j3 := hI.2.2.1; have j4 := hI.2.2.2.1
    refine t_seq<|tsr<|rM ?_
    refine rM ?_
    refine r_op (o_lenv rfl rfl rfl) ?_
    refine rB<|r_end ?_
    refine t_cond rfl (fun h10 => ?_) (fun h10 => ?_)
    ·
     have h10' := of_decide_eq_true h10
     refine t_skip<|t_seq<|t_block<|t_seq ?_
     refine t_draw (fun _ => true) (by kernel_rfl) ?_
     refine dT 0 rfl pM ?_
     refine dT 1 rfl pM ?_
     refine dT 2 rfl pM ?_
     obtain ⟨z11, hz12⟩ := vw_get (xs := q) (n := (((m : Int)).toNat + ((i : Int)).toNat)) (by omega)
     refine dT 3 rfl (p_indexv (by kernel_rfl) rfl rfl (by omega) (by omega)) ?_
     refine dT 4 rfl (p_loadAo (by kernel_rfl) (by kernel_rfl) rfl rfl hz12) ?_
     refine dT 5 rfl pM ?_
     refine dT 6 rfl pM ?_
     refine dT 7 rfl pB ?_
     obtain ⟨z14, hz15⟩ := vw_get (xs := q) (n := (((m : Int)).toNat + (IntKind.i64.wrap ((i : Int) - 1)).toNat)) (by (simp only [IntKind.wrap_i64]; omega))
     refine dT 8 rfl (p_indexv (by kernel_rfl) rfl rfl (by (simp only [IntKind.wrap_i64]; omega)) (by (simp only [IntKind.wrap_i64]; omega))) ?_
     refine dT 9 rfl (p_loadAo (by kernel_rfl) (by kernel_rfl) rfl rfl hz15) ?_
     refine dO 10 rfl (o_callcX (fun _ hk => raw_kept hk hM hX) 1 1 false (en Tryz.func116) (raw_eq (fun a b c d e f => c_impl_sameFact a b c d (by assumption) (by assumption)) S0 Dm D (z11.1) (z14.1) (z11.2) (z14.2) (by exact hD _ (List.mem_of_getElem? (cp2_at hI (by assumption) (by (try simp only [IntKind.wrap_i64]); omega)))) (by exact hD _ (List.mem_of_getElem? (cp2_at hI (by assumption) (by (try simp only [IntKind.wrap_i64]); omega))))) rfl rfl (.cons rfl (.agg (.cons .t0 (.cons .t0 .nil))) (.cons rfl (.agg (.cons .t0 (.cons .t0 .nil))) .nil)) rfl rfl rfl) ?_
     refine dT 11 rfl (p_not rfl) ?_
     refine d_end (by kernel_rfl) ?_
     refine t_cond rfl (fun h17 => ?_) (fun h17 => ?_)
     ·
      have h17' := of_decide_eq_false (bnt h17)
      refine tsr<|rM ?_
      refine rM ?_
      refine rM ?_
      refine rM ?_
      refine r_op (o_indexv rfl (by kernel_rfl) rfl rfl (by omega) (by omega)) ?_
      refine r_op (o_loadAo rfl (by kernel_rfl) (by kernel_rfl) rfl rfl hz12) ?_
      obtain ⟨z18, hz19, b20⟩ := at_get (xs := q) (n := (k : Int)) (by omega) (by omega)
      refine r_op (o_indexo rfl (by kernel_rfl) rfl rfl rfl b20 (at_lt b20 hz19)) ?_
      refine r_op (o_storeo (z11) (n := 2) (by kernel_rfl) rfl rfl hz19 rfl rfl rfl rfl (.cons .sc (.cons .sc .nil)) rfl (fun j h1 h2 => by (exact h2.elim (fun h => by omega) (fun h => absurd (show 2 ≤ j from h) (by omega))))) ?_
      refine rtr<|rM ?_
      refine rB ?_
      refine rA<|r_end<|t_endblock<|t_region ?_
      refine rM ?_
      refine rB ?_
      refine rA<|r_end ?_
      refine t_le ?_ (ih1 (k + 1, i + 1, (q).set ((k : Int)).toNat (z11)) (by (try dsimp only); omega) (by (try dsimp only); exact ⟨cp2_keep hI hz12 hz15 (show _ + 1 = m + i by simp only [IntKind.wrap_i64]; omega) (decide_eq_false (by assumption)), by omega⟩))
      exact ⟨⟨rfl, ⟨rfl, ⟨(eqI (wr64 (by omega) (by omega))), ⟨rfl, ⟨(eqI (wr64 (by omega) (by omega))), trivial⟩⟩⟩⟩⟩, ⟨rfl, trivial⟩, rfl⟩
     ·
      have h17' := of_decide_eq_true (bnf h17)
      refine t_skip<|t_endblock<|t_region<|rM ?_
      refine rB ?_
      refine rA<|r_end ?_
      refine t_le ?_ (ih1 (k, i + 1, q) (by (try dsimp only); omega) (by (try dsimp only); exact ⟨cp2_skip hI hz12 hz15 (show _ + 1 = m + i by simp only [IntKind.wrap_i64]; omega) (decide_eq_true (by assumption)), by omega⟩))
      exact ⟨⟨rfl, ⟨rfl, ⟨rfl, ⟨rfl, ⟨(eqI (wr64 (by omega) (by omega))), trivial⟩⟩⟩⟩⟩, ⟨rfl, trivial⟩, rfl⟩
    ·
     have h10' := of_decide_eq_false h10
     refine t_exit rfl<|tsr<|rM ?_
     refine rM ?_
     refine r_op (o_subvl rfl (by kernel_rfl) rfl rfl rfl (by omega) (by omega)) ?_
     refine r_op (o_clearF ((0, Value.slice none 0 0)) rfl rfl Tryz.underlying33 (by kernel_rfl) rfl rfl (.cons (.v rfl) (.cons (.v rfl) .nil)) (by omega) (by omega)) ?_
     refine etr<|rM ?_
     refine rM ?_
     refine r_op (o_subvh rfl (by kernel_rfl) rfl rfl rfl (by omega) (by (simp only [List.length_append, List.length_take, List.length_replicate, List.length_drop]; omega)) (by (simp only [List.length_append, List.length_take, List.length_replicate, List.length_drop]; omega))) ?_
     refine rA<|r_end ?_
     refine gt_shrinkF 4 0 rfl rfl (by (simp only [List.length_append, List.length_take, List.length_replicate, List.length_drop]; omega)) (by (simp only [List.length_append, List.length_take, List.length_replicate, List.length_drop]; omega)) ?_
     refine tkM Tryz.func115 (.tmp rfl .nil) ?_ (hL := ⟨eqR ?_, trivial⟩) <;> (try clear ih0) <;> (try clear ih1)
     all_goals first | rfl | ((rw [List.append_assoc]; exact cp2_end hI (by omega) _))
   ·
    have h9' := of_decide_eq_false h9
    refine t_skip<|t_endblock<|t_region<|rM ?_
    refine rB ?_
    refine rA<|r_end ?_
    refine t_le ?_ (ih0 (m + 1) (by (try dsimp only); omega) (by (try dsimp only); exact cp1_next hI hz4 hz7 (by simp only [IntKind.wrap_i64]; omega) (decide_eq_false (by assumption))))
    exact ⟨⟨rfl, ⟨rfl, ⟨(eqI (wr64 (by omega) (by omega))), trivial⟩⟩⟩, ⟨rfl, trivial⟩, rfl⟩
  ·
   have h2' := of_decide_eq_false h2
   refine t_exit rfl<|tsr<|rM ?_
   refine rA<|r_end ?_
   refine gt_unpin 0 rfl ?_
   refine tkM Tryz.func115 (.tmp rfl .nil) ?_ (hL := ⟨eqR ?_, trivial⟩) <;> (try clear ih0) <;> (try clear ih1)
   all_goals first | rfl | (exact cp1_end hI (by omega))
theorem c_slices_CompactFunc___impl_Fact_impl_Fact_ (U : Nat → Value) (e0 : Nat) (l : Atoms) (hl : szS (fun (x : Int × (List (Int))) => (x.2).length) l ≤ 1048576) : Mu Tryz.prog 115 [.c (.own 0), .c (.clo 116 [])] [(0, some (.row (some (U 0)) e0 true 2 (enS2 encI (enSl 1 encI)) (l)))] 1 [(0, some (.row none e0 true 2 (enS2 encI (enSl 1 encI)) (cmpT eqF l l.length)))] 1 (.c (.own 0)) := by
 have gl := sz_len (f := (fun (x : Int × (List (Int))) => (x.2).length)) (l := l)
 exact comp_muF (fun S0 Dm D U e0 l hl hD => c_slices_CompactFunc___impl_Fact_impl_Fact__0 S0 Dm D U e0 l hl hD) U e0 l (by omega) (fun x hx => by have e1 := sz_mem (f := (fun (x : Int × (List (Int))) => (x.2).length)) (l := l) hx; (try dsimp only at e1); omega)
theorem c_impl_factsSet (fs : Atoms) (hfs : szS (fun (x : Int × (List (Int))) => (x.2).length) fs ≤ 1048576) : Pu Tryz.prog 59 [.c (.t none (.sl 2 (enS2 encI (enSl 1 encI)) (fs)))] [(0, some (.row none 85 true 2 (enS2 encI (enSl 1 encI)) (setF fs)))] 1 (.c (.own 0)) := by
 refine pu_enter Tryz.func59 rfl (Nat.le_of_ble_eq_true rfl) fun w S => ?_
 refine tsr<|rA<|etr ?_
 refine rM ?_
 refine r_op (o_call 0 1 false (en Tryz.func109) (c_impl_factsCopy (fs) (by omega)) rfl (.cons rfl (.c .t0) .nil) rfl rfl rfl) ?_
 refine rA<|etr ?_
 refine rM ?_
 refine r_op (o_callH [⟨0, none, 85, 2, _, (enS2 encI (enSl 1 encI)), (fs), sortF ((fs))⟩] (en Tryz.func114) (fun U => c_slices_SortFunc___impl_Fact_impl_Fact_ U 85 ((fs)) (by omega)) rfl ⟨rfl, trivial⟩ rfl rfl (.cons rfl (.own rfl) (.cons rfl .clo .nil)) rfl) ?_
 refine etr<|rM ?_
 refine r_op (o_callC 0 (l' := cmpT eqF (sortF ((fs))) (sortF ((fs))).length) (en Tryz.func115) (fun U => c_slices_CompactFunc___impl_Fact_impl_Fact_ U 85 (sortF ((fs))) (by (rw [szS_perm (sortF_perm fs)]; assumption))) rfl rfl (.cons rfl (.own rfl) (.cons rfl .clo .nil))) ?_
 refine rA<|r_end ?_
 refine tk Tryz.func59 (.tmp rfl .nil) ?_ (hL := ⟨eqR ?_, trivial⟩)
 all_goals first | rfl | (exact cmp_sortF fs)
theorem c_impl_ApplyToInstance (ns vs : List Int) (rs : Rels) (fs : Atoms) (hn : ns.length ≤ 4611686018427387904) (hv : vs.length ≤ 4611686018427387904) (on : ∀ x ∈ ns, okI x) (ov : ∀ x ∈ vs, okI x) (hrs : rs.length ≤ 1048576) (hfs : szS (fun (x : Int × (List (Int))) => (x.2).length) fs ≤ 1048576) (ho : ∀ z ∈ fs, ∀ x ∈ z.2, okI x) : Pu Tryz.prog 112 [.agg [.t none (.sl 1 encI (ns)), .t none (.sl 1 encI (vs))], .agg [.t none (.sl 3 (enS3 encS encI encB) (rs)), .t none (.sl 2 (enS2 encI (enSl 1 encI)) (fs))]] [(3, some (.row none 119 true 3 (enS3 encS encI encB) (appR rs fs ns vs))), (4, some (.row none 85 true 2 (enS2 encI (enSl 1 encI)) (appS rs fs ns vs)))] 5 (.tup [(true, [.own 3, .own 4]), (false, [.t none (.v (.bool (appOk rs fs ns vs)))])]) := by
 refine pu_enter Tryz.func112 rfl (Nat.le_of_ble_eq_true rfl) fun w S => ?_
 have gl := sz_len (f := (fun (x : Int × (List (Int))) => (x.2).length)) (l := fs)
 refine tsr ?_
 refine r_op (o_box 0 rfl rfl rfl rfl) ?_
 refine r_op (o_box 1 rfl rfl rfl rfl) ?_
 refine r_op (o_alloc 2 (zs := [.slice none 0 0, .slice none 0 0]) rfl rfl (by kernel_rfl) rfl) ?_
 refine rA<|r_end<|t_seq<|tsr ?_
 refine rC 2 ?_
 refine r_op (o_call 3 3 false (en Tryz.func161) (c_impl_IsValidSubstitution (ns) (vs) (by omega) (by omega) (by omega) (by omega)) rfl (.cons rfl (.agg (.cons .t0 (.cons .t0 .nil))) .nil) rfl rfl rfl) ?_
 refine r_op (o_not rfl rfl) ?_
 refine rM ?_
 refine rG (fun g1 => ?_) (fun g1 => ?_)
 ·
  have g1' := (bnf g1)
  refine rC 2 ?_
  refine rG (fun _ => ?_) (ncf g1)
  refine r_op (o_call 3 3 false (en Tryz.func35) (c_impl_IsValidInstance (rs) (fs) (by omega) (by omega) (by omega)) rfl (.cons rfl (.agg (.cons .t0 (.cons .t0 .nil))) .nil) rfl rfl rfl) ?_
  refine rG (fun _ => ?_) (ncf g1)
  refine r_op (o_not rfl rfl) ?_
  refine r_op (o_pickF rfl rfl g1 rfl) ?_
  refine r_end ?_
  refine t_cond rfl (fun h2 => ?_) (fun h2 => ?_)
  ·
   have h2' := (bnt h2)
   refine tsr ?_
   refine r_op (o_build rfl (pl := [(0, 1), (1, 1)]) (zs := [.slice none 0 0, .slice none 0 0]) (by kernel_rfl) (by kernel_rfl) rfl rfl rfl) ?_
   refine rS 2 ?_
   refine rA<|r_end ?_
   refine gt_nilb 3 (b := 2) (o := 0) (et := 119) (sz := 3) true (enS3 encS encI encB) rfl rfl rfl ?_
   refine gt_nilb 4 (b := 2) (o := 1) (et := 85) (sz := 2) true (enS2 encI (enSl 1 encI)) rfl rfl rfl ?_
   refine tk Tryz.func112 (.cells (n := 2) (by kernel_rfl) (by kernel_rfl) rfl rfl rfl (.tmp rfl .nil)) ?_ (hL := ⟨eqR ?_, ⟨eqR ?_, trivial⟩⟩) <;> (try clear ih0)
   all_goals ((have e8 := app_no2 (rs := rs) (fs := fs) (ns := ns) (vs := vs) (by assumption); first | (rw [e8.1]; done) | (rw [e8.2.1]; done) | (rw [e8.2.2]; rfl)))
  ·
   have h2' := (bnf h2)
   refine t_skip<|tsr<|rC 2 ?_
   refine r_op (o_call 3 7 false (en Tryz.func53) (c_impl_instanceCopy (rs) (fs) (by omega) (by omega)) rfl (.cons rfl (.agg (.cons .t0 (.cons .t0 .nil))) .nil) rfl rfl rfl) ?_
   refine r_op (o_alloc 7 (zs := [.slice none 0 0, .slice none 0 0]) rfl rfl (by kernel_rfl) rfl) ?_
   refine rS 2<|r_end<|t_seq<|tsr ?_
   refine rF 1 ?_
   refine rL ?_
   refine r_op (o_len rfl rfl rfl) ?_
   refine rM<|r_end<|t_block ?_
   refine t_loopL (fun m => ⟨[(2, some (.c (.ptr 0 0))), (4, some (.c (.ptr 2 0))), (5, some (.c (.t none (.v (.bool (false)))))), (6, some (.c (.ptr 7 0))), (21, some (.c (.t none (.sl 2 (enS2 encI (enSl 1 encI)) (fs))))), (22, some (.c (.t none (.v (.int .i64 (((fs).length : Int))))))), (23, some (.c (.t none (.v (.int .i64 ((m : Int)))))))], [(0, some (.box [.t none (.sl 1 encI (ns)), .t none (.sl 1 encI (vs))])), (1, some (.box [.t none (.sl 3 (enS3 encS encI encB) (rs)), .t none (.sl 2 (enS2 encI (enSl 1 encI)) (fs))])), (2, some (.box [.t none (.v (.slice none 0 0)), .t none (.v (.slice none 0 0))])), (5, some (.row none 119 true 3 (enS3 encS encI encB) ((rs)))), (6, some (.row none 85 true 2 (enS2 encI (enSl 1 encI)) ((fs.take m).map (appF ns vs) ++ fs.drop m))), (7, some (.box [.own 5, .own 6]))], 8⟩ : Nat → St) (fun m => m ≤ fs.length) (fun m => fs.length - m) 0 ⟨⟨rfl, ⟨rfl, ⟨rfl, ⟨rfl, ⟨rfl, ⟨rfl, ⟨rfl, trivial⟩⟩⟩⟩⟩⟩⟩, ⟨rfl, ⟨rfl, ⟨rfl, ⟨rfl, ⟨(eqR (by simp)), ⟨rfl, trivial⟩⟩⟩⟩⟩⟩, rfl⟩ (by exact Nat.zero_le _) ?_
   rintro m hI ih0
   try dsimp only at hI ih0
   have i1 := hI
   refine tsr<|rB<|r_end<|t_seq ?_
   refine t_cond rfl (fun h3 => ?_) (fun h3 => ?_)
   ·
    have h3' := of_decide_eq_true h3
    refine t_skip<|t_seq<|t_block<|tsr<|rM ?_
    obtain ⟨z4, hz5, b6⟩ := at_get (xs := fs) (n := (m : Int)) (by omega) (by omega)
    refine r_op (o_index rfl (by kernel_rfl) rfl rfl b6 hz5) ?_
    refine r_op (o_loadA rfl (n := 2) (by kernel_rfl) (by kernel_rfl) rfl rfl) ?_
    refine r_op (o_alloc 8 (zs := [.int .i64 (0), .slice none 0 0]) rfl rfl (by kernel_rfl) rfl) ?_
    refine rA ?_
    refine rS 2<|r_end ?_
    refine t_draw (fun i => !(Nat.beq i 7)) (by kernel_rfl) ?_
    refine dT 0 rfl (pF 1) ?_
    refine dT 1 rfl pL ?_
    refine dT 2 rfl pM ?_
    refine dT 3 rfl (pC 2) ?_
    refine dT 4 rfl (pC 2) ?_
    refine dO 5 rfl (o_call 9 15 false (en Tryz.func162) (c_impl_ApplyToFact (ns) (vs) (z4.1) (z4.2) (by omega) (by omega) (by omega) (by omega) (by (have e1 := sz_at (f := (fun (x : Int × (List (Int))) => (x.2).length)) (l := fs) (m := m) (by assumption); (try dsimp only at e1); omega)) (by exact ho _ (List.mem_of_getElem? (by assumption)))) rfl (.cons rfl (.agg (.cons .t0 (.cons .t0 .nil))) (.cons rfl (.agg (.cons .t0 (.cons .t0 .nil))) .nil)) rfl rfl rfl) ?_
    obtain ⟨z7, hz8, b9⟩ := at_get (xs := (fs.take m).map (appF ns vs) ++ fs.drop m) (n := (m : Int)) (by omega) (by (simp only [List.length_append, List.length_map, List.length_take, List.length_drop]; omega))
    refine dT 6 rfl (p_indexo (by kernel_rfl) rfl rfl rfl b9 (at_lt b9 hz8)) ?_
    refine dO 7 rfl (o_storeo (((z4.1), (z4.2).map (appV (ns) (vs)))) (n := 2) (by kernel_rfl) rfl rfl hz8 rfl rfl rfl rfl (.cons .sc (.take (.own rfl) rfl .nil)) rfl (fun j h1 h2 => by (simp at h1 h2; omega))) ?_
    refine d_end (by kernel_rfl) ?_
    refine t_endblock<|t_region<|rB ?_
    refine rM<|r_end ?_
    refine t_le ?_ (ih0 (m + 1) (by (try dsimp only); omega) (by (try dsimp only); omega))
    exact ⟨⟨rfl, ⟨rfl, ⟨rfl, ⟨rfl, ⟨rfl, ⟨rfl, ⟨(eqI (wr64 (by omega) (by omega))), trivial⟩⟩⟩⟩⟩⟩⟩, ⟨rfl, ⟨rfl, ⟨rfl, ⟨rfl, ⟨(eqR (map_put (f := appF ns vs) hz5 rfl)), ⟨rfl, trivial⟩⟩⟩⟩⟩⟩, rfl⟩
   ·
    have h3' := of_decide_eq_false h3
    refine t_exit rfl<|tsr<|rF 1 ?_
    refine rL ?_
    refine r_op (o_call 8 9 false (en Tryz.func59) (c_impl_factsSet ((fs.take m).map (appF ns vs) ++ fs.drop m) (by (rw [List.take_of_length_le (by omega), List.drop_of_length_le (by omega), List.append_nil, appF_sz]; omega))) rfl (.cons rfl (.c (.own rfl)) .nil) rfl rfl rfl) ?_
    refine rF 1 ?_
    refine rS 1<|etr ?_
    refine rC 2 ?_
    refine rS 2 ?_
    refine rA<|r_end ?_
    refine gt_mv 3 5 rfl rfl rfl ?_
    refine gt_mv 4 8 rfl rfl rfl ?_
    refine tk Tryz.func112 (.cells (n := 2) (by kernel_rfl) (by kernel_rfl) rfl rfl rfl (.tmp rfl .nil)) ?_ (hL := ⟨eqR ?_, ⟨eqR ?_, trivial⟩⟩) <;> (try clear ih0)
    all_goals ((have e8 := app_yes (rs := rs) (fs := fs) (ns := ns) (vs := vs) (by assumption) (by assumption); first | (rw [e8.1]; done) | (rw [e8.2.2]; rfl) | (rw [e8.2.1, List.take_of_length_le (by omega), List.drop_of_length_le (by omega), List.append_nil]; done)))
 ·
  have g1' := (bnt g1)
  refine rG (nc g1) (fun _ => ?_)
  refine rG (nc g1) (fun _ => ?_)
  refine r_op (o_pickT rfl rfl g1 rfl) ?_
  refine r_end ?_
  refine t_cond rfl (fun _ => ?_) (nc rfl)
  refine tsr ?_
  refine r_op (o_build rfl (pl := [(0, 1), (1, 1)]) (zs := [.slice none 0 0, .slice none 0 0]) (by kernel_rfl) (by kernel_rfl) rfl rfl rfl) ?_
  refine rS 2 ?_
  refine rA<|r_end ?_
  refine gt_nilb 3 (b := 2) (o := 0) (et := 119) (sz := 3) true (enS3 encS encI encB) rfl rfl rfl ?_
  refine gt_nilb 4 (b := 2) (o := 1) (et := 85) (sz := 2) true (enS2 encI (enSl 1 encI)) rfl rfl rfl ?_
  refine tk Tryz.func112 (.cells (n := 2) (by kernel_rfl) (by kernel_rfl) rfl rfl rfl (.tmp rfl .nil)) ?_ (hL := ⟨eqR ?_, ⟨eqR ?_, trivial⟩⟩) <;> (try clear ih0)
  all_goals ((have e8 := app_no1 (rs := rs) (fs := fs) (ns := ns) (vs := vs) (by assumption); first | (rw [e8.1]; done) | (rw [e8.2.1]; done) | (rw [e8.2.2]; rfl)))
theorem c_impl_equated (rs : Rels) (fs : Atoms) (a b : Int) (hrs : rs.length ≤ 1048576) (hfs : szS (fun (x : Int × (List (Int))) => (x.2).length) fs ≤ 1048576) (ho : ∀ z ∈ fs, ∀ x ∈ z.2, okI x) (oa : okI a) (ob : okI b) : Pu Tryz.prog 54 [.agg [.t none (.sl 3 (enS3 encS encI encB) (rs)), .t none (.sl 2 (enS2 encI (enSl 1 encI)) (fs))], .c (.t none (.v (.int .i64 (a)))), .c (.t none (.v (.int .i64 (b))))] [(2, some (.row none 119 true 3 (enS3 encS encI encB) (eqdR rs fs a b))), (3, some (.row none 85 true 2 (enS2 encI (enSl 1 encI)) (eqdS rs fs a b)))] 4 (.tup [(true, [.own 2, .own 3]), (false, [.t none (.v (.int .i64 (eqdC a b)))])]) := by
 refine pu_enter Tryz.func54 rfl (Nat.le_of_ble_eq_true rfl) fun w S => ?_
 have oa1 := oa.1; have oa2 := oa.2; have ob1 := ob.1; have ob2 := ob.2
 refine tsr ?_
 refine r_op (o_box 0 rfl rfl rfl rfl) ?_
 refine r_op (o_alloc 1 (zs := [.slice none 0 0, .slice none 0 0]) rfl rfl (by kernel_rfl) rfl) ?_
 refine rA<|r_end<|t_seq<|tsr ?_
 refine rM ?_
 refine r_op (o_call 2 2 false (en Tryz.func110) (c_impl_IsNull (a)) rfl (.cons rfl (.c .t0) .nil) rfl rfl rfl) ?_
 refine r_op (o_not rfl rfl) ?_
 refine rM ?_
 refine rG (fun g1 => ?_) (fun g1 => ?_)
 ·
  have g1' := of_decide_eq_false (bnt g1)
  refine rM ?_
  refine rG (fun _ => ?_) (nc g1)
  refine r_op (o_call 2 2 false (en Tryz.func110) (c_impl_IsNull (b)) rfl (.cons rfl (.c .t0) .nil) rfl rfl rfl) ?_
  refine rG (fun _ => ?_) (nc g1)
  refine r_op (o_not rfl rfl) ?_
  refine r_op (o_pickT rfl rfl g1 rfl) ?_
  refine r_end ?_
  refine t_cond rfl (fun h2 => ?_) (fun h2 => ?_)
  ·
   have h2' := of_decide_eq_false (bnt h2)
   refine tsr<|rC 2 ?_
   refine r_op (o_call 2 6 false (en Tryz.func53) (c_impl_instanceCopy (rs) (fs) (by omega) (by omega)) rfl (.cons rfl (.agg (.cons .t0 (.cons .t0 .nil))) .nil) rfl rfl rfl) ?_
   refine rS 2 ?_
   refine rA<|r_end ?_
   refine gt_mv 2 4 rfl rfl rfl ?_
   refine gt_mv 3 5 rfl rfl rfl ?_
   refine tk Tryz.func54 (.cells (n := 2) (by kernel_rfl) (by kernel_rfl) rfl rfl rfl (.tmp rfl .nil)) ?_ (hL := ⟨eqR ?_, ⟨eqR ?_, trivial⟩⟩)
   all_goals ((have e8 := eqd_no (rs := rs) (fs := fs) (a := a) (b := b) (by omega) (by omega); first | (rw [e8.1]; done) | (rw [e8.2.1]; done) | (rw [e8.2.2]; rfl)))
  ·
   have h2' := of_decide_eq_true (bnf h2)
   refine t_skip<|tsr<|rM ?_
   refine rM ?_
   refine r_op (o_min rfl rfl rfl) ?_
   refine r_op (o_call 2 2 false (en Tryz.func111) (c_impl_NullNumber (if b < a then b else a) (by omega) (by omega)) rfl (.cons rfl (.c .t0) .nil) rfl rfl rfl) ?_
   refine rM ?_
   refine r_op (o_extract rfl rfl rfl rfl) ?_
   refine r_op (o_extract rfl rfl rfl rfl) ?_
   refine rA ?_
   refine rA<|etr ?_
   refine rM ?_
   refine r_op (o_lit1 2 (e := 3) (sz := 1) (zs := [.int .i64 (0)]) (enc := encI) (if -40 ≤ (if b < a then b else a) ∧ (if b < a then b else a) ≤ -1 then -1 - (if b < a then b else a) else 0) rfl rfl (by kernel_rfl) rfl rfl rfl rfl rfl rfl (.cons .sc .nil)) ?_
   refine rM ?_
   refine rM ?_
   refine r_op (o_max rfl rfl rfl) ?_
   refine r_op (o_lit1 3 (e := 3) (sz := 1) (zs := [.int .i64 (0)]) (enc := encI) (if a < b then b else a) rfl rfl (by kernel_rfl) rfl rfl rfl rfl rfl rfl (.cons .sc .nil)) ?_
   refine r_op (o_build rfl (pl := [(0, 1), (1, 1)]) (zs := [.slice none 0 0, .slice none 0 0]) (by kernel_rfl) (by kernel_rfl) rfl rfl rfl) ?_
   refine rC 2 ?_
   refine r_op (o_call 4 9 false (en Tryz.func112) (c_impl_ApplyToInstance ([if -40 ≤ (if b < a then b else a) ∧ (if b < a then b else a) ≤ -1 then -1 - (if b < a then b else a) else 0]) ([if a < b then b else a]) (rs) (fs) (by (simp only [List.length_cons, List.length_nil]; omega)) (by (simp only [List.length_cons, List.length_nil]; omega)) (by (intro x hx; simp only [List.mem_cons, List.not_mem_nil, or_false] at hx; subst hx; unfold okI; omega)) (by (intro x hx; simp only [List.mem_cons, List.not_mem_nil, or_false] at hx; subst hx; unfold okI; omega)) (by omega) (by omega) (by omega)) rfl (.cons rfl (.agg (.cons (.own rfl) (.cons (.own rfl) .nil))) (.cons rfl (.agg (.cons .t0 (.cons .t0 .nil))) .nil)) rfl rfl rfl) ?_
   refine rM ?_
   refine r_op (o_extract rfl rfl rfl rfl) ?_
   refine r_op (o_extract rfl rfl rfl rfl) ?_
   refine r_op (o_alloc 9 (zs := [.slice none 0 0, .slice none 0 0]) rfl rfl (by kernel_rfl) rfl) ?_
   refine rS 2 ?_
   refine rA<|etr ?_
   refine rC 2 ?_
   refine rS 2 ?_
   refine rA<|r_end ?_
   refine gt_mv 2 7 rfl rfl rfl ?_
   refine gt_mv 3 8 rfl rfl rfl ?_
   refine tk Tryz.func54 (.cells (n := 2) (by kernel_rfl) (by kernel_rfl) rfl rfl rfl (.tmp rfl .nil)) ?_ (hL := ⟨eqR ?_, ⟨eqR ?_, trivial⟩⟩)
   all_goals ((have e8 := eqd_yes (rs := rs) (fs := fs) (a := a) (b := b) (by omega); first | (rw [e8.1]; rfl) | (rw [e8.2.1]; rfl) | (rw [e8.2.2]; rfl)))
 ·
  have g1' := of_decide_eq_true (bnf g1)
  refine rG (ncf g1) (fun _ => ?_)
  refine rG (ncf g1) (fun _ => ?_)
  refine r_op (o_pickF rfl rfl g1 rfl) ?_
  refine r_end ?_
  refine t_cond rfl (ncf rfl) (fun _ => ?_)
  refine t_skip<|tsr<|rM ?_
  refine rM ?_
  refine r_op (o_min rfl rfl rfl) ?_
  refine r_op (o_call 2 2 false (en Tryz.func111) (c_impl_NullNumber (if b < a then b else a) (by omega) (by omega)) rfl (.cons rfl (.c .t0) .nil) rfl rfl rfl) ?_
  refine rM ?_
  refine r_op (o_extract rfl rfl rfl rfl) ?_
  refine r_op (o_extract rfl rfl rfl rfl) ?_
  refine rA ?_
  refine rA<|etr ?_
  refine rM ?_
  refine r_op (o_lit1 2 (e := 3) (sz := 1) (zs := [.int .i64 (0)]) (enc := encI) (if -40 ≤ (if b < a then b else a) ∧ (if b < a then b else a) ≤ -1 then -1 - (if b < a then b else a) else 0) rfl rfl (by kernel_rfl) rfl rfl rfl rfl rfl rfl (.cons .sc .nil)) ?_
  refine rM ?_
  refine rM ?_
  refine r_op (o_max rfl rfl rfl) ?_
  refine r_op (o_lit1 3 (e := 3) (sz := 1) (zs := [.int .i64 (0)]) (enc := encI) (if a < b then b else a) rfl rfl (by kernel_rfl) rfl rfl rfl rfl rfl rfl (.cons .sc .nil)) ?_
  refine r_op (o_build rfl (pl := [(0, 1), (1, 1)]) (zs := [.slice none 0 0, .slice none 0 0]) (by kernel_rfl) (by kernel_rfl) rfl rfl rfl) ?_
  refine rC 2 ?_
  refine r_op (o_call 4 9 false (en Tryz.func112) (c_impl_ApplyToInstance ([if -40 ≤ (if b < a then b else a) ∧ (if b < a then b else a) ≤ -1 then -1 - (if b < a then b else a) else 0]) ([if a < b then b else a]) (rs) (fs) (by (simp only [List.length_cons, List.length_nil]; omega)) (by (simp only [List.length_cons, List.length_nil]; omega)) (by (intro x hx; simp only [List.mem_cons, List.not_mem_nil, or_false] at hx; subst hx; unfold okI; omega)) (by (intro x hx; simp only [List.mem_cons, List.not_mem_nil, or_false] at hx; subst hx; unfold okI; omega)) (by omega) (by omega) (by omega)) rfl (.cons rfl (.agg (.cons (.own rfl) (.cons (.own rfl) .nil))) (.cons rfl (.agg (.cons .t0 (.cons .t0 .nil))) .nil)) rfl rfl rfl) ?_
  refine rM ?_
  refine r_op (o_extract rfl rfl rfl rfl) ?_
  refine r_op (o_extract rfl rfl rfl rfl) ?_
  refine r_op (o_alloc 9 (zs := [.slice none 0 0, .slice none 0 0]) rfl rfl (by kernel_rfl) rfl) ?_
  refine rS 2 ?_
  refine rA<|etr ?_
  refine rC 2 ?_
  refine rS 2 ?_
  refine rA<|r_end ?_
  refine gt_mv 2 7 rfl rfl rfl ?_
  refine gt_mv 3 8 rfl rfl rfl ?_
  refine tk Tryz.func54 (.cells (n := 2) (by kernel_rfl) (by kernel_rfl) rfl rfl rfl (.tmp rfl .nil)) ?_ (hL := ⟨eqR ?_, ⟨eqR ?_, trivial⟩⟩)
  all_goals ((have e8 := eqd_yes (rs := rs) (fs := fs) (a := a) (b := b) (by omega); first | (rw [e8.1]; rfl) | (rw [e8.2.1]; rfl) | (rw [e8.2.2]; rfl)))
theorem c_impl_NullsOfInstance (rs : Rels) (l : Atoms) (hl : szS (fun (x : Int × (List (Int))) => (x.2).length) l ≤ 1048576) (ho : ∀ z ∈ l, ∀ x ∈ z.2, okI x) : Pu Tryz.prog 33 [.agg [.t none (.sl 3 (enS3 encS encI encB) (rs)), .t none (.sl 2 (enS2 encI (enSl 1 encI)) (l))]] [(2, some (.row none 3 true 1 encI (setI (nulV (flatT l)))))] 3 (.c (.own 2)) := by
 refine pu_enter Tryz.func33 rfl (Nat.le_of_ble_eq_true rfl) fun w S => ?_
 have gl := sz_len (f := (fun (x : Int × (List (Int))) => (x.2).length)) (l := l); have gv := flatT_size l
 refine tsr ?_
 refine r_op (o_box 0 rfl rfl rfl rfl) ?_
 refine rA<|etr ?_
 refine r_op (o_lit0 1 (e := 3) (sz := 1) (zs := [.int .i64 (0)]) encI rfl rfl (by kernel_rfl) rfl) ?_
 refine rA<|r_end<|t_seq<|tsr ?_
 refine rF 1 ?_
 refine rL ?_
 refine r_op (o_len rfl rfl rfl) ?_
 refine rM<|r_end<|t_block ?_
 refine t_loopL (fun m => ⟨[(2, some (.c (.t none (.v (.slice none 0 0))))), (3, some (.c (.own 1))), (8, some (.c (.t none (.sl 2 (enS2 encI (enSl 1 encI)) (l))))), (9, some (.c (.t none (.v (.int .i64 (((l).length : Int))))))), (10, some (.c (.t none (.v (.int .i64 ((m : Int)))))))], [(0, some (.box [.t none (.sl 3 (enS3 encS encI encB) (rs)), .t none (.sl 2 (enS2 encI (enSl 1 encI)) (l))])), (1, some (.row none 3 true 1 encI (flatT (l.take m))))], 2⟩ : Nat → St) (fun m => m ≤ l.length) (fun m => l.length - m) 0 ⟨⟨rfl, ⟨rfl, ⟨rfl, ⟨rfl, ⟨rfl, trivial⟩⟩⟩⟩⟩, ⟨rfl, ⟨rfl, trivial⟩⟩, rfl⟩ (by exact Nat.zero_le _) ?_
 rintro m hI ih0
 try dsimp only at hI ih0
 have i1 := hI
 refine tsr<|rB<|r_end<|t_seq ?_
 refine t_cond rfl (fun h1 => ?_) (fun h1 => ?_)
 ·
  have h1' := of_decide_eq_true h1
  refine t_skip<|t_seq<|t_block<|tsr ?_
  obtain ⟨z2, hz3, b4⟩ := at_get (xs := l) (n := (m : Int)) (by omega) (by omega)
  refine r_op (o_index rfl (by kernel_rfl) rfl rfl b4 hz3) ?_
  refine r_op (o_loadA rfl (n := 2) (by kernel_rfl) (by kernel_rfl) rfl rfl) ?_
  refine r_op (o_alloc 2 (zs := [.int .i64 (0), .slice none 0 0]) rfl rfl (by kernel_rfl) rfl) ?_
  refine rS 2<|rtr ?_
  refine rM ?_
  refine rF 1 ?_
  refine rL ?_
  refine r_op (o_appendS 1 (e := 3) (sz := 1) (by' := 8) rfl (by kernel_rfl) rfl rfl rfl rfl (fun _ _ => ⟨_, rfl⟩) (by (have e1 := flatT_part (l := l) (m := m) (by assumption); omega)) (by (have e1 := flatT_part (l := l) (m := m) (by assumption); omega))) ?_
  refine rA<|r_end<|t_endblock<|t_region ?_
  refine rB ?_
  refine rM<|r_end ?_
  refine t_le ?_ (ih0 (m + 1) (by (try dsimp only); omega) (by (try dsimp only); omega))
  exact ⟨⟨rfl, ⟨rfl, ⟨rfl, ⟨rfl, ⟨(eqI (wr64 (by omega) (by omega))), trivial⟩⟩⟩⟩⟩, ⟨rfl, ⟨(eqR (by rw [flatT_step (m := m) hz3])), trivial⟩⟩, rfl⟩
 ·
  have h1' := of_decide_eq_false h1
  refine t_exit rfl<|tsr<|rM ?_
  refine r_op (o_call 2 3 false (en Tryz.func80) (c_impl_nullsOf (flatT (l.take m)) (by (rw [flatT_end (by omega)]; (omega))) (by (rw [flatT_end (by omega)]; (exact flatT_ok ho)))) rfl (.cons rfl (.c (.own rfl)) .nil) rfl rfl rfl) ?_
  refine rA<|r_end ?_
  refine tk Tryz.func33 (.tmp rfl .nil) ?_ (hL := ⟨eqR ?_, trivial⟩) <;> (try clear ih0)
  all_goals first | rfl | ((rw [flatT_end (by omega)]))
theorem c_impl_NextNull (rs : Rels) (l : Atoms) (hl : szS (fun (x : Int × (List (Int))) => (x.2).length) l ≤ 1048576) (ho : ∀ z ∈ l, ∀ x ∈ z.2, okI x) : Pu Tryz.prog 56 [.agg [.t none (.sl 3 (enS3 encS encI encB) (rs)), .t none (.sl 2 (enS2 encI (enSl 1 encI)) (l))]] [] 0 (.c (.t none (.v (.int .i64 (nextN (setI (nulV (flatT l)))))))) := by
 refine pu_enter Tryz.func56 rfl (Nat.le_of_ble_eq_true rfl) fun w S => ?_
 have gl := sz_len (f := (fun (x : Int × (List (Int))) => (x.2).length)) (l := l); have gv := flatT_size l; have q1 := setI_len (nulV (flatT l)); have q2 := nulV_len (flatT l)
 refine tsr ?_
 refine r_op (o_box 0 rfl rfl rfl rfl) ?_
 refine rA<|etr ?_
 refine rC 2 ?_
 refine r_op (o_call 1 4 false (en Tryz.func33) (c_impl_NullsOfInstance (rs) (l) (by omega) (by omega)) rfl (.cons rfl (.agg (.cons .t0 (.cons .t0 .nil))) .nil) rfl rfl rfl) ?_
 refine rA<|r_end<|t_seq<|tsr ?_
 refine rM ?_
 refine r_op (o_leno rfl rfl rfl rfl) ?_
 refine rB<|r_end ?_
 refine t_cond rfl (fun h1 => ?_) (fun h1 => ?_)
 ·
  have h1' := of_decide_eq_true h1
  refine tsr<|rA<|r_end ?_
  refine tk Tryz.func56 (.tmp rfl .nil) ?_
  all_goals (refine scI ?_; (rw [nextN_none (by omega)]; done))
 ·
  have h1' := of_decide_eq_false h1
  refine t_skip<|tsr<|rM ?_
  refine rM ?_
  refine r_op (o_leno rfl rfl rfl rfl) ?_
  refine rB ?_
  obtain ⟨z2, hz3, b4⟩ := at_get (xs := setI (nulV (flatT (l)))) (n := IntKind.i64.wrap (((setI (nulV (flatT (l)))).length : Int) - 1)) (by (simp only [IntKind.wrap_i64]; omega)) (by (simp only [IntKind.wrap_i64]; omega))
  refine r_op (o_indexo rfl (by kernel_rfl) rfl rfl rfl b4 (at_lt b4 hz3)) ?_
  refine r_op (o_load1o rfl (by kernel_rfl) rfl rfl rfl hz3) ?_
  refine rB ?_
  refine rA<|r_end ?_
  refine tk Tryz.func56 (.tmp rfl .nil) ?_
  all_goals (refine scI ?_; (rw [nextN_at (by assumption) (by simp only [IntKind.wrap_i64]; omega)]; done))
theorem c_impl_headVariables (a0 : List (Int × (List (Int)))) (a1 : List (Int × (List (Int)))) (a2 : Bool) (a3 : Int) (a4 : Int) (q : Bool) (hs : szS (fun (x : Int × (List (Int))) => (x.2).length) a0 + szS (fun (x : Int × (List (Int))) => (x.2).length) a1 ≤ 1048576) : Pu Tryz.prog 91 [.agg [.t none (.sl 2 (enS2 encI (enSl 1 encI)) (a0)), .t none (.sl 2 (enS2 encI (enSl 1 encI)) (a1)), .t none (.v (.bool (a2))), .t none (.v (.int .i64 (a3))), .t none (.v (.int .i64 (a4)))], .c (.t none (.v (.bool (q))))] [(2, some (.row none 3 true 1 encI (selV q (setI (varsL a0)) (setI (varsL a1)))))] 4 (.c (.own 2)) := by
 refine pu_enter Tryz.func91 rfl (Nat.le_of_ble_eq_true rfl) fun w S => ?_
 have g0 := sz_len (f := (fun (x : Int × (List (Int))) => (x.2).length)) (l := a0); have g1 := sz_len (f := (fun (x : Int × (List (Int))) => (x.2).length)) (l := a1); have v0 := setI_len (varsL a0); have v1 := varsL_size a0; have v2 := setI_len (varsL a1); have v3 := varsL_size a1
 refine tsr ?_
 refine r_op (o_box 0 rfl rfl rfl rfl) ?_
 refine rA<|etr ?_
 refine rF 0 ?_
 refine rL ?_
 refine r_op (o_call 1 2 false (en Tryz.func150) (c_impl_Variables (a0) (by omega)) rfl (.cons rfl (.c .t0) .nil) rfl rfl rfl) ?_
 refine r_op (o_lit0 2 (e := 3) (sz := 1) (zs := [.int .i64 (0)]) encI rfl rfl (by kernel_rfl) rfl) ?_
 refine rA ?_
 refine rA<|r_end<|t_seq<|tsr ?_
 refine rF 1 ?_
 refine rL ?_
 refine r_op (o_call 3 4 false (en Tryz.func150) (c_impl_Variables (a1) (by omega)) rfl (.cons rfl (.c .t0) .nil) rfl rfl rfl) ?_
 refine r_op (o_leno rfl rfl rfl rfl) ?_
 refine rM<|r_end<|t_block ?_
 refine t_loopL (fun m => ⟨[(1, some (.c (.t none (.v (.bool (q)))))), (4, some (.c (.t none (.v (.slice none 0 0))))), (5, some (.c (.own 1))), (6, some (.c (.own 2))), (15, some (.c (.own 3))), (16, some (.c (.t none (.v (.int .i64 (((setI (varsL (a1))).length : Int))))))), (17, some (.c (.t none (.v (.int .i64 ((m : Int)))))))], [(0, some (.box [.t none (.sl 2 (enS2 encI (enSl 1 encI)) (a0)), .t none (.sl 2 (enS2 encI (enSl 1 encI)) (a1)), .t none (.v (.bool (a2))), .t none (.v (.int .i64 (a3))), .t none (.v (.int .i64 (a4)))])), (1, some (.row none 3 true 1 encI (setI (varsL (a0))))), (2, some (.row none 3 true 1 encI (((setI (varsL a1)).take m).filter (fun x => hasI (setI (varsL a0)) x == q)))), (3, some (.row none 3 true 1 encI (setI (varsL (a1)))))], 4⟩ : Nat → St) (fun m => m ≤ (setI (varsL a1)).length) (fun m => (setI (varsL a1)).length - m) 0 ⟨⟨rfl, ⟨rfl, ⟨rfl, ⟨rfl, ⟨rfl, ⟨rfl, ⟨rfl, trivial⟩⟩⟩⟩⟩⟩⟩, ⟨rfl, ⟨rfl, ⟨rfl, ⟨rfl, trivial⟩⟩⟩⟩, rfl⟩ (by exact Nat.zero_le _) ?_
 rintro m hI ih0
 try dsimp only at hI ih0
 have i1 := hI; have fl := filt_len (p := (fun x => hasI (setI (varsL a0)) x == q)) (l := setI (varsL a1)) (m := m)
 refine tsr<|rB<|r_end<|t_seq ?_
 refine t_cond rfl (fun h1 => ?_) (fun h1 => ?_)
 ·
  have h1' := of_decide_eq_true h1
  refine t_skip<|t_seq<|t_block<|tsr ?_
  obtain ⟨z2, hz3, b4⟩ := at_get (xs := setI (varsL (a1))) (n := (m : Int)) (by omega) (by omega)
  refine r_op (o_indexo rfl (by kernel_rfl) rfl rfl rfl b4 (at_lt b4 hz3)) ?_
  refine r_op (o_load1o rfl (by kernel_rfl) rfl rfl rfl hz3) ?_
  refine rA<|etr ?_
  refine rM ?_
  refine rM ?_
  refine r_op (o_call 4 4 false (en Tryz.func151) (c_slices_Contains___int_int_ (setI (varsL (a0))) (z2) (by omega)) rfl (.cons rfl (.c (.own rfl)) (.cons rfl (.c .t0) .nil)) rfl rfl rfl) ?_
  refine rM ?_
  refine r_op (o_eqB rfl Tryz.underlying4 rfl rfl) ?_
  refine r_end ?_
  refine t_cond rfl (fun h5 => ?_) (fun h5 => ?_)
  ·
   have h5' := h5
   refine t_region<|rM ?_
   refine rM ?_
   refine r_op (o_litS 4 (e := 3) (sz := 1) (zs := [.int .i64 (0)]) rfl rfl (by kernel_rfl) rfl rfl rfl rfl rfl) ?_
   refine r_op (o_append 2 (e := 3) (sz := 1) (by' := 8) (z2) rfl (by kernel_rfl) rfl rfl rfl rfl rfl rfl (.cons .sc .nil) rfl (by omega) (by omega)) ?_
   refine rA<|r_end<|t_endblock<|t_region ?_
   refine rB ?_
   refine rM<|r_end ?_
   refine t_le ?_ (ih0 (m + 1) (by (try dsimp only); omega) (by (try dsimp only); omega))
   exact ⟨⟨rfl, ⟨rfl, ⟨rfl, ⟨rfl, ⟨rfl, ⟨rfl, ⟨(eqI (wr64 (by omega) (by omega))), trivial⟩⟩⟩⟩⟩⟩⟩, ⟨rfl, ⟨rfl, ⟨(eqR (by (rw [filt_more (by assumption) (by simp_all)]; done))), ⟨rfl, trivial⟩⟩⟩⟩, rfl⟩
  ·
   have h5' := h5
   refine t_skip<|t_endblock<|t_region<|rB ?_
   refine rM<|r_end ?_
   refine t_le ?_ (ih0 (m + 1) (by (try dsimp only); omega) (by (try dsimp only); omega))
   exact ⟨⟨rfl, ⟨rfl, ⟨rfl, ⟨rfl, ⟨rfl, ⟨rfl, ⟨(eqI (wr64 (by omega) (by omega))), trivial⟩⟩⟩⟩⟩⟩⟩, ⟨rfl, ⟨rfl, ⟨(eqR (by (rw [filt_same (by assumption) (by simp_all)]; done))), ⟨rfl, trivial⟩⟩⟩⟩, rfl⟩
 ·
  have h1' := of_decide_eq_false h1
  refine t_exit rfl<|tsr<|rM ?_
  refine rA<|r_end ?_
  refine tk Tryz.func91 (.tmp rfl .nil) ?_ (hL := ⟨eqR ?_, trivial⟩) <;> (try clear ih0)
  all_goals first | rfl | ((rw [filt_end (by omega)]; rfl))
theorem c_impl_ExistentialVariables (a0 : List (Int × (List (Int)))) (a1 : List (Int × (List (Int)))) (a2 : Bool) (a3 : Int) (a4 : Int) (hs : szS (fun (x : Int × (List (Int))) => (x.2).length) a0 + szS (fun (x : Int × (List (Int))) => (x.2).length) a1 ≤ 1048576) : Pu Tryz.prog 38 [.agg [.t none (.sl 2 (enS2 encI (enSl 1 encI)) (a0)), .t none (.sl 2 (enS2 encI (enSl 1 encI)) (a1)), .t none (.v (.bool (a2))), .t none (.v (.int .i64 (a3))), .t none (.v (.int .i64 (a4)))]] [(3, some (.row none 3 true 1 encI (selV false (setI (varsL a0)) (setI (varsL a1)))))] 5 (.c (.own 3)) := by
 refine pu_enter Tryz.func38 rfl (Nat.le_of_ble_eq_true rfl) fun w S => ?_
 have g0 := sz_len (f := (fun (x : Int × (List (Int))) => (x.2).length)) (l := a0); have g1 := sz_len (f := (fun (x : Int × (List (Int))) => (x.2).length)) (l := a1); have v0 := setI_len (varsL a0); have v1 := varsL_size a0; have v2 := setI_len (varsL a1); have v3 := varsL_size a1
 refine tsr ?_
 refine r_op (o_box 0 rfl rfl rfl rfl) ?_
 refine rA<|etr ?_
 refine rC 5 ?_
 refine r_op (o_call 1 5 false (en Tryz.func91) (c_impl_headVariables (a0) (a1) (a2) (a3) (a4) (false) (by omega)) rfl (.cons rfl (.agg (.cons .t0 (.cons .t0 (.cons .t0 (.cons .t0 (.cons .t0 .nil)))))) (.cons rfl (.c .t0) .nil)) rfl rfl rfl) ?_
 refine rA<|r_end ?_
 refine tk Tryz.func38 (.tmp rfl .nil) ?_ (hL := ⟨eqR ?_, trivial⟩)
 all_goals (rfl)
theorem c_impl_NullValue (k : Int) (hk : -4611686018427387904 ≤ k ∧ k ≤ 4611686018427387904) : Pu Tryz.prog 57 [.c (.t none (.v (.int .i64 (k))))] [] 0 (.c (.t none (.v (.int .i64 (-1 - k))))) := by
 refine pu_enter Tryz.func57 rfl (Nat.le_of_ble_eq_true rfl) fun w S => ?_
 refine tsr<|rA<|etr ?_
 refine rM ?_
 refine rB ?_
 refine rA<|r_end ?_
 refine tk Tryz.func57 (.tmp rfl .nil) ?_
 all_goals (refine scI ?_; exact wr64 (by omega) (by omega))
theorem c_impl_ApplyTrigger (rs : Rels) (fs : Atoms) (a0 : List (Int × (List (Int)))) (a1 : List (Int × (List (Int)))) (a2 : Bool) (a3 : Int) (a4 : Int) (b : List Int) (hrs : rs.length ≤ 1048576) (hsz : szS (fun (x : Int × (List (Int))) => (x.2).length) fs + (szS (fun (x : Int × (List (Int))) => (x.2).length) a0 + szS (fun (x : Int × (List (Int))) => (x.2).length) a1) ≤ 1048576) (ho : ∀ z ∈ fs, ∀ x ∈ z.2, okI x) (hoa : ∀ z ∈ a0, ∀ x ∈ z.2, okI x) (hoh : ∀ z ∈ a1, ∀ x ∈ z.2, okI x) (hbl : b.length ≤ 1048576) (hob : ∀ x ∈ b, okI x) : Pu Tryz.prog 12 [.agg [.t none (.sl 3 (enS3 encS encI encB) (rs)), .t none (.sl 2 (enS2 encI (enSl 1 encI)) (fs))], .agg [.t none (.sl 2 (enS2 encI (enSl 1 encI)) (a0)), .t none (.sl 2 (enS2 encI (enSl 1 encI)) (a1)), .t none (.v (.bool (a2))), .t none (.v (.int .i64 (a3))), .t none (.v (.int .i64 (a4)))], .c (.t none (.sl 1 encI (b)))] [(4, some (.row none 119 true 3 (enS3 encS encI encB) (trgR rs fs a0 a1 a2 a3 a4 b))), (5, some (.row none 85 true 2 (enS2 encI (enSl 1 encI)) (trgS rs fs a0 a1 a2 a3 a4 b)))] 6 (.tup [(true, [.own 4, .own 5]), (false, [.t none (.v (.int .i64 (trgC rs fs a0 a1 a2 a3 a4 b)))])]) := by
 refine pu_enter Tryz.func12 rfl (Nat.le_of_ble_eq_true rfl) fun w S => ?_
 have g0 := sz_len (f := (fun (x : Int × (List (Int))) => (x.2).length)) (l := a0); have g1 := sz_len (f := (fun (x : Int × (List (Int))) => (x.2).length)) (l := a1); have g2 := sz_len (f := (fun (x : Int × (List (Int))) => (x.2).length)) (l := fs); have v1 := selV_len false (setI (varsL a0)) (setI (varsL a1)); have v2 := setI_len (varsL a1); have v3 := varsL_size a1; have nb : 0 ≤ nextN (setI (nulV (flatT fs))) ∧ nextN (setI (nulV (flatT fs))) ≤ 40 := nnI_bd fs; have X5 : actOk rs fs a0 a1 a2 a3 a4 b = true → a2 = false → (selV false (setI (varsL a0)) (setI (varsL a1))).length ≤ 5 := exN_len; have XR : actOk rs fs a0 a1 a2 a3 a4 b = true → a2 = false → ∀ (k : Nat) x, (selV false (setI (varsL a0)) (setI (varsL a1)))[k]? = some x → 0 ≤ x ∧ x < 5 := (fun h h2 k x hx => exN_rng h h2 (List.mem_of_getElem? hx)); have XL : actOk rs fs a0 a1 a2 a3 a4 b = true → b.length = 5 := (fun h => (trg_inst (act_trg h)).2.2); have oW : ∀ x ∈ tgdW fs a0 a1 b, okI x := fillV_ok _ _ _ hob nb.1 (by (have e7 : (exN a0 a1).length = (selV false (setI (varsL a0)) (setI (varsL a1))).length := rfl); have e8 : nnI fs ≤ 40 := nb.2; omega)
 refine tsr ?_
 refine r_op (o_box 0 rfl rfl rfl rfl) ?_
 refine r_op (o_box 1 rfl rfl rfl rfl) ?_
 refine r_op (o_alloc 2 (zs := [.slice none 0 0, .slice none 0 0]) rfl rfl (by kernel_rfl) rfl) ?_
 refine rA<|etr ?_
 refine rC 5 ?_
 refine r_op (o_alloc 3 (zs := [.slice none 0 0, .slice none 0 0, .bool (false), .int .i64 (0), .int .i64 (0)]) rfl rfl (by kernel_rfl) rfl) ?_
 refine rS 5<|r_end<|t_seq<|tsr ?_
 refine rC 2 ?_
 refine rC 5 ?_
 refine rM ?_
 refine r_op (o_call 4 4 false (en Tryz.func37) (c_impl_IsActiveTrigger (rs) (fs) (a0) (a1) (a2) (a3) (a4) (b) (by omega) (by omega) (by omega) (by omega) (by omega) (by omega) (by omega)) rfl (.cons rfl (.agg (.cons .t0 (.cons .t0 .nil))) (.cons rfl (.agg (.cons .t0 (.cons .t0 (.cons .t0 (.cons .t0 (.cons .t0 .nil)))))) (.cons rfl (.c .t0) .nil))) rfl rfl rfl) ?_
 refine r_op (o_not rfl rfl) ?_
 refine r_end ?_
 refine t_cond rfl (fun h1 => ?_) (fun h1 => ?_)
 ·
  have h1' := (bnt h1)
  refine tsr<|rC 2 ?_
  refine r_op (o_call 4 8 false (en Tryz.func53) (c_impl_instanceCopy (rs) (fs) (by omega) (by omega)) rfl (.cons rfl (.agg (.cons .t0 (.cons .t0 .nil))) .nil) rfl rfl rfl) ?_
  refine rS 2 ?_
  refine rA<|r_end ?_
  refine gt_mv 4 6 rfl rfl rfl ?_
  refine gt_mv 5 7 rfl rfl rfl ?_
  refine tk Tryz.func12 (.cells (n := 2) (by kernel_rfl) (by kernel_rfl) rfl rfl rfl (.tmp rfl .nil)) ?_ (hL := ⟨eqR ?_, ⟨eqR ?_, trivial⟩⟩) <;> (try clear ih0) <;> (try clear ih1)
  all_goals ((have e8 := trg_off (rs := rs) (fs := fs) (a0 := a0) (a1 := a1) (a2 := a2) (a3 := a3) (a4 := a4) (v := b) (by assumption); first | (rw [e8.1]; done) | (rw [e8.2.1]; done) | (rw [e8.2.2]; rfl)))
 ·
  have h1' := (bnf h1)
  refine t_skip<|t_seq<|tsr<|rF 2 ?_
  refine rL<|r_end ?_
  refine t_cond rfl (fun h2 => ?_) (fun h2 => ?_)
  ·
   have h2' := h2
   refine t_seq ?_
   refine t_draw (fun i => !(Nat.beq i 14)) (by kernel_rfl) ?_
   refine dT 0 rfl (pC 2) ?_
   refine dT 1 rfl pM ?_
   refine dT 2 rfl (pF 3) ?_
   refine dT 3 rfl pL ?_
   obtain ⟨z3, hz4, b5⟩ := at_get (xs := b) (n := a3) (by exact (trg_idx (act_trg (by assumption)) (by assumption)).1.1) (by exact (trg_idx (act_trg (by assumption)) (by assumption)).1.2)
   refine dT 4 rfl (p_index (by kernel_rfl) rfl rfl b5 hz4) ?_
   refine dT 5 rfl (p_load1 (by kernel_rfl) rfl rfl) ?_
   refine dT 6 rfl pM ?_
   refine dT 7 rfl (pF 4) ?_
   refine dT 8 rfl pL ?_
   obtain ⟨z6, hz7, b8⟩ := at_get (xs := b) (n := a4) (by exact (trg_idx (act_trg (by assumption)) (by assumption)).2.1) (by exact (trg_idx (act_trg (by assumption)) (by assumption)).2.2)
   refine dT 9 rfl (p_index (by kernel_rfl) rfl rfl b8 hz7) ?_
   refine dT 10 rfl (p_load1 (by kernel_rfl) rfl rfl) ?_
   refine dO 11 rfl (o_call 4 8 false (en Tryz.func54) (c_impl_equated (rs) (fs) (z3) (z6) (by omega) (by omega) (by omega) (by exact hob _ (List.mem_of_getElem? (by assumption))) (by exact hob _ (List.mem_of_getElem? (by assumption)))) rfl (.cons rfl (.agg (.cons .t0 (.cons .t0 .nil))) (.cons rfl (.c .t0) (.cons rfl (.c .t0) .nil))) rfl rfl rfl) ?_
   refine dT 12 rfl (p_extract rfl rfl rfl) ?_
   refine dT 13 rfl (p_extract rfl rfl rfl) ?_
   refine dO 14 rfl (oS 2) ?_
   refine dT 15 rfl pA ?_
   refine d_end (by kernel_rfl) ?_
   refine gt_mv 4 6 rfl rfl rfl ?_
   refine gt_mv 5 7 rfl rfl rfl ?_
   refine tk Tryz.func12 (.cells (n := 2) (by kernel_rfl) (by kernel_rfl) rfl rfl rfl (.tmp rfl .nil)) ?_ (hL := ⟨eqR ?_, ⟨eqR ?_, trivial⟩⟩) <;> (try clear ih0) <;> (try clear ih1)
   all_goals ((have e8 := trg_eq (rs := rs) (fs := fs) (a0 := a0) (a1 := a1) (a2 := a2) (a3 := a3) (a4 := a4) (v := b) (by assumption) (by assumption) hz4 hz7; first | (rw [e8.1]; done) | (rw [e8.2.1]; done) | (rw [e8.2.2]; rfl)))
  ·
   have h2' := h2
   refine t_skip<|t_seq ?_
   refine t_draw (fun _ => true) (by kernel_rfl) ?_
   refine dT 0 rfl pM ?_
   refine dT 2 rfl (pC 2) ?_
   refine dO 1 rfl (o_call 4 5 false (en Tryz.func55) (c_slices_Clone___int_int_ (b) (by omega)) rfl (.cons rfl (.c .t0) .nil) rfl rfl rfl) ?_
   refine dO 3 rfl (o_call 5 5 false (en Tryz.func56) (c_impl_NextNull (rs) (fs) (by omega) (by omega)) rfl (.cons rfl (.agg (.cons .t0 (.cons .t0 .nil))) .nil) rfl rfl rfl) ?_
   refine dT 4 rfl pA ?_
   refine dT 5 rfl pA ?_
   refine d_end (by kernel_rfl) ?_
   refine t_seq<|tsr<|rC 5 ?_
   refine r_op (o_call 5 10 false (en Tryz.func38) (c_impl_ExistentialVariables (a0) (a1) (a2) (a3) (a4) (by omega)) rfl (.cons rfl (.agg (.cons .t0 (.cons .t0 (.cons .t0 (.cons .t0 (.cons .t0 .nil)))))) .nil) rfl rfl rfl) ?_
   refine r_op (o_leno rfl rfl rfl rfl) ?_
   refine rM<|r_end<|t_block ?_
   refine t_loopL (fun m => ⟨[(3, some (.c (.ptr 0 0))), (6, some (.c (.ptr 2 0))), (7, some (.c (.t none (.v (.int .i64 (0)))))), (8, some (.c (.ptr 3 0))), (9, some (.c (.own 4))), (10, some (.c (.t none (.v (.int .i64 (nextN (setI (nulV (flatT fs))) + (m : Int))))))), (47, some (.c (.own 8))), (48, some (.c (.t none (.v (.int .i64 (((selV false (setI (varsL (a0))) (setI (varsL (a1)))).length : Int))))))), (49, some (.c (.t none (.v (.int .i64 ((m : Int)))))))], [(0, some (.box [.t none (.sl 3 (enS3 encS encI encB) (rs)), .t none (.sl 2 (enS2 encI (enSl 1 encI)) (fs))])), (1, some (.box [.t none (.sl 2 (enS2 encI (enSl 1 encI)) (a0)), .t none (.sl 2 (enS2 encI (enSl 1 encI)) (a1)), .t none (.v (.bool (a2))), .t none (.v (.int .i64 (a3))), .t none (.v (.int .i64 (a4)))])), (2, some (.box [.t none (.v (.slice none 0 0)), .t none (.v (.slice none 0 0))])), (3, some (.box [.t none (.sl 2 (enS2 encI (enSl 1 encI)) (a0)), .t none (.sl 2 (enS2 encI (enSl 1 encI)) (a1)), .t none (.v (.bool (a2))), .t none (.v (.int .i64 (a3))), .t none (.v (.int .i64 (a4)))])), (4, some (.row none 3 true 1 encI (fillV b ((selV false (setI (varsL a0)) (setI (varsL a1))).take m) (nextN (setI (nulV (flatT fs))))))), (8, some (.row none 3 true 1 encI (selV false (setI (varsL (a0))) (setI (varsL (a1))))))], 10⟩ : Nat → St) (fun m => m ≤ (selV false (setI (varsL a0)) (setI (varsL a1))).length) (fun m => (selV false (setI (varsL a0)) (setI (varsL a1))).length - m) 0 ⟨⟨rfl, ⟨rfl, ⟨rfl, ⟨rfl, ⟨rfl, ⟨(eqI (by simp)), ⟨rfl, ⟨rfl, ⟨rfl, trivial⟩⟩⟩⟩⟩⟩⟩⟩⟩, ⟨rfl, ⟨rfl, ⟨rfl, ⟨rfl, ⟨rfl, ⟨rfl, trivial⟩⟩⟩⟩⟩⟩, rfl⟩ (by exact Nat.zero_le _) ?_
   rintro m hI ih0
   try dsimp only at hI ih0
   have i1 := hI; have ea : actOk rs fs a0 a1 a2 a3 a4 b = true := (by assumption); have eb : a2 = false := (by assumption); have e5 := X5 ea eb; have eL := XL ea; have eR := XR ea eb
   refine tsr<|rB<|r_end<|t_seq ?_
   refine t_cond rfl (fun h9 => ?_) (fun h9 => ?_)
   ·
    have h9' := of_decide_eq_true h9
    refine t_skip<|t_seq<|t_block<|tsr ?_
    obtain ⟨z10, hz11, b12⟩ := at_get (xs := selV false (setI (varsL (a0))) (setI (varsL (a1)))) (n := (m : Int)) (by omega) (by omega)
    refine r_op (o_indexo rfl (by kernel_rfl) rfl rfl rfl b12 (at_lt b12 hz11)) ?_
    refine r_op (o_load1o rfl (by kernel_rfl) rfl rfl rfl hz11) ?_
    refine rA<|etr ?_
    refine rM ?_
    refine rM ?_
    refine rM ?_
    refine r_op (o_call 10 10 false (en Tryz.func57) (c_impl_NullValue (nextN (setI (nulV (flatT fs))) + (m : Int)) (by omega)) rfl (.cons rfl (.c .t0) .nil) rfl rfl rfl) ?_
    obtain ⟨z13, hz14, b15⟩ := at_get (xs := fillV b ((selV false (setI (varsL a0)) (setI (varsL a1))).take m) (nextN (setI (nulV (flatT fs))))) (n := z10) (by (have e2 := eR _ _ (by assumption); (try rw [fillV_len]); omega)) (by (have e2 := eR _ _ (by assumption); (try rw [fillV_len]); omega))
    refine r_op (o_indexo rfl (by kernel_rfl) rfl rfl rfl b15 (at_lt b15 hz14)) ?_
    refine r_op (o_storeo (-1 - (nextN (setI (nulV (flatT fs))) + (m : Int))) (n := 1) (by kernel_rfl) rfl rfl hz14 rfl rfl rfl rfl (.cons .sc .nil) rfl (fun j h1 h2 => by (simp at h1 h2; omega))) ?_
    refine rtr<|rM ?_
    refine rB ?_
    refine rA<|r_end<|t_endblock<|t_region ?_
    refine rB ?_
    refine rM<|r_end ?_
    refine t_le ?_ (ih0 (m + 1) (by (try dsimp only); omega) (by (try dsimp only); omega))
    exact ⟨⟨rfl, ⟨rfl, ⟨rfl, ⟨rfl, ⟨rfl, ⟨(eqI (by rw [wr64 (by omega) (by omega)]; omega)), ⟨rfl, ⟨rfl, ⟨(eqI (wr64 (by omega) (by omega))), trivial⟩⟩⟩⟩⟩⟩⟩⟩⟩, ⟨rfl, ⟨rfl, ⟨rfl, ⟨rfl, ⟨(eqR (fillV_step hz11)), ⟨rfl, trivial⟩⟩⟩⟩⟩⟩, rfl⟩
   ·
    have h9' := of_decide_eq_false h9
    refine t_exit rfl<|tsr<|rC 2 ?_
    refine r_op (o_call 10 14 false (en Tryz.func53) (c_impl_instanceCopy (rs) (fs) (by omega) (by omega)) rfl (.cons rfl (.agg (.cons .t0 (.cons .t0 .nil))) .nil) rfl rfl rfl) ?_
    refine r_op (o_alloc 14 (zs := [.slice none 0 0, .slice none 0 0]) rfl rfl (by kernel_rfl) rfl) ?_
    refine rS 2<|r_end<|t_seq<|tsr ?_
    refine rF 1 ?_
    refine rL ?_
    refine r_op (o_len rfl rfl rfl) ?_
    refine rM<|r_end<|t_block ?_
    refine t_loopL (fun n => ⟨[(3, some (.c (.ptr 0 0))), (6, some (.c (.ptr 2 0))), (7, some (.c (.t none (.v (.int .i64 (0)))))), (9, some (.c (.own 4))), (10, some (.c (.t none (.v (.int .i64 (nextN (setI (nulV (flatT fs))) + (m : Int))))))), (13, some (.c (.ptr 14 0))), (64, some (.c (.t none (.sl 2 (enS2 encI (enSl 1 encI)) (a1))))), (65, some (.c (.t none (.v (.int .i64 (((a1).length : Int))))))), (66, some (.c (.t none (.v (.int .i64 ((n : Int)))))))], [(0, some (.box [.t none (.sl 3 (enS3 encS encI encB) (rs)), .t none (.sl 2 (enS2 encI (enSl 1 encI)) (fs))])), (1, some (.box [.t none (.sl 2 (enS2 encI (enSl 1 encI)) (a0)), .t none (.sl 2 (enS2 encI (enSl 1 encI)) (a1)), .t none (.v (.bool (a2))), .t none (.v (.int .i64 (a3))), .t none (.v (.int .i64 (a4)))])), (2, some (.box [.t none (.v (.slice none 0 0)), .t none (.v (.slice none 0 0))])), (3, some (.box [.t none (.sl 2 (enS2 encI (enSl 1 encI)) (a0)), .t none (.sl 2 (enS2 encI (enSl 1 encI)) (a1)), .t none (.v (.bool (a2))), .t none (.v (.int .i64 (a3))), .t none (.v (.int .i64 (a4)))])), (4, some (.row none 3 true 1 encI (tgdW fs a0 a1 b))), (8, some (.row none 3 true 1 encI (selV false (setI (varsL (a0))) (setI (varsL (a1)))))), (12, some (.row none 119 true 3 (enS3 encS encI encB) ((rs)))), (13, some (.row none 85 true 2 (enS2 encI (enSl 1 encI)) (fs ++ (a1.take n).map (hdF (tgdW fs a0 a1 b))))), (14, some (.box [.own 12, .own 13]))], 15⟩ : Nat → St) (fun n => n ≤ a1.length) (fun n => a1.length - n) 0 ⟨⟨rfl, ⟨rfl, ⟨rfl, ⟨rfl, ⟨rfl, ⟨rfl, ⟨rfl, ⟨rfl, ⟨rfl, trivial⟩⟩⟩⟩⟩⟩⟩⟩⟩, ⟨rfl, ⟨rfl, ⟨rfl, ⟨rfl, ⟨(eqR (by rw [List.take_of_length_le (by omega)]; rfl)), ⟨rfl, ⟨rfl, ⟨(eqR (by simp)), ⟨rfl, trivial⟩⟩⟩⟩⟩⟩⟩⟩⟩, rfl⟩ (by exact Nat.zero_le _) ?_
    rintro n hI ih1
    try dsimp only at hI ih1
    have j1 := hI
    refine tsr<|rB<|r_end<|t_seq ?_
    refine t_cond rfl (fun h16 => ?_) (fun h16 => ?_)
    ·
     have h16' := of_decide_eq_true h16
     refine t_skip<|t_seq<|t_block<|tsr ?_
     obtain ⟨z17, hz18, b19⟩ := at_get (xs := a1) (n := (n : Int)) (by omega) (by omega)
     refine r_op (o_index rfl (by kernel_rfl) rfl rfl b19 hz18) ?_
     refine r_op (o_loadA rfl (n := 2) (by kernel_rfl) (by kernel_rfl) rfl rfl) ?_
     refine r_op (o_alloc 15 (zs := [.int .i64 (0), .slice none 0 0]) rfl rfl (by kernel_rfl) rfl) ?_
     refine rS 2<|etr ?_
     refine rC 2 ?_
     refine rM ?_
     rcases hm20 : instV (tgdW fs a0 a1 b) (z17.2) with _ | q22
     ·
      refine r_op (o_call 16 20 false (en Tryz.func58) (c_impl_Instantiate (z17.1) (z17.2) (tgdW fs a0 a1 b) (by (have e1 := sz_at (f := (fun (x : Int × (List (Int))) => (x.2).length)) (l := a1) (m := n) (by assumption); (try dsimp only at e1); omega)) (by exact hoh _ (List.mem_of_getElem? (by assumption))) _ hm20) rfl (.cons rfl (.agg (.cons .t0 (.cons .t0 .nil))) (.cons rfl (.c (.own rfl)) .nil)) rfl rfl rfl) ?_
      refine rM ?_
      refine r_op (o_extract rfl rfl rfl rfl) ?_
      refine r_op (o_extract rfl rfl rfl rfl) ?_
      refine r_op (o_alloc 20 (zs := [.int .i64 (0), .slice none 0 0]) rfl rfl (by kernel_rfl) rfl) ?_
      refine rS 2 ?_
      refine rA<|rtr ?_
      refine rF 1 ?_
      refine rL ?_
      refine rC 2 ?_
      refine r_op (o_litS 21 (e := 85) (sz := 2) (zs := [.int .i64 (0), .slice none 0 0]) rfl rfl (by kernel_rfl) rfl rfl rfl rfl rfl) ?_
      refine r_op (o_append 13 (e := 85) (sz := 2) (by' := 32) ((0, [])) rfl (by kernel_rfl) rfl rfl rfl rfl rfl rfl (.cons .sc (.cons .nil .nil)) rfl (by (simp only [List.length_append, List.length_map, List.length_take]; omega)) (by (simp only [List.length_append, List.length_map, List.length_take]; omega))) ?_
      refine rF 1 ?_
      refine rS 1<|r_end<|t_endblock<|t_region ?_
      refine rB ?_
      refine rM<|r_end ?_
      refine t_le ?_ (ih1 (n + 1) (by (try dsimp only); omega) (by (try dsimp only); omega))
      exact ⟨⟨rfl, ⟨rfl, ⟨rfl, ⟨rfl, ⟨rfl, ⟨rfl, ⟨rfl, ⟨rfl, ⟨(eqI (wr64 (by omega) (by omega))), trivial⟩⟩⟩⟩⟩⟩⟩⟩⟩, ⟨rfl, ⟨rfl, ⟨rfl, ⟨rfl, ⟨rfl, ⟨rfl, ⟨rfl, ⟨(eqR (by exact snoc_none hz18 (by assumption))), ⟨rfl, trivial⟩⟩⟩⟩⟩⟩⟩⟩⟩, rfl⟩
     ·
      refine r_op (o_call 16 20 false (en Tryz.func58) (c_impl_Instantiate (z17.1) (z17.2) (tgdW fs a0 a1 b) (by (have e1 := sz_at (f := (fun (x : Int × (List (Int))) => (x.2).length)) (l := a1) (m := n) (by assumption); (try dsimp only at e1); omega)) (by exact hoh _ (List.mem_of_getElem? (by assumption))) _ hm20) rfl (.cons rfl (.agg (.cons .t0 (.cons .t0 .nil))) (.cons rfl (.c (.own rfl)) .nil)) rfl rfl rfl) ?_
      refine rM ?_
      refine r_op (o_extract rfl rfl rfl rfl) ?_
      refine r_op (o_extract rfl rfl rfl rfl) ?_
      refine r_op (o_alloc 20 (zs := [.int .i64 (0), .slice none 0 0]) rfl rfl (by kernel_rfl) rfl) ?_
      refine rS 2 ?_
      refine rA<|rtr ?_
      refine rF 1 ?_
      refine rL ?_
      refine rC 2 ?_
      refine r_op (o_litS 21 (e := 85) (sz := 2) (zs := [.int .i64 (0), .slice none 0 0]) rfl rfl (by kernel_rfl) rfl rfl rfl rfl rfl) ?_
      refine r_op (o_append 13 (e := 85) (sz := 2) (by' := 32) (((z17.1), (q22))) rfl (by kernel_rfl) rfl rfl rfl rfl rfl rfl (.cons .sc (.take (.own rfl) rfl .nil)) rfl (by (simp only [List.length_append, List.length_map, List.length_take]; omega)) (by (simp only [List.length_append, List.length_map, List.length_take]; omega))) ?_
      refine rF 1 ?_
      refine rS 1<|r_end<|t_endblock<|t_region ?_
      refine rB ?_
      refine rM<|r_end ?_
      refine t_le ?_ (ih1 (n + 1) (by (try dsimp only); omega) (by (try dsimp only); omega))
      exact ⟨⟨rfl, ⟨rfl, ⟨rfl, ⟨rfl, ⟨rfl, ⟨rfl, ⟨rfl, ⟨rfl, ⟨(eqI (wr64 (by omega) (by omega))), trivial⟩⟩⟩⟩⟩⟩⟩⟩⟩, ⟨rfl, ⟨rfl, ⟨rfl, ⟨rfl, ⟨rfl, ⟨rfl, ⟨rfl, ⟨(eqR (by exact snoc_some hz18 (by assumption))), ⟨rfl, trivial⟩⟩⟩⟩⟩⟩⟩⟩⟩, rfl⟩
    ·
     have h16' := of_decide_eq_false h16
     refine t_exit rfl<|tsr<|rF 1 ?_
     refine rL ?_
     refine r_op (o_call 15 16 false (en Tryz.func59) (c_impl_factsSet (fs ++ (a1.take n).map (hdF (tgdW fs a0 a1 b))) (by exact Nat.le_trans hd_room2 (by omega))) rfl (.cons rfl (.c (.own rfl)) .nil) rfl rfl rfl) ?_
     refine rF 1 ?_
     refine rS 1<|r_end<|t_seq<|tsr ?_
     refine rM ?_
     refine rB ?_
     refine rM ?_
     refine rG (fun g23 => ?_) (fun g23 => ?_)
     ·
      have g23' := of_decide_eq_false g23
      refine rF 1 ?_
      refine rG (fun _ => ?_) (ncf g23)
      refine rL ?_
      refine rG (fun _ => ?_) (ncf g23)
      refine r_op (o_leno rfl rfl rfl rfl) ?_
      refine rG (fun _ => ?_) (ncf g23)
      refine rB ?_
      refine r_op (o_pickF rfl rfl g23 rfl) ?_
      refine r_end ?_
      refine t_cond rfl (fun h24 => ?_) (fun h24 => ?_)
      ·
       have h24' := of_decide_eq_true h24
       refine tsr<|rC 2 ?_
       refine r_op (o_call 16 20 false (en Tryz.func53) (c_impl_instanceCopy (rs) (fs) (by omega) (by omega)) rfl (.cons rfl (.agg (.cons .t0 (.cons .t0 .nil))) .nil) rfl rfl rfl) ?_
       refine rS 2 ?_
       refine rA<|r_end ?_
       refine gt_mv 4 18 rfl rfl rfl ?_
       refine gt_mv 5 19 rfl rfl rfl ?_
       refine tk Tryz.func12 (.cells (n := 2) (by kernel_rfl) (by kernel_rfl) rfl rfl rfl (.tmp rfl .nil)) ?_ (hL := ⟨eqR ?_, ⟨eqR ?_, trivial⟩⟩) <;> (try clear ih0) <;> (try clear ih1)
       all_goals (((have et : setF (fs ++ (a1.take n).map (hdF (tgdW fs a0 a1 b))) = tgdF fs a0 a1 b := (by rw [List.take_of_length_le (by omega)]; rfl)); have en : (exN a0 a1).length = (selV false (setI (varsL a0)) (setI (varsL a1))).length := rfl; have eN : nnI fs = nextN (setI (nulV (flatT fs))) := rfl; (have e8 := trg_over (rs := rs) (fs := fs) (a0 := a0) (a1 := a1) (a2 := a2) (a3 := a3) (a4 := a4) (v := b) ea eb (by exact tgdO_len (by rw [← et]; omega)); first | (rw [e8.1]; done) | (rw [e8.2.1]; done) | (rw [e8.2.2]; rfl))))
      ·
       have h24' := of_decide_eq_false h24
       refine t_skip<|tsr<|rC 2 ?_
       refine rS 2 ?_
       refine rA<|r_end ?_
       refine gt_mv 4 12 rfl rfl rfl ?_
       refine gt_mv 5 15 rfl rfl rfl ?_
       refine tk Tryz.func12 (.cells (n := 2) (by kernel_rfl) (by kernel_rfl) rfl rfl rfl (.tmp rfl .nil)) ?_ (hL := ⟨eqR ?_, ⟨eqR ?_, trivial⟩⟩) <;> (try clear ih0) <;> (try clear ih1)
       all_goals (((have et : setF (fs ++ (a1.take n).map (hdF (tgdW fs a0 a1 b))) = tgdF fs a0 a1 b := (by rw [List.take_of_length_le (by omega)]; rfl)); have en : (exN a0 a1).length = (selV false (setI (varsL a0)) (setI (varsL a1))).length := rfl; have eN : nnI fs = nextN (setI (nulV (flatT fs))) := rfl; (have e8 := trg_done (rs := rs) (fs := fs) (a0 := a0) (a1 := a1) (a2 := a2) (a3 := a3) (a4 := a4) (v := b) ea eb (tgdO_no (by omega) (by rw [← et]; omega)); first | (rw [e8.1]; done) | (rw [e8.2.1, et]; done) | (rw [e8.2.2]; rfl))))
     ·
      have g23' := of_decide_eq_true g23
      refine rG (nc g23) (fun _ => ?_)
      refine rG (nc g23) (fun _ => ?_)
      refine rG (nc g23) (fun _ => ?_)
      refine r_op (o_pickT rfl rfl g23 rfl) ?_
      refine r_end ?_
      refine t_cond rfl (fun _ => ?_) (nc rfl)
      refine tsr<|rC 2 ?_
      refine r_op (o_call 16 20 false (en Tryz.func53) (c_impl_instanceCopy (rs) (fs) (by omega) (by omega)) rfl (.cons rfl (.agg (.cons .t0 (.cons .t0 .nil))) .nil) rfl rfl rfl) ?_
      refine rS 2 ?_
      refine rA<|r_end ?_
      refine gt_mv 4 18 rfl rfl rfl ?_
      refine gt_mv 5 19 rfl rfl rfl ?_
      refine tk Tryz.func12 (.cells (n := 2) (by kernel_rfl) (by kernel_rfl) rfl rfl rfl (.tmp rfl .nil)) ?_ (hL := ⟨eqR ?_, ⟨eqR ?_, trivial⟩⟩) <;> (try clear ih0) <;> (try clear ih1)
      all_goals (((have et : setF (fs ++ (a1.take n).map (hdF (tgdW fs a0 a1 b))) = tgdF fs a0 a1 b := (by rw [List.take_of_length_le (by omega)]; rfl)); have en : (exN a0 a1).length = (selV false (setI (varsL a0)) (setI (varsL a1))).length := rfl; have eN : nnI fs = nextN (setI (nulV (flatT fs))) := rfl; (have e8 := trg_over (rs := rs) (fs := fs) (a0 := a0) (a1 := a1) (a2 := a2) (a3 := a3) (a4 := a4) (v := b) ea eb (by exact tgdO_hi (by omega)); first | (rw [e8.1]; done) | (rw [e8.2.1]; done) | (rw [e8.2.2]; rfl))))
theorem c_impl_FirstStep (rs : Rels) (fs : Atoms) (ds : List Dep) (hrs : rs.length ≤ 1048576) (hsz : szS (fun (x : Int × (List (Int))) => (x.2).length) fs + szS (fun (x : (List (Int × (List (Int)))) × (List (Int × (List (Int)))) × Bool × Int × Int) => (szS (fun (x : Int × (List (Int))) => (x.2).length) (x.1)) + (szS (fun (x : Int × (List (Int))) => (x.2).length) (x.2.1))) ds ≤ 1048576) (ho : ∀ z ∈ fs, ∀ x ∈ z.2, okI x) (hod : ∀ d ∈ ds, ∀ z ∈ d.1, ∀ x ∈ z.2, okI x) (hoe : ∀ d ∈ ds, ∀ z ∈ d.2.1, ∀ x ∈ z.2, okI x) : PuE Tryz.prog 23 [.agg [.t none (.sl 3 (enS3 encS encI encB) (rs)), .t none (.sl 2 (enS2 encI (enSl 1 encI)) (fs))], .c (.t none (.sl 5 (enS5 (enSl 2 (enS2 encI (enSl 1 encI))) (enSl 2 (enS2 encI (enSl 1 encI))) encB encI encI) (ds)))] (fun et => [(3, some (.row none et true 1 encI (vioB rs fs ds))), (4, some (.row none 119 true 3 (enS3 encS encI encB) (fstR rs fs ds))), (5, some (.row none 85 true 2 (enS2 encI (enSl 1 encI)) (fstS rs fs ds)))]) 6 (.tup [(true, [.own 4, .own 5]), (true, [.t none (.v (.int .i64 (vioI rs fs ds))), .own 3]), (false, [.t none (.v (.int .i64 (fstC rs fs ds)))])]) := by
 refine pu_enterE Tryz.func23 rfl (Nat.le_of_ble_eq_true rfl) fun w S => ?_
 have gl := sz_len (f := (fun (x : (List (Int × (List (Int)))) × (List (Int × (List (Int)))) × Bool × Int × Int) => (szS (fun (x : Int × (List (Int))) => (x.2).length) (x.1)) + (szS (fun (x : Int × (List (Int))) => (x.2).length) (x.2.1)))) (l := ds); have gv := vioB_len (rs := rs) (fs := fs) (ds := ds); have go := vioB_ok (rs := rs) (ds := ds) ho; have gi : vioOk rs fs ds = true → 0 ≤ vioI rs fs ds ∧ vioI rs fs ds < ds.length := vio_idx
 refine tsr ?_
 refine r_op (o_box 0 rfl rfl rfl rfl) ?_
 refine r_op (o_alloc 1 (zs := [.slice none 0 0, .slice none 0 0]) rfl rfl (by kernel_rfl) rfl) ?_
 refine r_op (o_alloc 2 (zs := [.int .i64 (0), .slice none 0 0]) rfl rfl (by kernel_rfl) rfl) ?_
 refine rA<|etr ?_
 refine rC 2 ?_
 refine rM ?_
 refine r_opE (o_callE 3 4 (en Tryz.func69) (c_impl_FirstViolation (rs) (fs) (ds) (by omega) (by omega) (by omega) (by omega) (by omega)) rfl (.cons rfl (.agg (.cons .t0 (.cons .t0 .nil))) (.cons rfl (.c .t0) .nil)) (fun _ => rfl) rfl rfl) fun e1 => ?_
 refine rM ?_
 refine r_op (o_extract rfl rfl rfl rfl) ?_
 refine r_op (o_extract rfl rfl rfl rfl) ?_
 refine r_op (o_extract rfl rfl rfl rfl) ?_
 refine rA ?_
 refine rA ?_
 refine rA<|r_end<|t_seq<|tsr ?_
 refine rM ?_
 refine r_op (o_not rfl rfl) ?_
 refine r_end ?_
 refine t_cond rfl (fun h2 => ?_) (fun h2 => ?_)
 ·
  have h2' := (bnt h2)
  refine tsr<|rC 2 ?_
  refine r_op (o_call 4 8 false (en Tryz.func53) (c_impl_instanceCopy (rs) (fs) (by omega) (by omega)) rfl (.cons rfl (.agg (.cons .t0 (.cons .t0 .nil))) .nil) rfl rfl rfl) ?_
  refine r_op (o_build rfl (pl := [(0, 1), (1, 1)]) (zs := [.int .i64 (0), .slice none 0 0]) (by kernel_rfl) (by kernel_rfl) rfl rfl rfl) ?_
  refine rS 2 ?_
  refine rS 2 ?_
  refine rA<|r_end ?_
  refine gt_nilb 8 (b := 2) (o := 1) (et := 3) (sz := 1) true encI rfl rfl rfl ?_
  refine gt_mv 4 6 rfl rfl rfl ?_
  refine gt_mv 5 7 rfl rfl rfl ?_
  refine gt_mv 3 8 rfl rfl rfl ?_
  refine t_ret Tryz.func23 (.cells (n := 2) (by kernel_rfl) (by kernel_rfl) rfl rfl rfl (.cells (n := 2) (by kernel_rfl) (by kernel_rfl) rfl rfl rfl (.tmp rfl .nil))) rfl fun E S w u hI hd => ?_
  refine ⟨_, post_mk hI hd ?_ ⟨eqR ?_, ⟨eqR ?_, ⟨eqR ?_, trivial⟩⟩⟩ rfl rfl rfl⟩ <;> clear hI hd
  all_goals ((have e8 := fst_no (rs := rs) (fs := fs) (ds := ds) (by assumption); first | (rw [e8.1]; done) | (rw [e8.2.1]; done) | (rw [e8.2.2.2.2]; done) | (rw [e8.2.2.1, e8.2.2.2.1]; rfl)))
 ·
  have h2' := (bnf h2)
  refine t_skip<|t_seq ?_
  refine t_draw (fun i => !(Nat.beq i 11)) (by kernel_rfl) ?_
  refine dT 0 rfl (pC 2) ?_
  refine dT 1 rfl pM ?_
  refine dT 2 rfl pM ?_
  obtain ⟨z3, hz4, b5⟩ := at_get (xs := ds) (n := vioI (rs) (fs) (ds)) (by (have e7 := gi (by assumption); omega)) (by (have e7 := gi (by assumption); omega))
  refine dT 3 rfl (p_index (by kernel_rfl) rfl rfl b5 hz4) ?_
  refine dT 4 rfl (p_loadA (n := 5) (by kernel_rfl) (by kernel_rfl) rfl rfl) ?_
  refine dT 5 rfl pM ?_
  refine d_two 6 10 rfl rfl (by kernel_rfl) rfl rfl (o_call 4 10 false (en Tryz.func12) (c_impl_ApplyTrigger (rs) (fs) (z3.1) (z3.2.1) (z3.2.2.1) (z3.2.2.2.1) (z3.2.2.2.2) (vioB (rs) (fs) (ds)) (by omega) (by (have e1 := sz_mem (f := (fun (x : (List (Int × (List (Int)))) × (List (Int × (List (Int)))) × Bool × Int × Int) => (szS (fun (x : Int × (List (Int))) => (x.2).length) (x.1)) + (szS (fun (x : Int × (List (Int))) => (x.2).length) (x.2.1)))) (l := ds) (List.mem_of_getElem? (by assumption)); (try dsimp only at e1); omega)) (by omega) (by exact hod _ (List.mem_of_getElem? (by assumption))) (by exact hoe _ (List.mem_of_getElem? (by assumption))) (by omega) (by omega)) rfl (.cons rfl (.agg (.cons .t0 (.cons .t0 .nil))) (.cons rfl (.agg (.cons .t0 (.cons .t0 (.cons .t0 (.cons .t0 (.cons .t0 .nil)))))) (.cons rfl (.c (.own rfl)) .nil))) rfl rfl rfl) (o_alloc 4 (zs := [.slice none 0 0, .slice none 0 0]) rfl rfl (by kernel_rfl) rfl) ?_ ?_
  ·
   refine dT 7 rfl pM ?_
   refine dT 8 rfl (p_extract rfl rfl rfl) ?_
   refine d_two 9 10 rfl rfl (by kernel_rfl) rfl rfl (o_extract rfl rfl rfl rfl) (o_alloc 10 (zs := [.slice none 0 0, .slice none 0 0]) rfl rfl (by kernel_rfl) rfl) ?_ ?_
   ·
    refine dO 10 rfl (o_alloc 10 (zs := [.slice none 0 0, .slice none 0 0]) rfl rfl (by kernel_rfl) rfl) ?_
    refine dO 11 rfl (oS 2) ?_
    refine dT 12 rfl pA ?_
    refine d_end (by kernel_rfl) ?_
    refine tsr<|rC 2 ?_
    refine rM ?_
    refine rM ?_
    refine r_op (o_build rfl (pl := [(0, 1), (1, 1)]) (zs := [.int .i64 (0), .slice none 0 0]) (by kernel_rfl) (by kernel_rfl) rfl rfl rfl) ?_
    refine rM ?_
    refine rS 2 ?_
    refine rS 2 ?_
    refine rA<|r_end ?_
    refine gt_mv 4 8 rfl rfl rfl ?_
    refine gt_mv 5 9 rfl rfl rfl ?_
    refine t_ret Tryz.func23 (.cells (n := 2) (by kernel_rfl) (by kernel_rfl) rfl rfl rfl (.cells (n := 2) (by kernel_rfl) (by kernel_rfl) rfl rfl rfl (.tmp rfl .nil))) rfl fun E S w u hI hd => ?_
    refine ⟨_, post_mk hI hd ?_ ⟨eqR ?_, ⟨eqR ?_, ⟨eqR ?_, trivial⟩⟩⟩ rfl rfl rfl⟩ <;> clear hI hd
    all_goals first | rfl | ((have e8 := fst_yes (rs := rs) (fs := fs) (ds := ds) (by assumption) hz4; first | (rw [e8.1]; done) | (rw [e8.2.1]; done) | (rw [e8.2.2]; rfl)))
   ·
    refine d_two 9 11 rfl rfl (by kernel_rfl) rfl rfl (o_extract rfl rfl rfl rfl) (oS 2) ?_ ?_
    ·
     refine dO 11 rfl (oS 2) ?_
     refine dT 12 rfl pA ?_
     refine d_end (by kernel_rfl) ?_
     refine tsr<|rC 2 ?_
     refine rM ?_
     refine rM ?_
     refine r_op (o_build rfl (pl := [(0, 1), (1, 1)]) (zs := [.int .i64 (0), .slice none 0 0]) (by kernel_rfl) (by kernel_rfl) rfl rfl rfl) ?_
     refine rM ?_
     refine rS 2 ?_
     refine rS 2 ?_
     refine rA<|r_end ?_
     refine gt_mv 4 8 rfl rfl rfl ?_
     refine gt_mv 5 9 rfl rfl rfl ?_
     refine t_ret Tryz.func23 (.cells (n := 2) (by kernel_rfl) (by kernel_rfl) rfl rfl rfl (.cells (n := 2) (by kernel_rfl) (by kernel_rfl) rfl rfl rfl (.tmp rfl .nil))) rfl fun E S w u hI hd => ?_
     refine ⟨_, post_mk hI hd ?_ ⟨eqR ?_, ⟨eqR ?_, ⟨eqR ?_, trivial⟩⟩⟩ rfl rfl rfl⟩ <;> clear hI hd
     all_goals first | rfl | ((have e8 := fst_yes (rs := rs) (fs := fs) (ds := ds) (by assumption) hz4; first | (rw [e8.1]; done) | (rw [e8.2.1]; done) | (rw [e8.2.2]; rfl)))
    ·
     refine dT 9 rfl (p_extract rfl rfl rfl) ?_
     refine dT 12 rfl pA ?_
     refine d_end (by kernel_rfl) ?_
     refine tsr<|rC 2 ?_
     refine rM ?_
     refine rM ?_
     refine r_op (o_build rfl (pl := [(0, 1), (1, 1)]) (zs := [.int .i64 (0), .slice none 0 0]) (by kernel_rfl) (by kernel_rfl) rfl rfl rfl) ?_
     refine rM ?_
     refine rS 2 ?_
     refine rS 2 ?_
     refine rA<|r_end ?_
     refine gt_mv 4 8 rfl rfl rfl ?_
     refine gt_mv 5 9 rfl rfl rfl ?_
     refine t_ret Tryz.func23 (.cells (n := 2) (by kernel_rfl) (by kernel_rfl) rfl rfl rfl (.cells (n := 2) (by kernel_rfl) (by kernel_rfl) rfl rfl rfl (.tmp rfl .nil))) rfl fun E S w u hI hd => ?_
     refine ⟨_, post_mk hI hd ?_ ⟨eqR ?_, ⟨eqR ?_, ⟨eqR ?_, trivial⟩⟩⟩ rfl rfl rfl⟩ <;> clear hI hd
     all_goals first | rfl | ((have e8 := fst_yes (rs := rs) (fs := fs) (ds := ds) (by assumption) hz4; first | (rw [e8.1]; done) | (rw [e8.2.1]; done) | (rw [e8.2.2]; rfl)))
  ·
   refine dO 6 rfl (o_call 5 11 false (en Tryz.func12) (c_impl_ApplyTrigger (rs) (fs) (z3.1) (z3.2.1) (z3.2.2.1) (z3.2.2.2.1) (z3.2.2.2.2) (vioB (rs) (fs) (ds)) (by omega) (by (have e1 := sz_mem (f := (fun (x : (List (Int × (List (Int)))) × (List (Int × (List (Int)))) × Bool × Int × Int) => (szS (fun (x : Int × (List (Int))) => (x.2).length) (x.1)) + (szS (fun (x : Int × (List (Int))) => (x.2).length) (x.2.1)))) (l := ds) (List.mem_of_getElem? (by assumption)); (try dsimp only at e1); omega)) (by omega) (by exact hod _ (List.mem_of_getElem? (by assumption))) (by exact hoe _ (List.mem_of_getElem? (by assumption))) (by omega) (by omega)) rfl (.cons rfl (.agg (.cons .t0 (.cons .t0 .nil))) (.cons rfl (.agg (.cons .t0 (.cons .t0 (.cons .t0 (.cons .t0 (.cons .t0 .nil)))))) (.cons rfl (.c (.own rfl)) .nil))) rfl rfl rfl) ?_
   refine dT 7 rfl pM ?_
   refine dT 8 rfl (p_extract rfl rfl rfl) ?_
   refine d_two 9 11 rfl rfl (by kernel_rfl) rfl rfl (o_extract rfl rfl rfl rfl) (oS 2) ?_ ?_
   ·
    refine dO 11 rfl (oS 2) ?_
    refine dT 12 rfl pA ?_
    refine d_end (by kernel_rfl) ?_
    refine tsr<|rC 2 ?_
    refine rM ?_
    refine rM ?_
    refine r_op (o_build rfl (pl := [(0, 1), (1, 1)]) (zs := [.int .i64 (0), .slice none 0 0]) (by kernel_rfl) (by kernel_rfl) rfl rfl rfl) ?_
    refine rM ?_
    refine rS 2 ?_
    refine rS 2 ?_
    refine rA<|r_end ?_
    refine gt_mv 4 9 rfl rfl rfl ?_
    refine gt_mv 5 10 rfl rfl rfl ?_
    refine t_ret Tryz.func23 (.cells (n := 2) (by kernel_rfl) (by kernel_rfl) rfl rfl rfl (.cells (n := 2) (by kernel_rfl) (by kernel_rfl) rfl rfl rfl (.tmp rfl .nil))) rfl fun E S w u hI hd => ?_
    refine ⟨_, post_mk hI hd ?_ ⟨eqR ?_, ⟨eqR ?_, ⟨eqR ?_, trivial⟩⟩⟩ rfl rfl rfl⟩ <;> clear hI hd
    all_goals first | rfl | ((have e8 := fst_yes (rs := rs) (fs := fs) (ds := ds) (by assumption) hz4; first | (rw [e8.1]; done) | (rw [e8.2.1]; done) | (rw [e8.2.2]; rfl)))
   ·
    refine dT 9 rfl (p_extract rfl rfl rfl) ?_
    refine dT 12 rfl pA ?_
    refine d_end (by kernel_rfl) ?_
    refine tsr<|rC 2 ?_
    refine rM ?_
    refine rM ?_
    refine r_op (o_build rfl (pl := [(0, 1), (1, 1)]) (zs := [.int .i64 (0), .slice none 0 0]) (by kernel_rfl) (by kernel_rfl) rfl rfl rfl) ?_
    refine rM ?_
    refine rS 2 ?_
    refine rS 2 ?_
    refine rA<|r_end ?_
    refine gt_mv 4 9 rfl rfl rfl ?_
    refine gt_mv 5 10 rfl rfl rfl ?_
    refine t_ret Tryz.func23 (.cells (n := 2) (by kernel_rfl) (by kernel_rfl) rfl rfl rfl (.cells (n := 2) (by kernel_rfl) (by kernel_rfl) rfl rfl rfl (.tmp rfl .nil))) rfl fun E S w u hI hd => ?_
    refine ⟨_, post_mk hI hd ?_ ⟨eqR ?_, ⟨eqR ?_, ⟨eqR ?_, trivial⟩⟩⟩ rfl rfl rfl⟩ <;> clear hI hd
    all_goals first | rfl | ((have e8 := fst_yes (rs := rs) (fs := fs) (ds := ds) (by assumption) hz4; first | (rw [e8.1]; done) | (rw [e8.2.1]; done) | (rw [e8.2.2]; rfl)))
theorem c_laws_eqRelation (a0 : List UInt8) (a1 : Int) (a2 : Bool) (b0 : List UInt8) (b1 : Int) (b2 : Bool) (hs : (a0).length ≤ 1048576) : Pu Tryz.prog 117 [.agg [.t none (.v (.string (mkS (a0)))), .t none (.v (.int .i64 (a1))), .t none (.v (.bool (a2)))], .agg [.t none (.v (.string (mkS (b0)))), .t none (.v (.int .i64 (b1))), .t none (.v (.bool (b2)))]] [] 0 (.c (.t none (.v (.bool (decide ((a0, a1, a2) = (b0, b1, b2))))))) := by
 refine pu_enter Tryz.func117 rfl (Nat.le_of_ble_eq_true rfl) fun w S => ?_
 refine tsr ?_
 refine r_op (o_box 0 rfl rfl rfl rfl) ?_
 refine r_op (o_box 1 rfl rfl rfl rfl) ?_
 refine rA<|r_end<|t_seq<|tsr ?_
 refine rF 0 ?_
 refine rL ?_
 refine rF 0 ?_
 refine rL ?_
 refine r_op (o_str rfl rfl rfl rfl) ?_
 refine r_end ?_
 refine t_cond rfl (fun h1 => ?_) (fun h1 => ?_)
 ·
  have h1' := of_decide_eq_true h1
  refine tsr<|rA<|r_end ?_
  refine tk Tryz.func117 (.tmp rfl .nil) ?_
  all_goals (simp_all)
 ·
  have h1' := of_decide_eq_false h1
  refine t_skip<|t_seq<|tsr<|rF 1 ?_
  refine rL ?_
  refine rF 1 ?_
  refine rL ?_
  refine rB<|r_end ?_
  refine t_cond rfl (fun h2 => ?_) (fun h2 => ?_)
  ·
   have h2' := of_decide_eq_true h2
   refine tsr<|rA<|r_end ?_
   refine tk Tryz.func117 (.tmp rfl .nil) ?_
   all_goals (simp_all)
  ·
   have h2' := of_decide_eq_false h2
   refine t_skip<|t_seq<|tsr<|rF 2 ?_
   refine rL ?_
   refine rF 2 ?_
   refine rL ?_
   refine r_op (o_neB rfl Tryz.underlying4 rfl rfl) ?_
   refine r_end ?_
   refine t_cond rfl (fun h3 => ?_) (fun h3 => ?_)
   ·
    have h3' := h3
    refine tsr<|rA<|r_end ?_
    refine tk Tryz.func117 (.tmp rfl .nil) ?_
    all_goals (simp_all)
   ·
    have h3' := h3
    refine t_skip<|tsr<|rA<|r_end ?_
    refine tk Tryz.func117 (.tmp rfl .nil) ?_
    all_goals (simp_all)
theorem c_laws_eqRelationS (a b : List (List UInt8 × Int × Bool)) (hs : szS (fun (x : List UInt8 × Int × Bool) => (x.1).length) a ≤ 1048576) : Pu Tryz.prog 60 [.c (.t none (.sl 3 (enS3 encS encI encB) (a))), .c (.t none (.sl 3 (enS3 encS encI encB) (b)))] [] 0 (.c (.t none (.v (.bool (decide (a = b)))))) := by
 refine pu_enter Tryz.func60 rfl (Nat.le_of_ble_eq_true rfl) fun w S => ?_
 have gl := sz_len (f := (fun (x : List UInt8 × Int × Bool) => (x.1).length)) (l := a)
 refine tsr<|rA<|r_end<|t_seq<|tsr ?_
 refine rM ?_
 refine r_op (o_len rfl rfl rfl) ?_
 refine rM ?_
 refine r_op (o_len rfl rfl rfl) ?_
 refine rB<|r_end ?_
 refine t_cond rfl (fun h1 => ?_) (fun h1 => ?_)
 ·
  have h1' := of_decide_eq_true h1
  refine tsr<|rA<|r_end ?_
  refine tk Tryz.func60 (.tmp rfl .nil) ?_ <;> (try clear ih0)
  all_goals ((have : a ≠ b := by rintro rfl; simp at *); simp [this])
 ·
  have h1' := of_decide_eq_false h1
  refine t_skip<|t_seq<|tsr<|rA<|r_end<|t_block ?_
  refine t_loopL (fun m => ⟨[(0, some (.c (.t none (.sl 3 (enS3 encS encI encB) (a))))), (1, some (.c (.t none (.sl 3 (enS3 encS encI encB) (b))))), (5, some (.c (.t none (.v (.int .i64 ((m : Int)))))))], [], 0⟩ : Nat → St) (fun m => m ≤ a.length ∧ a.length = b.length ∧ a.take m = b.take m) (fun m => a.length - m) 0 ⟨⟨rfl, ⟨rfl, ⟨rfl, trivial⟩⟩⟩, trivial, rfl⟩ (by exact ⟨Nat.zero_le _, by omega, rfl⟩) ?_
  rintro m hI ih0
  try dsimp only at hI ih0
  obtain ⟨i1, i2, i3⟩ := hI
  refine t_seq<|tsr<|rM ?_
  refine rM ?_
  refine r_op (o_len rfl rfl rfl) ?_
  refine rB<|r_end ?_
  refine t_cond rfl (fun h2 => ?_) (fun h2 => ?_)
  ·
   have h2' := of_decide_eq_true h2
   refine t_skip<|t_seq<|t_block<|t_seq ?_
   refine t_draw (fun _ => true) (by kernel_rfl) ?_
   refine dT 0 rfl pM ?_
   refine dT 1 rfl pM ?_
   obtain ⟨z3, hz4, b5⟩ := at_get (xs := a) (n := (m : Int)) (by omega) (by omega)
   refine dT 2 rfl (p_index (by kernel_rfl) rfl rfl b5 hz4) ?_
   refine dT 3 rfl (p_loadA (n := 3) (by kernel_rfl) (by kernel_rfl) rfl rfl) ?_
   refine dT 4 rfl pM ?_
   refine dT 5 rfl pM ?_
   obtain ⟨z6, hz7, b8⟩ := at_get (xs := b) (n := (m : Int)) (by omega) (by omega)
   refine dT 6 rfl (p_index (by kernel_rfl) rfl rfl b8 hz7) ?_
   refine dT 7 rfl (p_loadA (n := 3) (by kernel_rfl) (by kernel_rfl) rfl rfl) ?_
   refine dO 8 rfl (o_call 0 0 false (en Tryz.func117) (c_laws_eqRelation (z3.1) (z3.2.1) (z3.2.2) (z6.1) (z6.2.1) (z6.2.2) (by (have e1 := sz_at (f := (fun (x : List UInt8 × Int × Bool) => (x.1).length)) (l := a) (m := m) (by assumption); (try dsimp only at e1); omega))) rfl (.cons rfl (.agg (.cons .t0 (.cons .t0 (.cons .t0 .nil)))) (.cons rfl (.agg (.cons .t0 (.cons .t0 (.cons .t0 .nil)))) .nil)) rfl rfl rfl) ?_
   refine dT 9 rfl (p_not rfl) ?_
   refine d_end (by kernel_rfl) ?_
   refine t_cond rfl (fun h9 => ?_) (fun h9 => ?_)
   ·
    have h9' := of_decide_eq_false (bnt h9)
    refine tsr<|rA<|r_end ?_
    refine tk Tryz.func60 (.tmp rfl .nil) ?_ <;> (try clear ih0)
    all_goals (have := ne_at (a := a) (b := b) (by assumption) (by assumption) (by assumption); simp_all)
   ·
    have h9' := of_decide_eq_true (bnf h9)
    refine t_skip<|t_endblock<|t_region<|rM ?_
    refine rB ?_
    refine rA<|r_end ?_
    refine t_le ?_ (ih0 (m + 1) (by (try dsimp only); omega) (by (try dsimp only); exact ⟨by omega, i2, take_same i3 (same_at (by assumption) (by assumption) (by assumption))⟩))
    exact ⟨⟨rfl, ⟨rfl, ⟨(eqI (wrS (by omega))), trivial⟩⟩⟩, trivial, rfl⟩
  ·
   have h2' := of_decide_eq_false h2
   refine t_exit rfl<|tsr<|rA<|r_end ?_
   refine tk Tryz.func60 (.tmp rfl .nil) ?_ <;> (try clear ih0)
   all_goals ((obtain rfl : m = a.length := by omega); rw [List.take_length, i2, List.take_length] at i3; simp [i3])
theorem c_laws_eqIntS (a b : List Int) (ha : a.length < 4611686018427387904) : Pu Tryz.prog 15 [.c (.t none (.sl 1 encI (a))), .c (.t none (.sl 1 encI (b)))] [] 0 (.c (.t none (.v (.bool (decide (a = b)))))) := by
 refine pu_enter Tryz.func15 rfl (Nat.le_of_ble_eq_true rfl) fun w S => ?_
 refine tsr<|rA<|r_end<|t_seq<|tsr ?_
 refine rM ?_
 refine r_op (o_len rfl rfl rfl) ?_
 refine rM ?_
 refine r_op (o_len rfl rfl rfl) ?_
 refine rB<|r_end ?_
 refine t_cond rfl (fun h1 => ?_) (fun h1 => ?_)
 ·
  have h1' := of_decide_eq_true h1
  refine tsr<|rA<|r_end ?_
  refine tk Tryz.func15 (.tmp rfl .nil) ?_ <;> (try clear ih0)
  all_goals ((have : a ≠ b := by rintro rfl; simp at *); simp [this])
 ·
  have h1' := of_decide_eq_false h1
  refine t_skip<|t_seq<|tsr<|rA<|r_end<|t_block ?_
  refine t_loopL (fun m => ⟨[(0, some (.c (.t none (.sl 1 encI (a))))), (1, some (.c (.t none (.sl 1 encI (b))))), (5, some (.c (.t none (.v (.int .i64 ((m : Int)))))))], [], 0⟩ : Nat → St) (fun m => m ≤ a.length ∧ a.length = b.length ∧ a.take m = b.take m) (fun m => a.length - m) 0 ⟨⟨rfl, ⟨rfl, ⟨rfl, trivial⟩⟩⟩, trivial, rfl⟩ (by exact ⟨Nat.zero_le _, by omega, rfl⟩) ?_
  rintro m hI ih0
  try dsimp only at hI ih0
  obtain ⟨i1, i2, i3⟩ := hI
  refine t_seq<|tsr<|rM ?_
  refine rM ?_
  refine r_op (o_len rfl rfl rfl) ?_
  refine rB<|r_end ?_
  refine t_cond rfl (fun h2 => ?_) (fun h2 => ?_)
  ·
   have h2' := of_decide_eq_true h2
   refine t_skip<|t_seq<|t_block<|t_seq ?_
   refine t_draw (fun _ => true) (by kernel_rfl) ?_
   refine dT 0 rfl pM ?_
   refine dT 1 rfl pM ?_
   obtain ⟨z3, hz4, b5⟩ := at_get (xs := a) (n := (m : Int)) (by omega) (by omega)
   refine dT 2 rfl (p_index (by kernel_rfl) rfl rfl b5 hz4) ?_
   refine dT 3 rfl (p_load1 (by kernel_rfl) rfl rfl) ?_
   refine dT 4 rfl pM ?_
   refine dT 5 rfl pM ?_
   obtain ⟨z6, hz7, b8⟩ := at_get (xs := b) (n := (m : Int)) (by omega) (by omega)
   refine dT 6 rfl (p_index (by kernel_rfl) rfl rfl b8 hz7) ?_
   refine dT 7 rfl (p_load1 (by kernel_rfl) rfl rfl) ?_
   refine dT 8 rfl pB ?_
   refine d_end (by kernel_rfl) ?_
   refine t_cond rfl (fun h9 => ?_) (fun h9 => ?_)
   ·
    have h9' := of_decide_eq_true h9
    refine tsr<|rA<|r_end ?_
    refine tk Tryz.func15 (.tmp rfl .nil) ?_ <;> (try clear ih0)
    all_goals (have := ne_at (a := a) (b := b) (by assumption) (by assumption) (by assumption); simp_all)
   ·
    have h9' := of_decide_eq_false h9
    refine t_skip<|t_endblock<|t_region<|rM ?_
    refine rB ?_
    refine rA<|r_end ?_
    refine t_le ?_ (ih0 (m + 1) (by (try dsimp only); omega) (by (try dsimp only); refine ⟨by omega, i2, take_same i3 ?_⟩; simp_all))
    exact ⟨⟨rfl, ⟨rfl, ⟨(eqI (wrS (by omega))), trivial⟩⟩⟩, trivial, rfl⟩
  ·
   have h2' := of_decide_eq_false h2
   refine t_exit rfl<|tsr<|rA<|r_end ?_
   refine tk Tryz.func15 (.tmp rfl .nil) ?_ <;> (try clear ih0)
   all_goals ((obtain rfl : m = a.length := by omega); rw [List.take_length, i2, List.take_length] at i3; simp [i3])
theorem c_laws_eqFact (a0 : Int) (a1 : List (Int)) (b0 : Int) (b1 : List (Int)) (hs : (a1).length ≤ 1048576) : Pu Tryz.prog 118 [.agg [.t none (.v (.int .i64 (a0))), .t none (.sl 1 encI (a1))], .agg [.t none (.v (.int .i64 (b0))), .t none (.sl 1 encI (b1))]] [] 0 (.c (.t none (.v (.bool (decide ((a0, a1) = (b0, b1))))))) := by
 refine pu_enter Tryz.func118 rfl (Nat.le_of_ble_eq_true rfl) fun w S => ?_
 refine tsr ?_
 refine r_op (o_box 0 rfl rfl rfl rfl) ?_
 refine r_op (o_box 1 rfl rfl rfl rfl) ?_
 refine rA<|r_end<|t_seq<|tsr ?_
 refine rF 0 ?_
 refine rL ?_
 refine rF 0 ?_
 refine rL ?_
 refine rB<|r_end ?_
 refine t_cond rfl (fun h1 => ?_) (fun h1 => ?_)
 ·
  have h1' := of_decide_eq_true h1
  refine tsr<|rA<|r_end ?_
  refine tk Tryz.func118 (.tmp rfl .nil) ?_
  all_goals (simp_all)
 ·
  have h1' := of_decide_eq_false h1
  refine t_skip<|t_seq<|tsr<|rF 1 ?_
  refine rL ?_
  refine rF 1 ?_
  refine rL ?_
  refine r_op (o_call 2 2 false (en Tryz.func15) (c_laws_eqIntS (a1) (b1) (by omega)) rfl (.cons rfl (.c .t0) (.cons rfl (.c .t0) .nil)) rfl rfl rfl) ?_
  refine r_op (o_not rfl rfl) ?_
  refine r_end ?_
  refine t_cond rfl (fun h2 => ?_) (fun h2 => ?_)
  ·
   have h2' := of_decide_eq_false (bnt h2)
   refine tsr<|rA<|r_end ?_
   refine tk Tryz.func118 (.tmp rfl .nil) ?_
   all_goals (simp_all)
  ·
   have h2' := of_decide_eq_true (bnf h2)
   refine t_skip<|tsr<|rA<|r_end ?_
   refine tk Tryz.func118 (.tmp rfl .nil) ?_
   all_goals (simp_all)
theorem c_laws_eqFactS (a b : List (Int × (List (Int)))) (hs : szS (fun (x : Int × (List (Int))) => (x.2).length) a ≤ 1048576) : Pu Tryz.prog 61 [.c (.t none (.sl 2 (enS2 encI (enSl 1 encI)) (a))), .c (.t none (.sl 2 (enS2 encI (enSl 1 encI)) (b)))] [] 0 (.c (.t none (.v (.bool (decide (a = b)))))) := by
 refine pu_enter Tryz.func61 rfl (Nat.le_of_ble_eq_true rfl) fun w S => ?_
 have gl := sz_len (f := (fun (x : Int × (List (Int))) => (x.2).length)) (l := a)
 refine tsr<|rA<|r_end<|t_seq<|tsr ?_
 refine rM ?_
 refine r_op (o_len rfl rfl rfl) ?_
 refine rM ?_
 refine r_op (o_len rfl rfl rfl) ?_
 refine rB<|r_end ?_
 refine t_cond rfl (fun h1 => ?_) (fun h1 => ?_)
 ·
  have h1' := of_decide_eq_true h1
  refine tsr<|rA<|r_end ?_
  refine tk Tryz.func61 (.tmp rfl .nil) ?_ <;> (try clear ih0)
  all_goals ((have : a ≠ b := by rintro rfl; simp at *); simp [this])
 ·
  have h1' := of_decide_eq_false h1
  refine t_skip<|t_seq<|tsr<|rA<|r_end<|t_block ?_
  refine t_loopL (fun m => ⟨[(0, some (.c (.t none (.sl 2 (enS2 encI (enSl 1 encI)) (a))))), (1, some (.c (.t none (.sl 2 (enS2 encI (enSl 1 encI)) (b))))), (5, some (.c (.t none (.v (.int .i64 ((m : Int)))))))], [], 0⟩ : Nat → St) (fun m => m ≤ a.length ∧ a.length = b.length ∧ a.take m = b.take m) (fun m => a.length - m) 0 ⟨⟨rfl, ⟨rfl, ⟨rfl, trivial⟩⟩⟩, trivial, rfl⟩ (by exact ⟨Nat.zero_le _, by omega, rfl⟩) ?_
  rintro m hI ih0
  try dsimp only at hI ih0
  obtain ⟨i1, i2, i3⟩ := hI
  refine t_seq<|tsr<|rM ?_
  refine rM ?_
  refine r_op (o_len rfl rfl rfl) ?_
  refine rB<|r_end ?_
  refine t_cond rfl (fun h2 => ?_) (fun h2 => ?_)
  ·
   have h2' := of_decide_eq_true h2
   refine t_skip<|t_seq<|t_block<|t_seq ?_
   refine t_draw (fun _ => true) (by kernel_rfl) ?_
   refine dT 0 rfl pM ?_
   refine dT 1 rfl pM ?_
   obtain ⟨z3, hz4, b5⟩ := at_get (xs := a) (n := (m : Int)) (by omega) (by omega)
   refine dT 2 rfl (p_index (by kernel_rfl) rfl rfl b5 hz4) ?_
   refine dT 3 rfl (p_loadA (n := 2) (by kernel_rfl) (by kernel_rfl) rfl rfl) ?_
   refine dT 4 rfl pM ?_
   refine dT 5 rfl pM ?_
   obtain ⟨z6, hz7, b8⟩ := at_get (xs := b) (n := (m : Int)) (by omega) (by omega)
   refine dT 6 rfl (p_index (by kernel_rfl) rfl rfl b8 hz7) ?_
   refine dT 7 rfl (p_loadA (n := 2) (by kernel_rfl) (by kernel_rfl) rfl rfl) ?_
   refine dO 8 rfl (o_call 0 0 false (en Tryz.func118) (c_laws_eqFact (z3.1) (z3.2) (z6.1) (z6.2) (by (have e1 := sz_at (f := (fun (x : Int × (List (Int))) => (x.2).length)) (l := a) (m := m) (by assumption); (try dsimp only at e1); omega))) rfl (.cons rfl (.agg (.cons .t0 (.cons .t0 .nil))) (.cons rfl (.agg (.cons .t0 (.cons .t0 .nil))) .nil)) rfl rfl rfl) ?_
   refine dT 9 rfl (p_not rfl) ?_
   refine d_end (by kernel_rfl) ?_
   refine t_cond rfl (fun h9 => ?_) (fun h9 => ?_)
   ·
    have h9' := of_decide_eq_false (bnt h9)
    refine tsr<|rA<|r_end ?_
    refine tk Tryz.func61 (.tmp rfl .nil) ?_ <;> (try clear ih0)
    all_goals (have := ne_at (a := a) (b := b) (by assumption) (by assumption) (by assumption); simp_all)
   ·
    have h9' := of_decide_eq_true (bnf h9)
    refine t_skip<|t_endblock<|t_region<|rM ?_
    refine rB ?_
    refine rA<|r_end ?_
    refine t_le ?_ (ih0 (m + 1) (by (try dsimp only); omega) (by (try dsimp only); exact ⟨by omega, i2, take_same i3 (same_at (by assumption) (by assumption) (by assumption))⟩))
    exact ⟨⟨rfl, ⟨rfl, ⟨(eqI (wrS (by omega))), trivial⟩⟩⟩, trivial, rfl⟩
  ·
   have h2' := of_decide_eq_false h2
   refine t_exit rfl<|tsr<|rA<|r_end ?_
   refine tk Tryz.func61 (.tmp rfl .nil) ?_ <;> (try clear ih0)
   all_goals ((obtain rfl : m = a.length := by omega); rw [List.take_length, i2, List.take_length] at i3; simp [i3])
theorem c_laws_eqInstance (a0 : List (List UInt8 × Int × Bool)) (a1 : List (Int × (List (Int)))) (b0 : List (List UInt8 × Int × Bool)) (b1 : List (Int × (List (Int)))) (hs : (szS (fun (x : List UInt8 × Int × Bool) => (x.1).length) (a0)) + (szS (fun (x : Int × (List (Int))) => (x.2).length) (a1)) ≤ 1048576) : Pu Tryz.prog 13 [.agg [.t none (.sl 3 (enS3 encS encI encB) (a0)), .t none (.sl 2 (enS2 encI (enSl 1 encI)) (a1))], .agg [.t none (.sl 3 (enS3 encS encI encB) (b0)), .t none (.sl 2 (enS2 encI (enSl 1 encI)) (b1))]] [] 0 (.c (.t none (.v (.bool (decide ((a0, a1) = (b0, b1))))))) := by
 refine pu_enter Tryz.func13 rfl (Nat.le_of_ble_eq_true rfl) fun w S => ?_
 refine tsr ?_
 refine r_op (o_box 0 rfl rfl rfl rfl) ?_
 refine r_op (o_box 1 rfl rfl rfl rfl) ?_
 refine rA<|r_end<|t_seq<|tsr ?_
 refine rF 0 ?_
 refine rL ?_
 refine rF 0 ?_
 refine rL ?_
 refine r_op (o_call 2 2 false (en Tryz.func60) (c_laws_eqRelationS (a0) (b0) (by omega)) rfl (.cons rfl (.c .t0) (.cons rfl (.c .t0) .nil)) rfl rfl rfl) ?_
 refine r_op (o_not rfl rfl) ?_
 refine r_end ?_
 refine t_cond rfl (fun h1 => ?_) (fun h1 => ?_)
 ·
  have h1' := of_decide_eq_false (bnt h1)
  refine tsr<|rA<|r_end ?_
  refine tk Tryz.func13 (.tmp rfl .nil) ?_
  all_goals (simp_all)
 ·
  have h1' := of_decide_eq_true (bnf h1)
  refine t_skip<|t_seq<|tsr<|rF 1 ?_
  refine rL ?_
  refine rF 1 ?_
  refine rL ?_
  refine r_op (o_call 2 2 false (en Tryz.func61) (c_laws_eqFactS (a1) (b1) (by omega)) rfl (.cons rfl (.c .t0) (.cons rfl (.c .t0) .nil)) rfl rfl rfl) ?_
  refine r_op (o_not rfl rfl) ?_
  refine r_end ?_
  refine t_cond rfl (fun h2 => ?_) (fun h2 => ?_)
  ·
   have h2' := of_decide_eq_false (bnt h2)
   refine tsr<|rA<|r_end ?_
   refine tk Tryz.func13 (.tmp rfl .nil) ?_
   all_goals (simp_all)
  ·
   have h2' := of_decide_eq_true (bnf h2)
   refine t_skip<|tsr<|rA<|r_end ?_
   refine tk Tryz.func13 (.tmp rfl .nil) ?_
   all_goals (simp_all)
theorem c_laws_eqChaseStep (a0 : Int) (a1 : List (Int)) (b0 : Int) (b1 : List (Int)) (hs : (a1).length ≤ 1048576) : Pu Tryz.prog 24 [.agg [.t none (.v (.int .i64 (a0))), .t none (.sl 1 encI (a1))], .agg [.t none (.v (.int .i64 (b0))), .t none (.sl 1 encI (b1))]] [] 0 (.c (.t none (.v (.bool (decide ((a0, a1) = (b0, b1))))))) := by
 refine pu_enter Tryz.func24 rfl (Nat.le_of_ble_eq_true rfl) fun w S => ?_
 refine tsr ?_
 refine r_op (o_box 0 rfl rfl rfl rfl) ?_
 refine r_op (o_box 1 rfl rfl rfl rfl) ?_
 refine rA<|r_end<|t_seq<|tsr ?_
 refine rF 0 ?_
 refine rL ?_
 refine rF 0 ?_
 refine rL ?_
 refine rB<|r_end ?_
 refine t_cond rfl (fun h1 => ?_) (fun h1 => ?_)
 ·
  have h1' := of_decide_eq_true h1
  refine tsr<|rA<|r_end ?_
  refine tk Tryz.func24 (.tmp rfl .nil) ?_
  all_goals (simp_all)
 ·
  have h1' := of_decide_eq_false h1
  refine t_skip<|t_seq<|tsr<|rF 1 ?_
  refine rL ?_
  refine rF 1 ?_
  refine rL ?_
  refine r_op (o_call 2 2 false (en Tryz.func15) (c_laws_eqIntS (a1) (b1) (by omega)) rfl (.cons rfl (.c .t0) (.cons rfl (.c .t0) .nil)) rfl rfl rfl) ?_
  refine r_op (o_not rfl rfl) ?_
  refine r_end ?_
  refine t_cond rfl (fun h2 => ?_) (fun h2 => ?_)
  ·
   have h2' := of_decide_eq_false (bnt h2)
   refine tsr<|rA<|r_end ?_
   refine tk Tryz.func24 (.tmp rfl .nil) ?_
   all_goals (simp_all)
  ·
   have h2' := of_decide_eq_true (bnf h2)
   refine t_skip<|tsr<|rA<|r_end ?_
   refine tk Tryz.func24 (.tmp rfl .nil) ?_
   all_goals (simp_all)
theorem c_laws_eqAtom (a0 : Int) (a1 : List (Int)) (b0 : Int) (b1 : List (Int)) (hs : (a1).length ≤ 1048576) : Pu Tryz.prog 119 [.agg [.t none (.v (.int .i64 (a0))), .t none (.sl 1 encI (a1))], .agg [.t none (.v (.int .i64 (b0))), .t none (.sl 1 encI (b1))]] [] 0 (.c (.t none (.v (.bool (decide ((a0, a1) = (b0, b1))))))) := by
 refine pu_enter Tryz.func119 rfl (Nat.le_of_ble_eq_true rfl) fun w S => ?_
 refine tsr ?_
 refine r_op (o_box 0 rfl rfl rfl rfl) ?_
 refine r_op (o_box 1 rfl rfl rfl rfl) ?_
 refine rA<|r_end<|t_seq<|tsr ?_
 refine rF 0 ?_
 refine rL ?_
 refine rF 0 ?_
 refine rL ?_
 refine rB<|r_end ?_
 refine t_cond rfl (fun h1 => ?_) (fun h1 => ?_)
 ·
  have h1' := of_decide_eq_true h1
  refine tsr<|rA<|r_end ?_
  refine tk Tryz.func119 (.tmp rfl .nil) ?_
  all_goals (simp_all)
 ·
  have h1' := of_decide_eq_false h1
  refine t_skip<|t_seq<|tsr<|rF 1 ?_
  refine rL ?_
  refine rF 1 ?_
  refine rL ?_
  refine r_op (o_call 2 2 false (en Tryz.func15) (c_laws_eqIntS (a1) (b1) (by omega)) rfl (.cons rfl (.c .t0) (.cons rfl (.c .t0) .nil)) rfl rfl rfl) ?_
  refine r_op (o_not rfl rfl) ?_
  refine r_end ?_
  refine t_cond rfl (fun h2 => ?_) (fun h2 => ?_)
  ·
   have h2' := of_decide_eq_false (bnt h2)
   refine tsr<|rA<|r_end ?_
   refine tk Tryz.func119 (.tmp rfl .nil) ?_
   all_goals (simp_all)
  ·
   have h2' := of_decide_eq_true (bnf h2)
   refine t_skip<|tsr<|rA<|r_end ?_
   refine tk Tryz.func119 (.tmp rfl .nil) ?_
   all_goals (simp_all)
theorem c_laws_eqAtomS (a b : List (Int × (List (Int)))) (hs : szS (fun (x : Int × (List (Int))) => (x.2).length) a ≤ 1048576) : Pu Tryz.prog 62 [.c (.t none (.sl 2 (enS2 encI (enSl 1 encI)) (a))), .c (.t none (.sl 2 (enS2 encI (enSl 1 encI)) (b)))] [] 0 (.c (.t none (.v (.bool (decide (a = b)))))) := by
 refine pu_enter Tryz.func62 rfl (Nat.le_of_ble_eq_true rfl) fun w S => ?_
 have gl := sz_len (f := (fun (x : Int × (List (Int))) => (x.2).length)) (l := a)
 refine tsr<|rA<|r_end<|t_seq<|tsr ?_
 refine rM ?_
 refine r_op (o_len rfl rfl rfl) ?_
 refine rM ?_
 refine r_op (o_len rfl rfl rfl) ?_
 refine rB<|r_end ?_
 refine t_cond rfl (fun h1 => ?_) (fun h1 => ?_)
 ·
  have h1' := of_decide_eq_true h1
  refine tsr<|rA<|r_end ?_
  refine tk Tryz.func62 (.tmp rfl .nil) ?_ <;> (try clear ih0)
  all_goals ((have : a ≠ b := by rintro rfl; simp at *); simp [this])
 ·
  have h1' := of_decide_eq_false h1
  refine t_skip<|t_seq<|tsr<|rA<|r_end<|t_block ?_
  refine t_loopL (fun m => ⟨[(0, some (.c (.t none (.sl 2 (enS2 encI (enSl 1 encI)) (a))))), (1, some (.c (.t none (.sl 2 (enS2 encI (enSl 1 encI)) (b))))), (5, some (.c (.t none (.v (.int .i64 ((m : Int)))))))], [], 0⟩ : Nat → St) (fun m => m ≤ a.length ∧ a.length = b.length ∧ a.take m = b.take m) (fun m => a.length - m) 0 ⟨⟨rfl, ⟨rfl, ⟨rfl, trivial⟩⟩⟩, trivial, rfl⟩ (by exact ⟨Nat.zero_le _, by omega, rfl⟩) ?_
  rintro m hI ih0
  try dsimp only at hI ih0
  obtain ⟨i1, i2, i3⟩ := hI
  refine t_seq<|tsr<|rM ?_
  refine rM ?_
  refine r_op (o_len rfl rfl rfl) ?_
  refine rB<|r_end ?_
  refine t_cond rfl (fun h2 => ?_) (fun h2 => ?_)
  ·
   have h2' := of_decide_eq_true h2
   refine t_skip<|t_seq<|t_block<|t_seq ?_
   refine t_draw (fun _ => true) (by kernel_rfl) ?_
   refine dT 0 rfl pM ?_
   refine dT 1 rfl pM ?_
   obtain ⟨z3, hz4, b5⟩ := at_get (xs := a) (n := (m : Int)) (by omega) (by omega)
   refine dT 2 rfl (p_index (by kernel_rfl) rfl rfl b5 hz4) ?_
   refine dT 3 rfl (p_loadA (n := 2) (by kernel_rfl) (by kernel_rfl) rfl rfl) ?_
   refine dT 4 rfl pM ?_
   refine dT 5 rfl pM ?_
   obtain ⟨z6, hz7, b8⟩ := at_get (xs := b) (n := (m : Int)) (by omega) (by omega)
   refine dT 6 rfl (p_index (by kernel_rfl) rfl rfl b8 hz7) ?_
   refine dT 7 rfl (p_loadA (n := 2) (by kernel_rfl) (by kernel_rfl) rfl rfl) ?_
   refine dO 8 rfl (o_call 0 0 false (en Tryz.func119) (c_laws_eqAtom (z3.1) (z3.2) (z6.1) (z6.2) (by (have e1 := sz_at (f := (fun (x : Int × (List (Int))) => (x.2).length)) (l := a) (m := m) (by assumption); (try dsimp only at e1); omega))) rfl (.cons rfl (.agg (.cons .t0 (.cons .t0 .nil))) (.cons rfl (.agg (.cons .t0 (.cons .t0 .nil))) .nil)) rfl rfl rfl) ?_
   refine dT 9 rfl (p_not rfl) ?_
   refine d_end (by kernel_rfl) ?_
   refine t_cond rfl (fun h9 => ?_) (fun h9 => ?_)
   ·
    have h9' := of_decide_eq_false (bnt h9)
    refine tsr<|rA<|r_end ?_
    refine tk Tryz.func62 (.tmp rfl .nil) ?_ <;> (try clear ih0)
    all_goals (have := ne_at (a := a) (b := b) (by assumption) (by assumption) (by assumption); simp_all)
   ·
    have h9' := of_decide_eq_true (bnf h9)
    refine t_skip<|t_endblock<|t_region<|rM ?_
    refine rB ?_
    refine rA<|r_end ?_
    refine t_le ?_ (ih0 (m + 1) (by (try dsimp only); omega) (by (try dsimp only); exact ⟨by omega, i2, take_same i3 (same_at (by assumption) (by assumption) (by assumption))⟩))
    exact ⟨⟨rfl, ⟨rfl, ⟨(eqI (wrS (by omega))), trivial⟩⟩⟩, trivial, rfl⟩
  ·
   have h2' := of_decide_eq_false h2
   refine t_exit rfl<|tsr<|rA<|r_end ?_
   refine tk Tryz.func62 (.tmp rfl .nil) ?_ <;> (try clear ih0)
   all_goals ((obtain rfl : m = a.length := by omega); rw [List.take_length, i2, List.take_length] at i3; simp [i3])
theorem c_laws_eqDependency (a0 : List (Int × (List (Int)))) (a1 : List (Int × (List (Int)))) (a2 : Bool) (a3 : Int) (a4 : Int) (b0 : List (Int × (List (Int)))) (b1 : List (Int × (List (Int)))) (b2 : Bool) (b3 : Int) (b4 : Int) (hs : (szS (fun (x : Int × (List (Int))) => (x.2).length) (a0)) + (szS (fun (x : Int × (List (Int))) => (x.2).length) (a1)) ≤ 1048576) : Pu Tryz.prog 14 [.agg [.t none (.sl 2 (enS2 encI (enSl 1 encI)) (a0)), .t none (.sl 2 (enS2 encI (enSl 1 encI)) (a1)), .t none (.v (.bool (a2))), .t none (.v (.int .i64 (a3))), .t none (.v (.int .i64 (a4)))], .agg [.t none (.sl 2 (enS2 encI (enSl 1 encI)) (b0)), .t none (.sl 2 (enS2 encI (enSl 1 encI)) (b1)), .t none (.v (.bool (b2))), .t none (.v (.int .i64 (b3))), .t none (.v (.int .i64 (b4)))]] [] 0 (.c (.t none (.v (.bool (decide ((a0, a1, a2, a3, a4) = (b0, b1, b2, b3, b4))))))) := by
 refine pu_enter Tryz.func14 rfl (Nat.le_of_ble_eq_true rfl) fun w S => ?_
 refine tsr ?_
 refine r_op (o_box 0 rfl rfl rfl rfl) ?_
 refine r_op (o_box 1 rfl rfl rfl rfl) ?_
 refine rA<|r_end<|t_seq<|tsr ?_
 refine rF 0 ?_
 refine rL ?_
 refine rF 0 ?_
 refine rL ?_
 refine r_op (o_call 2 2 false (en Tryz.func62) (c_laws_eqAtomS (a0) (b0) (by omega)) rfl (.cons rfl (.c .t0) (.cons rfl (.c .t0) .nil)) rfl rfl rfl) ?_
 refine r_op (o_not rfl rfl) ?_
 refine r_end ?_
 refine t_cond rfl (fun h1 => ?_) (fun h1 => ?_)
 ·
  have h1' := of_decide_eq_false (bnt h1)
  refine tsr<|rA<|r_end ?_
  refine tk Tryz.func14 (.tmp rfl .nil) ?_
  all_goals (simp_all)
 ·
  have h1' := of_decide_eq_true (bnf h1)
  refine t_skip<|t_seq<|tsr<|rF 1 ?_
  refine rL ?_
  refine rF 1 ?_
  refine rL ?_
  refine r_op (o_call 2 2 false (en Tryz.func62) (c_laws_eqAtomS (a1) (b1) (by omega)) rfl (.cons rfl (.c .t0) (.cons rfl (.c .t0) .nil)) rfl rfl rfl) ?_
  refine r_op (o_not rfl rfl) ?_
  refine r_end ?_
  refine t_cond rfl (fun h2 => ?_) (fun h2 => ?_)
  ·
   have h2' := of_decide_eq_false (bnt h2)
   refine tsr<|rA<|r_end ?_
   refine tk Tryz.func14 (.tmp rfl .nil) ?_
   all_goals (simp_all)
  ·
   have h2' := of_decide_eq_true (bnf h2)
   refine t_skip<|t_seq<|tsr<|rF 2 ?_
   refine rL ?_
   refine rF 2 ?_
   refine rL ?_
   refine r_op (o_neB rfl Tryz.underlying4 rfl rfl) ?_
   refine r_end ?_
   refine t_cond rfl (fun h3 => ?_) (fun h3 => ?_)
   ·
    have h3' := h3
    refine tsr<|rA<|r_end ?_
    refine tk Tryz.func14 (.tmp rfl .nil) ?_
    all_goals (simp_all)
   ·
    have h3' := h3
    refine t_skip<|t_seq<|tsr<|rF 3 ?_
    refine rL ?_
    refine rF 3 ?_
    refine rL ?_
    refine rB<|r_end ?_
    refine t_cond rfl (fun h4 => ?_) (fun h4 => ?_)
    ·
     have h4' := of_decide_eq_true h4
     refine tsr<|rA<|r_end ?_
     refine tk Tryz.func14 (.tmp rfl .nil) ?_
     all_goals (simp_all)
    ·
     have h4' := of_decide_eq_false h4
     refine t_skip<|t_seq<|tsr<|rF 4 ?_
     refine rL ?_
     refine rF 4 ?_
     refine rL ?_
     refine rB<|r_end ?_
     refine t_cond rfl (fun h5 => ?_) (fun h5 => ?_)
     ·
      have h5' := of_decide_eq_true h5
      refine tsr<|rA<|r_end ?_
      refine tk Tryz.func14 (.tmp rfl .nil) ?_
      all_goals (simp_all)
     ·
      have h5' := of_decide_eq_false h5
      refine t_skip<|tsr<|rA<|r_end ?_
      refine tk Tryz.func14 (.tmp rfl .nil) ?_
      all_goals (simp_all)
end Go.Eng
