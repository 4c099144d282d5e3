/- What the functions that FnExactFormatDependencies reaches answer. -/
import Derived.Test.YtahmpdfnnnibbaaGreatDoorFnsFnExactFormatDependenciesp0
import Derived.Test.YtahmpdfnnnibbaaGreatDoorEngP
import Derived.Test.YtahmpdfnnnibbaaGreatDoorChecked
set_option linter.unusedVariables false
set_option linter.unusedSimpArgs false
namespace Go.Eng
open Go Go.RowKit Go.Proofs
set_option maxHeartbeats 1000000 in
set_option maxRecDepth 10000 in
theorem c_spec_FormatDependencies (rs : Rels) (ds : List Dep) (hrs : rs.length ≤ 4611686018427387904) (hs : szS (fun (x : (List (Int × (List (Int)))) × (List (Int × (List (Int)))) × Bool × Int × Int) => (szS (fun (x : Int × (List (Int))) => (x.2).length) (x.1)) + (szS (fun (x : Int × (List (Int))) => (x.2).length) (x.2.1))) ds ≤ 1048576) (hod : ∀ d ∈ ds, (∀ z ∈ d.1, ∀ x ∈ z.2, okI x) ∧ (∀ z ∈ d.2.1, ∀ x ∈ z.2, okI x) ∧ okI d.2.2.2.1 ∧ okI d.2.2.2.2) : Pu Tryz.prog 10 [.c (.t none (.sl 3 (enS3 encS encI encB) (rs))), .c (.t none (.sl 5 (enS5 (enSl 2 (enS2 encI (enSl 1 encI))) (enSl 2 (enS2 encI (enSl 1 encI))) encB encI encI) (ds)))] [] 0 (.c (.t none (.v (.string (mkS (fmtDs rs ds)))))) := by
  refine pu_enter Tryz.func10 rfl (Nat.le_of_ble_eq_true rfl) fun w S => ?_
  have gl := sz_len (f := (fun (x : (List (Int × (List (Int)))) × (List (Int × (List (Int)))) × Bool × Int × Int) => (szS (fun (x : Int × (List (Int))) => (x.2).length) (x.1)) + (szS (fun (x : Int × (List (Int))) => (x.2).length) (x.2.1)))) (l := ds)
  refine t_seq ?_
  refine t_region ?_
  refine r_op (o_assign rfl rfl) ?_
  refine r_end ?_
  refine t_seq ?_
  refine t_region ?_
  refine r_op (o_assign rfl rfl) ?_
  refine r_end ?_
  refine t_seq ?_
  refine t_seq ?_
  refine t_region ?_
  refine r_op (o_assign rfl rfl) ?_
  refine r_end ?_
  refine t_block ?_
  refine t_loopL (fun m => ⟨[(0, some (.c (.t none (.sl 3 (enS3 encS encI encB) (rs))))), (1, some (.c (.t none (.sl 5 (enS5 (enSl 2 (enS2 encI (enSl 1 encI))) (enSl 2 (enS2 encI (enSl 1 encI))) encB encI encI) (ds))))), (4, some (.c (.t none (.v (.string (mkS (([] : List UInt8)))))))), (5, some (.c (.t none (.v (.string (mkS (Lib.join ((ds.take m).map (fmtD rs)) [59]))))))), (6, some (.c (.t none (.v (.int .i64 ((m : Int)))))))], [], 0⟩ : Nat → St) (fun m => m ≤ ds.length ∧ (m = 0 ∨ depsOk rs ds = true)) (fun m => ds.length - m) 0 ⟨⟨rfl, ⟨rfl, ⟨rfl, ⟨(eqS rfl), ⟨rfl, trivial⟩⟩⟩⟩⟩, trivial, rfl⟩ (by exact ⟨Nat.zero_le _, .inl rfl⟩) ?_
  rintro m hI ih0
  try dsimp only at hI ih0
  obtain ⟨i1, i2⟩ := hI; have ml := mapT_len (f := fmtD rs) (fun a => fmtD_len a) ds m [59]; (try simp only [List.length_cons, List.length_nil] at ml); have mm : ((ds.take m).map (fmtD rs)).length ≤ ds.length := (by rw [List.length_map, List.length_take]; omega)
  refine t_seq ?_
  refine t_seq ?_
  refine t_region ?_
  refine r_op (o_move rfl rfl) ?_
  refine r_op (o_move rfl rfl) ?_
  refine r_op (o_len rfl rfl rfl) ?_
  refine r_op (o_bin rfl rfl rfl rfl) ?_
  refine r_op (o_move rfl rfl) ?_
  refine r_guard rfl rfl rfl (fun g1 => ?_) (fun g1 => ?_)
  ·
    have g1' := of_decide_eq_true g1
    refine r_op (o_move rfl rfl) ?_
    refine r_guard rfl rfl rfl (fun _ => ?_) (nc g1)
    refine r_op (o_move rfl rfl) ?_
    refine r_guard rfl rfl rfl (fun _ => ?_) (nc g1)
    refine r_op (o_call 0 0 false (Go.Proofs.enters_of Tryz.func32 (by kernel_rfl) rfl) (c_spec_AreValidDependencies (rs) (ds) (by first | omega | assumption | (have e1 := sz_at (f := (fun (x : (List (Int × (List (Int)))) × (List (Int × (List (Int)))) × Bool × Int × Int) => (szS (fun (x : Int × (List (Int))) => (x.2).length) (x.1)) + (szS (fun (x : Int × (List (Int))) => (x.2).length) (x.2.1)))) (l := ds) (m := m) (by assumption); (try dsimp only at e1); omega) | exact (hod _ (List.mem_of_getElem? (by assumption))).1 | exact (hod _ (List.mem_of_getElem? (by assumption))).2.1 | exact (hod _ (List.mem_of_getElem? (by assumption))).2.2.1 | exact (hod _ (List.mem_of_getElem? (by assumption))).2.2.2 | (refine Nat.le_trans (Nat.add_le_add ml (fmtD_len _)) ?_; omega) | (simp only [List.length_append, List.length_cons, List.length_nil]; omega) | (refine Nat.le_trans (Nat.add_le_add (Nat.le_of_eq (List.length_append ..)) (fmtD_len _)) ?_; simp only [List.length_cons, List.length_nil]; omega) | (rw [List.length_map]; omega) | (simp; omega)) (by first | omega | assumption | (have e1 := sz_at (f := (fun (x : (List (Int × (List (Int)))) × (List (Int × (List (Int)))) × Bool × Int × Int) => (szS (fun (x : Int × (List (Int))) => (x.2).length) (x.1)) + (szS (fun (x : Int × (List (Int))) => (x.2).length) (x.2.1)))) (l := ds) (m := m) (by assumption); (try dsimp only at e1); omega) | exact (hod _ (List.mem_of_getElem? (by assumption))).1 | exact (hod _ (List.mem_of_getElem? (by assumption))).2.1 | exact (hod _ (List.mem_of_getElem? (by assumption))).2.2.1 | exact (hod _ (List.mem_of_getElem? (by assumption))).2.2.2 | (refine Nat.le_trans (Nat.add_le_add ml (fmtD_len _)) ?_; omega) | (simp only [List.length_append, List.length_cons, List.length_nil]; omega) | (refine Nat.le_trans (Nat.add_le_add (Nat.le_of_eq (List.length_append ..)) (fmtD_len _)) ?_; simp only [List.length_cons, List.length_nil]; omega) | (rw [List.length_map]; omega) | (simp; omega))) rfl (.cons rfl (.c .t0) (.cons rfl (.c .t0) .nil)) rfl rfl rfl) ?_
    refine r_op (o_pickT rfl rfl g1 rfl) ?_
    refine r_end ?_
    refine t_cond rfl (fun h2 => ?_) (fun h2 => ?_)
    ·
      have h2' := h2
      refine t_skip ?_
      refine t_seq ?_
      refine t_block ?_
      refine t_seq ?_
      refine t_seq ?_
      refine t_region ?_
      refine r_op (o_move rfl rfl) ?_
      refine r_op (o_bin rfl rfl rfl rfl) ?_
      refine r_end ?_
      refine t_cond rfl (fun h3 => ?_) (fun h3 => ?_)
      ·
        have h3' := of_decide_eq_true h3
        refine t_region ?_
        refine r_op (o_move rfl rfl) ?_
        refine r_op (o_cat rfl rfl rfl (by first | omega | assumption | (have e1 := sz_at (f := (fun (x : (List (Int × (List (Int)))) × (List (Int × (List (Int)))) × Bool × Int × Int) => (szS (fun (x : Int × (List (Int))) => (x.2).length) (x.1)) + (szS (fun (x : Int × (List (Int))) => (x.2).length) (x.2.1)))) (l := ds) (m := m) (by assumption); (try dsimp only at e1); omega) | exact (hod _ (List.mem_of_getElem? (by assumption))).1 | exact (hod _ (List.mem_of_getElem? (by assumption))).2.1 | exact (hod _ (List.mem_of_getElem? (by assumption))).2.2.1 | exact (hod _ (List.mem_of_getElem? (by assumption))).2.2.2 | (refine Nat.le_trans (Nat.add_le_add ml (fmtD_len _)) ?_; omega) | (simp only [List.length_append, List.length_cons, List.length_nil]; omega) | (refine Nat.le_trans (Nat.add_le_add (Nat.le_of_eq (List.length_append ..)) (fmtD_len _)) ?_; simp only [List.length_cons, List.length_nil]; omega) | (rw [List.length_map]; omega) | (simp; omega))) ?_
        refine r_op (o_assign rfl rfl) ?_
        refine r_end ?_
        refine t_region ?_
        refine r_op (o_move rfl rfl) ?_
        refine r_op (o_move rfl rfl) ?_
        refine r_op (o_move rfl rfl) ?_
        refine r_op (o_move rfl rfl) ?_
        obtain ⟨z4, hz5, b6⟩ := at_get (xs := ds) (n := (m : Int)) (by first | omega | assumption | (have e1 := sz_at (f := (fun (x : (List (Int × (List (Int)))) × (List (Int × (List (Int)))) × Bool × Int × Int) => (szS (fun (x : Int × (List (Int))) => (x.2).length) (x.1)) + (szS (fun (x : Int × (List (Int))) => (x.2).length) (x.2.1)))) (l := ds) (m := m) (by assumption); (try dsimp only at e1); omega) | exact (hod _ (List.mem_of_getElem? (by assumption))).1 | exact (hod _ (List.mem_of_getElem? (by assumption))).2.1 | exact (hod _ (List.mem_of_getElem? (by assumption))).2.2.1 | exact (hod _ (List.mem_of_getElem? (by assumption))).2.2.2 | (refine Nat.le_trans (Nat.add_le_add ml (fmtD_len _)) ?_; omega) | (simp only [List.length_append, List.length_cons, List.length_nil]; omega) | (refine Nat.le_trans (Nat.add_le_add (Nat.le_of_eq (List.length_append ..)) (fmtD_len _)) ?_; simp only [List.length_cons, List.length_nil]; omega) | (rw [List.length_map]; omega) | (simp; omega)) (by first | omega | assumption | (have e1 := sz_at (f := (fun (x : (List (Int × (List (Int)))) × (List (Int × (List (Int)))) × Bool × Int × Int) => (szS (fun (x : Int × (List (Int))) => (x.2).length) (x.1)) + (szS (fun (x : Int × (List (Int))) => (x.2).length) (x.2.1)))) (l := ds) (m := m) (by assumption); (try dsimp only at e1); omega) | exact (hod _ (List.mem_of_getElem? (by assumption))).1 | exact (hod _ (List.mem_of_getElem? (by assumption))).2.1 | exact (hod _ (List.mem_of_getElem? (by assumption))).2.2.1 | exact (hod _ (List.mem_of_getElem? (by assumption))).2.2.2 | (refine Nat.le_trans (Nat.add_le_add ml (fmtD_len _)) ?_; omega) | (simp only [List.length_append, List.length_cons, List.length_nil]; omega) | (refine Nat.le_trans (Nat.add_le_add (Nat.le_of_eq (List.length_append ..)) (fmtD_len _)) ?_; simp only [List.length_cons, List.length_nil]; omega) | (rw [List.length_map]; omega) | (simp; omega))
        refine r_op (o_index rfl (by kernel_rfl) rfl rfl b6 hz5) ?_
        refine r_op (o_loadA rfl (n := 5) (by kernel_rfl) (by kernel_rfl) rfl rfl) ?_
        refine r_op (o_call 0 0 false (Go.Proofs.enters_of Tryz.func36 (by kernel_rfl) rfl) (c_spec_FormatDependency (rs) (z4.1) (z4.2.1) (z4.2.2.1) (z4.2.2.2.1) (z4.2.2.2.2) (by first | omega | assumption | (have e1 := sz_at (f := (fun (x : (List (Int × (List (Int)))) × (List (Int × (List (Int)))) × Bool × Int × Int) => (szS (fun (x : Int × (List (Int))) => (x.2).length) (x.1)) + (szS (fun (x : Int × (List (Int))) => (x.2).length) (x.2.1)))) (l := ds) (m := m) (by assumption); (try dsimp only at e1); omega) | exact (hod _ (List.mem_of_getElem? (by assumption))).1 | exact (hod _ (List.mem_of_getElem? (by assumption))).2.1 | exact (hod _ (List.mem_of_getElem? (by assumption))).2.2.1 | exact (hod _ (List.mem_of_getElem? (by assumption))).2.2.2 | (refine Nat.le_trans (Nat.add_le_add ml (fmtD_len _)) ?_; omega) | (simp only [List.length_append, List.length_cons, List.length_nil]; omega) | (refine Nat.le_trans (Nat.add_le_add (Nat.le_of_eq (List.length_append ..)) (fmtD_len _)) ?_; simp only [List.length_cons, List.length_nil]; omega) | (rw [List.length_map]; omega) | (simp; omega)) (by first | omega | assumption | (have e1 := sz_at (f := (fun (x : (List (Int × (List (Int)))) × (List (Int × (List (Int)))) × Bool × Int × Int) => (szS (fun (x : Int × (List (Int))) => (x.2).length) (x.1)) + (szS (fun (x : Int × (List (Int))) => (x.2).length) (x.2.1)))) (l := ds) (m := m) (by assumption); (try dsimp only at e1); omega) | exact (hod _ (List.mem_of_getElem? (by assumption))).1 | exact (hod _ (List.mem_of_getElem? (by assumption))).2.1 | exact (hod _ (List.mem_of_getElem? (by assumption))).2.2.1 | exact (hod _ (List.mem_of_getElem? (by assumption))).2.2.2 | (refine Nat.le_trans (Nat.add_le_add ml (fmtD_len _)) ?_; omega) | (simp only [List.length_append, List.length_cons, List.length_nil]; omega) | (refine Nat.le_trans (Nat.add_le_add (Nat.le_of_eq (List.length_append ..)) (fmtD_len _)) ?_; simp only [List.length_cons, List.length_nil]; omega) | (rw [List.length_map]; omega) | (simp; omega)) (by first | omega | assumption | (have e1 := sz_at (f := (fun (x : (List (Int × (List (Int)))) × (List (Int × (List (Int)))) × Bool × Int × Int) => (szS (fun (x : Int × (List (Int))) => (x.2).length) (x.1)) + (szS (fun (x : Int × (List (Int))) => (x.2).length) (x.2.1)))) (l := ds) (m := m) (by assumption); (try dsimp only at e1); omega) | exact (hod _ (List.mem_of_getElem? (by assumption))).1 | exact (hod _ (List.mem_of_getElem? (by assumption))).2.1 | exact (hod _ (List.mem_of_getElem? (by assumption))).2.2.1 | exact (hod _ (List.mem_of_getElem? (by assumption))).2.2.2 | (refine Nat.le_trans (Nat.add_le_add ml (fmtD_len _)) ?_; omega) | (simp only [List.length_append, List.length_cons, List.length_nil]; omega) | (refine Nat.le_trans (Nat.add_le_add (Nat.le_of_eq (List.length_append ..)) (fmtD_len _)) ?_; simp only [List.length_cons, List.length_nil]; omega) | (rw [List.length_map]; omega) | (simp; omega)) (by first | omega | assumption | (have e1 := sz_at (f := (fun (x : (List (Int × (List (Int)))) × (List (Int × (List (Int)))) × Bool × Int × Int) => (szS (fun (x : Int × (List (Int))) => (x.2).length) (x.1)) + (szS (fun (x : Int × (List (Int))) => (x.2).length) (x.2.1)))) (l := ds) (m := m) (by assumption); (try dsimp only at e1); omega) | exact (hod _ (List.mem_of_getElem? (by assumption))).1 | exact (hod _ (List.mem_of_getElem? (by assumption))).2.1 | exact (hod _ (List.mem_of_getElem? (by assumption))).2.2.1 | exact (hod _ (List.mem_of_getElem? (by assumption))).2.2.2 | (refine Nat.le_trans (Nat.add_le_add ml (fmtD_len _)) ?_; omega) | (simp only [List.length_append, List.length_cons, List.length_nil]; omega) | (refine Nat.le_trans (Nat.add_le_add (Nat.le_of_eq (List.length_append ..)) (fmtD_len _)) ?_; simp only [List.length_cons, List.length_nil]; omega) | (rw [List.length_map]; omega) | (simp; omega)) (by first | omega | assumption | (have e1 := sz_at (f := (fun (x : (List (Int × (List (Int)))) × (List (Int × (List (Int)))) × Bool × Int × Int) => (szS (fun (x : Int × (List (Int))) => (x.2).length) (x.1)) + (szS (fun (x : Int × (List (Int))) => (x.2).length) (x.2.1)))) (l := ds) (m := m) (by assumption); (try dsimp only at e1); omega) | exact (hod _ (List.mem_of_getElem? (by assumption))).1 | exact (hod _ (List.mem_of_getElem? (by assumption))).2.1 | exact (hod _ (List.mem_of_getElem? (by assumption))).2.2.1 | exact (hod _ (List.mem_of_getElem? (by assumption))).2.2.2 | (refine Nat.le_trans (Nat.add_le_add ml (fmtD_len _)) ?_; omega) | (simp only [List.length_append, List.length_cons, List.length_nil]; omega) | (refine Nat.le_trans (Nat.add_le_add (Nat.le_of_eq (List.length_append ..)) (fmtD_len _)) ?_; simp only [List.length_cons, List.length_nil]; omega) | (rw [List.length_map]; omega) | (simp; omega)) (by first | omega | assumption | (have e1 := sz_at (f := (fun (x : (List (Int × (List (Int)))) × (List (Int × (List (Int)))) × Bool × Int × Int) => (szS (fun (x : Int × (List (Int))) => (x.2).length) (x.1)) + (szS (fun (x : Int × (List (Int))) => (x.2).length) (x.2.1)))) (l := ds) (m := m) (by assumption); (try dsimp only at e1); omega) | exact (hod _ (List.mem_of_getElem? (by assumption))).1 | exact (hod _ (List.mem_of_getElem? (by assumption))).2.1 | exact (hod _ (List.mem_of_getElem? (by assumption))).2.2.1 | exact (hod _ (List.mem_of_getElem? (by assumption))).2.2.2 | (refine Nat.le_trans (Nat.add_le_add ml (fmtD_len _)) ?_; omega) | (simp only [List.length_append, List.length_cons, List.length_nil]; omega) | (refine Nat.le_trans (Nat.add_le_add (Nat.le_of_eq (List.length_append ..)) (fmtD_len _)) ?_; simp only [List.length_cons, List.length_nil]; omega) | (rw [List.length_map]; omega) | (simp; omega))) rfl (.cons rfl (.c .t0) (.cons rfl (.agg (.cons .t0 (.cons .t0 (.cons .t0 (.cons .t0 (.cons .t0 .nil)))))) .nil)) rfl rfl rfl) ?_
        refine r_op (o_cat rfl rfl rfl (by first | omega | assumption | (have e1 := sz_at (f := (fun (x : (List (Int × (List (Int)))) × (List (Int × (List (Int)))) × Bool × Int × Int) => (szS (fun (x : Int × (List (Int))) => (x.2).length) (x.1)) + (szS (fun (x : Int × (List (Int))) => (x.2).length) (x.2.1)))) (l := ds) (m := m) (by assumption); (try dsimp only at e1); omega) | exact (hod _ (List.mem_of_getElem? (by assumption))).1 | exact (hod _ (List.mem_of_getElem? (by assumption))).2.1 | exact (hod _ (List.mem_of_getElem? (by assumption))).2.2.1 | exact (hod _ (List.mem_of_getElem? (by assumption))).2.2.2 | (refine Nat.le_trans (Nat.add_le_add ml (fmtD_len _)) ?_; omega) | (simp only [List.length_append, List.length_cons, List.length_nil]; omega) | (refine Nat.le_trans (Nat.add_le_add (Nat.le_of_eq (List.length_append ..)) (fmtD_len _)) ?_; simp only [List.length_cons, List.length_nil]; omega) | (rw [List.length_map]; omega) | (simp; omega))) ?_
        refine r_op (o_assign rfl rfl) ?_
        refine r_end ?_
        refine t_endblock ?_
        refine t_region ?_
        refine r_op (o_move rfl rfl) ?_
        refine r_op (o_bin rfl rfl rfl rfl) ?_
        refine r_op (o_assign rfl rfl) ?_
        refine r_end ?_
        refine t_le ?_ (ih0 (m + 1) (by (try dsimp only); omega) (by (try dsimp only); exact ⟨by omega, .inr (by assumption)⟩))
        exact ⟨⟨rfl, ⟨rfl, ⟨rfl, ⟨(eqS (by first | exact joinT_step (m := m) hz5 (by omega) | exact joinT_step0 (m := m) hz5 (by omega))), ⟨(eqI (wr64 (by omega) (by omega))), trivial⟩⟩⟩⟩⟩, trivial, rfl⟩
      ·
        have h3' := of_decide_eq_false h3
        refine t_skip ?_
        refine t_region ?_
        refine r_op (o_move rfl rfl) ?_
        refine r_op (o_move rfl rfl) ?_
        refine r_op (o_move rfl rfl) ?_
        refine r_op (o_move rfl rfl) ?_
        obtain ⟨z7, hz8, b9⟩ := at_get (xs := ds) (n := (m : Int)) (by first | omega | assumption | (have e1 := sz_at (f := (fun (x : (List (Int × (List (Int)))) × (List (Int × (List (Int)))) × Bool × Int × Int) => (szS (fun (x : Int × (List (Int))) => (x.2).length) (x.1)) + (szS (fun (x : Int × (List (Int))) => (x.2).length) (x.2.1)))) (l := ds) (m := m) (by assumption); (try dsimp only at e1); omega) | exact (hod _ (List.mem_of_getElem? (by assumption))).1 | exact (hod _ (List.mem_of_getElem? (by assumption))).2.1 | exact (hod _ (List.mem_of_getElem? (by assumption))).2.2.1 | exact (hod _ (List.mem_of_getElem? (by assumption))).2.2.2 | (refine Nat.le_trans (Nat.add_le_add ml (fmtD_len _)) ?_; omega) | (simp only [List.length_append, List.length_cons, List.length_nil]; omega) | (refine Nat.le_trans (Nat.add_le_add (Nat.le_of_eq (List.length_append ..)) (fmtD_len _)) ?_; simp only [List.length_cons, List.length_nil]; omega) | (rw [List.length_map]; omega) | (simp; omega)) (by first | omega | assumption | (have e1 := sz_at (f := (fun (x : (List (Int × (List (Int)))) × (List (Int × (List (Int)))) × Bool × Int × Int) => (szS (fun (x : Int × (List (Int))) => (x.2).length) (x.1)) + (szS (fun (x : Int × (List (Int))) => (x.2).length) (x.2.1)))) (l := ds) (m := m) (by assumption); (try dsimp only at e1); omega) | exact (hod _ (List.mem_of_getElem? (by assumption))).1 | exact (hod _ (List.mem_of_getElem? (by assumption))).2.1 | exact (hod _ (List.mem_of_getElem? (by assumption))).2.2.1 | exact (hod _ (List.mem_of_getElem? (by assumption))).2.2.2 | (refine Nat.le_trans (Nat.add_le_add ml (fmtD_len _)) ?_; omega) | (simp only [List.length_append, List.length_cons, List.length_nil]; omega) | (refine Nat.le_trans (Nat.add_le_add (Nat.le_of_eq (List.length_append ..)) (fmtD_len _)) ?_; simp only [List.length_cons, List.length_nil]; omega) | (rw [List.length_map]; omega) | (simp; omega))
        refine r_op (o_index rfl (by kernel_rfl) rfl rfl b9 hz8) ?_
        refine r_op (o_loadA rfl (n := 5) (by kernel_rfl) (by kernel_rfl) rfl rfl) ?_
        refine r_op (o_call 0 0 false (Go.Proofs.enters_of Tryz.func36 (by kernel_rfl) rfl) (c_spec_FormatDependency (rs) (z7.1) (z7.2.1) (z7.2.2.1) (z7.2.2.2.1) (z7.2.2.2.2) (by first | omega | assumption | (have e1 := sz_at (f := (fun (x : (List (Int × (List (Int)))) × (List (Int × (List (Int)))) × Bool × Int × Int) => (szS (fun (x : Int × (List (Int))) => (x.2).length) (x.1)) + (szS (fun (x : Int × (List (Int))) => (x.2).length) (x.2.1)))) (l := ds) (m := m) (by assumption); (try dsimp only at e1); omega) | exact (hod _ (List.mem_of_getElem? (by assumption))).1 | exact (hod _ (List.mem_of_getElem? (by assumption))).2.1 | exact (hod _ (List.mem_of_getElem? (by assumption))).2.2.1 | exact (hod _ (List.mem_of_getElem? (by assumption))).2.2.2 | (refine Nat.le_trans (Nat.add_le_add ml (fmtD_len _)) ?_; omega) | (simp only [List.length_append, List.length_cons, List.length_nil]; omega) | (refine Nat.le_trans (Nat.add_le_add (Nat.le_of_eq (List.length_append ..)) (fmtD_len _)) ?_; simp only [List.length_cons, List.length_nil]; omega) | (rw [List.length_map]; omega) | (simp; omega)) (by first | omega | assumption | (have e1 := sz_at (f := (fun (x : (List (Int × (List (Int)))) × (List (Int × (List (Int)))) × Bool × Int × Int) => (szS (fun (x : Int × (List (Int))) => (x.2).length) (x.1)) + (szS (fun (x : Int × (List (Int))) => (x.2).length) (x.2.1)))) (l := ds) (m := m) (by assumption); (try dsimp only at e1); omega) | exact (hod _ (List.mem_of_getElem? (by assumption))).1 | exact (hod _ (List.mem_of_getElem? (by assumption))).2.1 | exact (hod _ (List.mem_of_getElem? (by assumption))).2.2.1 | exact (hod _ (List.mem_of_getElem? (by assumption))).2.2.2 | (refine Nat.le_trans (Nat.add_le_add ml (fmtD_len _)) ?_; omega) | (simp only [List.length_append, List.length_cons, List.length_nil]; omega) | (refine Nat.le_trans (Nat.add_le_add (Nat.le_of_eq (List.length_append ..)) (fmtD_len _)) ?_; simp only [List.length_cons, List.length_nil]; omega) | (rw [List.length_map]; omega) | (simp; omega)) (by first | omega | assumption | (have e1 := sz_at (f := (fun (x : (List (Int × (List (Int)))) × (List (Int × (List (Int)))) × Bool × Int × Int) => (szS (fun (x : Int × (List (Int))) => (x.2).length) (x.1)) + (szS (fun (x : Int × (List (Int))) => (x.2).length) (x.2.1)))) (l := ds) (m := m) (by assumption); (try dsimp only at e1); omega) | exact (hod _ (List.mem_of_getElem? (by assumption))).1 | exact (hod _ (List.mem_of_getElem? (by assumption))).2.1 | exact (hod _ (List.mem_of_getElem? (by assumption))).2.2.1 | exact (hod _ (List.mem_of_getElem? (by assumption))).2.2.2 | (refine Nat.le_trans (Nat.add_le_add ml (fmtD_len _)) ?_; omega) | (simp only [List.length_append, List.length_cons, List.length_nil]; omega) | (refine Nat.le_trans (Nat.add_le_add (Nat.le_of_eq (List.length_append ..)) (fmtD_len _)) ?_; simp only [List.length_cons, List.length_nil]; omega) | (rw [List.length_map]; omega) | (simp; omega)) (by first | omega | assumption | (have e1 := sz_at (f := (fun (x : (List (Int × (List (Int)))) × (List (Int × (List (Int)))) × Bool × Int × Int) => (szS (fun (x : Int × (List (Int))) => (x.2).length) (x.1)) + (szS (fun (x : Int × (List (Int))) => (x.2).length) (x.2.1)))) (l := ds) (m := m) (by assumption); (try dsimp only at e1); omega) | exact (hod _ (List.mem_of_getElem? (by assumption))).1 | exact (hod _ (List.mem_of_getElem? (by assumption))).2.1 | exact (hod _ (List.mem_of_getElem? (by assumption))).2.2.1 | exact (hod _ (List.mem_of_getElem? (by assumption))).2.2.2 | (refine Nat.le_trans (Nat.add_le_add ml (fmtD_len _)) ?_; omega) | (simp only [List.length_append, List.length_cons, List.length_nil]; omega) | (refine Nat.le_trans (Nat.add_le_add (Nat.le_of_eq (List.length_append ..)) (fmtD_len _)) ?_; simp only [List.length_cons, List.length_nil]; omega) | (rw [List.length_map]; omega) | (simp; omega)) (by first | omega | assumption | (have e1 := sz_at (f := (fun (x : (List (Int × (List (Int)))) × (List (Int × (List (Int)))) × Bool × Int × Int) => (szS (fun (x : Int × (List (Int))) => (x.2).length) (x.1)) + (szS (fun (x : Int × (List (Int))) => (x.2).length) (x.2.1)))) (l := ds) (m := m) (by assumption); (try dsimp only at e1); omega) | exact (hod _ (List.mem_of_getElem? (by assumption))).1 | exact (hod _ (List.mem_of_getElem? (by assumption))).2.1 | exact (hod _ (List.mem_of_getElem? (by assumption))).2.2.1 | exact (hod _ (List.mem_of_getElem? (by assumption))).2.2.2 | (refine Nat.le_trans (Nat.add_le_add ml (fmtD_len _)) ?_; omega) | (simp only [List.length_append, List.length_cons, List.length_nil]; omega) | (refine Nat.le_trans (Nat.add_le_add (Nat.le_of_eq (List.length_append ..)) (fmtD_len _)) ?_; simp only [List.length_cons, List.length_nil]; omega) | (rw [List.length_map]; omega) | (simp; omega)) (by first | omega | assumption | (have e1 := sz_at (f := (fun (x : (List (Int × (List (Int)))) × (List (Int × (List (Int)))) × Bool × Int × Int) => (szS (fun (x : Int × (List (Int))) => (x.2).length) (x.1)) + (szS (fun (x : Int × (List (Int))) => (x.2).length) (x.2.1)))) (l := ds) (m := m) (by assumption); (try dsimp only at e1); omega) | exact (hod _ (List.mem_of_getElem? (by assumption))).1 | exact (hod _ (List.mem_of_getElem? (by assumption))).2.1 | exact (hod _ (List.mem_of_getElem? (by assumption))).2.2.1 | exact (hod _ (List.mem_of_getElem? (by assumption))).2.2.2 | (refine Nat.le_trans (Nat.add_le_add ml (fmtD_len _)) ?_; omega) | (simp only [List.length_append, List.length_cons, List.length_nil]; omega) | (refine Nat.le_trans (Nat.add_le_add (Nat.le_of_eq (List.length_append ..)) (fmtD_len _)) ?_; simp only [List.length_cons, List.length_nil]; omega) | (rw [List.length_map]; omega) | (simp; omega))) rfl (.cons rfl (.c .t0) (.cons rfl (.agg (.cons .t0 (.cons .t0 (.cons .t0 (.cons .t0 (.cons .t0 .nil)))))) .nil)) rfl rfl rfl) ?_
        refine r_op (o_cat rfl rfl rfl (by first | omega | assumption | (have e1 := sz_at (f := (fun (x : (List (Int × (List (Int)))) × (List (Int × (List (Int)))) × Bool × Int × Int) => (szS (fun (x : Int × (List (Int))) => (x.2).length) (x.1)) + (szS (fun (x : Int × (List (Int))) => (x.2).length) (x.2.1)))) (l := ds) (m := m) (by assumption); (try dsimp only at e1); omega) | exact (hod _ (List.mem_of_getElem? (by assumption))).1 | exact (hod _ (List.mem_of_getElem? (by assumption))).2.1 | exact (hod _ (List.mem_of_getElem? (by assumption))).2.2.1 | exact (hod _ (List.mem_of_getElem? (by assumption))).2.2.2 | (refine Nat.le_trans (Nat.add_le_add ml (fmtD_len _)) ?_; omega) | (simp only [List.length_append, List.length_cons, List.length_nil]; omega) | (refine Nat.le_trans (Nat.add_le_add (Nat.le_of_eq (List.length_append ..)) (fmtD_len _)) ?_; simp only [List.length_cons, List.length_nil]; omega) | (rw [List.length_map]; omega) | (simp; omega))) ?_
        refine r_op (o_assign rfl rfl) ?_
        refine r_end ?_
        refine t_endblock ?_
        refine t_region ?_
        refine r_op (o_move rfl rfl) ?_
        refine r_op (o_bin rfl rfl rfl rfl) ?_
        refine r_op (o_assign rfl rfl) ?_
        refine r_end ?_
        refine t_le ?_ (ih0 (m + 1) (by (try dsimp only); omega) (by (try dsimp only); exact ⟨by omega, .inr (by assumption)⟩))
        exact ⟨⟨rfl, ⟨rfl, ⟨rfl, ⟨(eqS (by first | exact joinT_step (m := m) hz8 (by omega) | exact joinT_step0 (m := m) hz8 (by omega))), ⟨(eqI (wr64 (by omega) (by omega))), trivial⟩⟩⟩⟩⟩, trivial, rfl⟩
    ·
      have h2' := h2
      refine t_exit rfl ?_
      refine t_seq ?_
      refine t_region ?_
      refine r_op (o_move rfl rfl) ?_
      refine r_op (o_assign rfl rfl) ?_
      refine r_end ?_
      refine t_ret Tryz.func10 (.tmp rfl .nil) rfl fun E S w u hI hd => ?_
      refine post_mk hI hd ?_ trivial rfl rfl rfl <;> clear hI hd <;> (try clear ih0)
      all_goals first | rfl | (refine scS ?_; rcases i2 with e | e <;> first | exact fmtDs_yes e (by omega) | exact fmtDs_nil e (.inl (by omega)) | exact fmtDs_nil e (.inr (by assumption)) | (exfalso; simp_all; done))
  ·
    have g1' := of_decide_eq_false g1
    refine r_guard rfl rfl rfl (ncf g1) (fun _ => ?_)
    refine r_guard rfl rfl rfl (ncf g1) (fun _ => ?_)
    refine r_op (o_pickF rfl rfl g1 rfl) ?_
    refine r_end ?_
    refine t_cond rfl (ncf rfl) (fun _ => ?_)
    refine t_exit rfl ?_
    refine t_seq ?_
    refine t_region ?_
    refine r_op (o_move rfl rfl) ?_
    refine r_op (o_assign rfl rfl) ?_
    refine r_end ?_
    refine t_ret Tryz.func10 (.tmp rfl .nil) rfl fun E S w u hI hd => ?_
    refine post_mk hI hd ?_ trivial rfl rfl rfl <;> clear hI hd <;> (try clear ih0)
    all_goals first | rfl | (refine scS ?_; rcases i2 with e | e <;> first | exact fmtDs_yes e (by omega) | exact fmtDs_nil e (.inl (by omega)) | exact fmtDs_nil e (.inr (by assumption)) | (exfalso; simp_all; done))
set_option maxHeartbeats 1000000 in
set_option maxRecDepth 10000 in
theorem c_impl_within (a0 a1 a2 : Int) : Pu Tryz.prog 86 [.c (.t none (.v (.int .i64 (a0)))), .c (.t none (.v (.int .i64 (a1)))), .c (.t none (.v (.int .i64 (a2))))] [] 0 (.c (.t none (.v (.bool (decide (a1 ≤ a0 ∧ a0 ≤ a2)))))) := by
  refine pu_enter Tryz.func86 rfl (Nat.le_of_ble_eq_true rfl) fun w S => ?_
  refine t_seq ?_
  refine t_region ?_
  refine r_op (o_assign rfl rfl) ?_
  refine r_end ?_
  refine t_seq ?_
  refine t_region ?_
  refine r_op (o_move rfl rfl) ?_
  refine r_op (o_move rfl rfl) ?_
  refine r_op (o_bin rfl rfl rfl rfl) ?_
  refine r_op (o_move rfl rfl) ?_
  refine r_guard rfl rfl rfl (fun g1 => ?_) (fun g1 => ?_)
  ·
    have g1' := of_decide_eq_true g1
    refine r_op (o_move rfl rfl) ?_
    refine r_guard rfl rfl rfl (fun _ => ?_) (nc g1)
    refine r_op (o_move rfl rfl) ?_
    refine r_guard rfl rfl rfl (fun _ => ?_) (nc g1)
    refine r_op (o_bin rfl rfl rfl rfl) ?_
    refine r_op (o_pickT rfl rfl g1 rfl) ?_
    refine r_op (o_assign rfl rfl) ?_
    refine r_end ?_
    refine t_ret Tryz.func86 (.tmp rfl .nil) rfl fun E S w u hI hd => ?_
    refine post_mk hI hd ?_ trivial rfl rfl rfl <;> clear hI hd
    all_goals first | rfl | (simp_all <;> omega)
  ·
    have g1' := of_decide_eq_false g1
    refine r_guard rfl rfl rfl (ncf g1) (fun _ => ?_)
    refine r_guard rfl rfl rfl (ncf g1) (fun _ => ?_)
    refine r_op (o_pickF rfl rfl g1 rfl) ?_
    refine r_op (o_assign rfl rfl) ?_
    refine r_end ?_
    refine t_ret Tryz.func86 (.tmp rfl .nil) rfl fun E S w u hI hd => ?_
    refine post_mk hI hd ?_ trivial rfl rfl rfl <;> clear hI hd
    all_goals first | rfl | (simp_all <;> omega)
set_option maxHeartbeats 1000000 in
set_option maxRecDepth 10000 in
theorem c_impl_IsValidRelation (n : List UInt8) (a : Int) (s : Bool) : Pu Tryz.prog 95 [.agg [.t none (.v (.string (mkS (n)))), .t none (.v (.int .i64 (a))), .t none (.v (.bool (s)))]] [] 0 (.c (.t none (.v (.bool (relOk (n, a, s)))))) := by
  refine pu_enter Tryz.func95 rfl (Nat.le_of_ble_eq_true rfl) fun w S => ?_
  refine t_seq ?_
  refine t_region ?_
  refine r_op (o_box 0 rfl rfl rfl rfl) ?_
  refine r_op (o_assign rfl rfl) ?_
  refine r_end ?_
  refine t_seq ?_
  refine t_region ?_
  refine r_op (o_fieldb rfl (off := 0) (by kernel_rfl) rfl) ?_
  refine r_op (o_load1b rfl (by kernel_rfl) rfl rfl rfl) ?_
  refine r_op (o_lenS rfl Tryz.underlying9 rfl) ?_
  refine r_op (o_bin rfl rfl rfl rfl) ?_
  refine r_op (o_move rfl rfl) ?_
  refine r_guard rfl rfl rfl (fun g1 => ?_) (fun g1 => ?_)
  ·
    have g1' := of_decide_eq_true g1
    refine r_op (o_fieldb rfl (off := 0) (by kernel_rfl) rfl) ?_
    refine r_guard rfl rfl rfl (fun _ => ?_) (nc g1)
    refine r_op (o_load1b rfl (by kernel_rfl) rfl rfl rfl) ?_
    refine r_guard rfl rfl rfl (fun _ => ?_) (nc g1)
    refine r_op (o_str rfl rfl rfl rfl) ?_
    refine r_op (o_pickT rfl rfl g1 rfl) ?_
    refine r_op (o_move rfl rfl) ?_
    refine r_guard rfl rfl rfl (fun g2 => ?_) (fun g2 => ?_)
    ·
      have g2' := (bnt g2)
      refine r_op (o_fieldb rfl (off := 0) (by kernel_rfl) rfl) ?_
      refine r_guard rfl rfl rfl (fun _ => ?_) (nc g2)
      refine r_op (o_load1b rfl (by kernel_rfl) rfl rfl rfl) ?_
      refine r_guard rfl rfl rfl (fun _ => ?_) (nc g2)
      refine r_op (o_str rfl rfl rfl rfl) ?_
      refine r_op (o_pickT rfl rfl g2 rfl) ?_
      refine r_op (o_move rfl rfl) ?_
      refine r_guard rfl rfl rfl (fun g3 => ?_) (fun g3 => ?_)
      ·
        have g3' := (bnt g3)
        refine r_op (o_fieldb rfl (off := 1) (by kernel_rfl) rfl) ?_
        refine r_guard rfl rfl rfl (fun _ => ?_) (nc g3)
        refine r_op (o_load1b rfl (by kernel_rfl) rfl rfl rfl) ?_
        refine r_guard rfl rfl rfl (fun _ => ?_) (nc g3)
        refine r_op (o_call 1 1 false (Go.Proofs.enters_of Tryz.func86 (by kernel_rfl) rfl) (c_impl_within (a) (1) (3)) rfl (.cons rfl (.c .t0) (.cons rfl (.c .t0) (.cons rfl (.c .t0) .nil))) rfl rfl rfl) ?_
        refine r_op (o_pickT rfl rfl g3 rfl) ?_
        refine r_op (o_assign rfl rfl) ?_
        refine r_end ?_
        refine t_ret Tryz.func95 (.tmp rfl .nil) rfl fun E S w u hI hd => ?_
        refine post_mk hI hd ?_ trivial rfl rfl rfl <;> clear hI hd
        all_goals first | rfl | (refine scB ?_; first | (have e := nameOk_not (by assumption); simp [relOk, e]; done) | (obtain ⟨c, rfl⟩ := one_of (by assumption); simp only [less_lo, less_hi, Bool.not_eq_true', Bool.not_eq_false', decide_eq_true_eq, decide_eq_false_iff_not] at *; simp [relOk, nameOk]; omega))
      ·
        have g3' := (bnf g3)
        refine r_guard rfl rfl rfl (ncf g3) (fun _ => ?_)
        refine r_guard rfl rfl rfl (ncf g3) (fun _ => ?_)
        refine r_op (o_pickF rfl rfl g3 rfl) ?_
        refine r_op (o_assign rfl rfl) ?_
        refine r_end ?_
        refine t_ret Tryz.func95 (.tmp rfl .nil) rfl fun E S w u hI hd => ?_
        refine post_mk hI hd ?_ trivial rfl rfl rfl <;> clear hI hd
        all_goals first | rfl | (refine scB ?_; first | (have e := nameOk_not (by assumption); simp [relOk, e]; done) | (obtain ⟨c, rfl⟩ := one_of (by assumption); simp only [less_lo, less_hi, Bool.not_eq_true', Bool.not_eq_false', decide_eq_true_eq, decide_eq_false_iff_not] at *; simp [relOk, nameOk]; omega))
    ·
      have g2' := (bnf g2)
      refine r_guard rfl rfl rfl (ncf g2) (fun _ => ?_)
      refine r_guard rfl rfl rfl (ncf g2) (fun _ => ?_)
      refine r_op (o_pickF rfl rfl g2 rfl) ?_
      refine r_op (o_move rfl rfl) ?_
      refine r_guard rfl rfl rfl (ncf rfl) (fun _ => ?_)
      refine r_guard rfl rfl rfl (ncf rfl) (fun _ => ?_)
      refine r_guard rfl rfl rfl (ncf rfl) (fun _ => ?_)
      refine r_op (o_pickF rfl rfl rfl rfl) ?_
      refine r_op (o_assign rfl rfl) ?_
      refine r_end ?_
      refine t_ret Tryz.func95 (.tmp rfl .nil) rfl fun E S w u hI hd => ?_
      refine post_mk hI hd ?_ trivial rfl rfl rfl <;> clear hI hd
      all_goals first | rfl | (refine scB ?_; first | (have e := nameOk_not (by assumption); simp [relOk, e]; done) | (obtain ⟨c, rfl⟩ := one_of (by assumption); simp only [less_lo, less_hi, Bool.not_eq_true', Bool.not_eq_false', decide_eq_true_eq, decide_eq_false_iff_not] at *; simp [relOk, nameOk]; omega))
  ·
    have g1' := of_decide_eq_false g1
    refine r_guard rfl rfl rfl (ncf g1) (fun _ => ?_)
    refine r_guard rfl rfl rfl (ncf g1) (fun _ => ?_)
    refine r_op (o_pickF rfl rfl g1 rfl) ?_
    refine r_op (o_move rfl rfl) ?_
    refine r_guard rfl rfl rfl (ncf rfl) (fun _ => ?_)
    refine r_guard rfl rfl rfl (ncf rfl) (fun _ => ?_)
    refine r_guard rfl rfl rfl (ncf rfl) (fun _ => ?_)
    refine r_op (o_pickF rfl rfl rfl rfl) ?_
    refine r_op (o_move rfl rfl) ?_
    refine r_guard rfl rfl rfl (ncf rfl) (fun _ => ?_)
    refine r_guard rfl rfl rfl (ncf rfl) (fun _ => ?_)
    refine r_guard rfl rfl rfl (ncf rfl) (fun _ => ?_)
    refine r_op (o_pickF rfl rfl rfl rfl) ?_
    refine r_op (o_assign rfl rfl) ?_
    refine r_end ?_
    refine t_ret Tryz.func95 (.tmp rfl .nil) rfl fun E S w u hI hd => ?_
    refine post_mk hI hd ?_ trivial rfl rfl rfl <;> clear hI hd
    all_goals first | rfl | (refine scB ?_; first | (have e := nameOk_not (by assumption); simp [relOk, e]; done) | (obtain ⟨c, rfl⟩ := one_of (by assumption); simp only [less_lo, less_hi, Bool.not_eq_true', Bool.not_eq_false', decide_eq_true_eq, decide_eq_false_iff_not] at *; simp [relOk, nameOk]; omega))
set_option maxHeartbeats 1000000 in
set_option maxRecDepth 10000 in
theorem c_impl_AreValidRelations (l : List (List UInt8 × Int × Bool)) (hl : l.length ≤ 4611686018427387904) : Pu Tryz.prog 56 [.c (.t none (.sl 3 (enS3 encS encI encB) (l)))] [] 0 (.c (.t none (.v (.bool (relsOk l))))) := by
  refine pu_enter Tryz.func56 rfl (Nat.le_of_ble_eq_true rfl) fun w S => ?_
  refine t_seq ?_
  refine t_region ?_
  refine r_op (o_assign rfl rfl) ?_
  refine r_end ?_
  refine t_seq ?_
  refine t_seq ?_
  refine t_region ?_
  refine r_op (o_move rfl rfl) ?_
  refine r_op (o_len rfl rfl rfl) ?_
  refine r_op (o_move rfl rfl) ?_
  refine r_end ?_
  refine t_block ?_
  refine t_loopL (fun m => ⟨[(0, some (.c (.t none (.sl 3 (enS3 encS encI encB) (l))))), (5, some (.c (.t none (.sl 3 (enS3 encS encI encB) (l))))), (6, some (.c (.t none (.v (.int .i64 (((l).length : Int))))))), (7, some (.c (.t none (.v (.int .i64 ((m : Int)))))))], [], 0⟩ : Nat → St) (fun m => m ≤ l.length ∧ ∀ j, j < m → relStep l j = true) (fun m => l.length - m) 0 ⟨⟨rfl, ⟨rfl, ⟨rfl, ⟨rfl, trivial⟩⟩⟩⟩, trivial, rfl⟩ (by exact ⟨Nat.zero_le _, fun j h => by omega⟩) ?_
  rintro m hI ih0
  try dsimp only at hI ih0
  obtain ⟨i1, i2⟩ := hI
  refine t_seq ?_
  refine t_region ?_
  refine r_op (o_bin rfl rfl rfl rfl) ?_
  refine r_end ?_
  refine t_seq ?_
  refine t_cond rfl (fun h1 => ?_) (fun h1 => ?_)
  ·
    have h1' := of_decide_eq_true h1
    refine t_skip ?_
    refine t_seq ?_
    refine t_block ?_
    refine t_seq ?_
    refine t_region ?_
    refine r_op (o_move rfl rfl) ?_
    obtain ⟨z2, hz3, b4⟩ := at_get (xs := l) (n := (m : Int)) (by first | omega | (simp; omega) | (simp only [IntKind.wrap_i64]; omega)) (by first | omega | (simp; omega) | (simp only [IntKind.wrap_i64]; omega))
    refine r_op (o_index rfl (by kernel_rfl) rfl rfl b4 hz3) ?_
    refine r_op (o_loadA rfl (n := 3) (by kernel_rfl) (by kernel_rfl) rfl rfl) ?_
    refine r_op (o_alloc 0 (zs := [.string (mkS ([])), .int .i64 (0), .bool (false)]) rfl rfl (by kernel_rfl) rfl) ?_
    refine r_op (o_assign rfl rfl) ?_
    refine r_op (o_storeb (n := 3) (by kernel_rfl) rfl rfl rfl rfl rfl rfl) ?_
    refine r_end ?_
    refine t_seq ?_
    refine t_draw (fun _ => true) (by kernel_rfl) ?_
    refine d_take 0 rfl rfl (by kernel_rfl) (by kernel_rfl) (by kernel_rfl) (p_loadAb (n := 3) (by kernel_rfl) (by kernel_rfl) rfl rfl rfl) ?_
    refine d_only 1 rfl (by kernel_rfl) rfl (o_call 1 1 false (Go.Proofs.enters_of Tryz.func95 (by kernel_rfl) rfl) (c_impl_IsValidRelation (z2.1) (z2.2.1) (z2.2.2)) rfl (.cons rfl (.agg (.cons .t0 (.cons .t0 (.cons .t0 .nil)))) .nil) rfl rfl rfl) ?_
    refine d_take 2 rfl rfl (by kernel_rfl) (by kernel_rfl) (by kernel_rfl) (p_not rfl) ?_
    refine d_take 3 rfl rfl (by kernel_rfl) (by kernel_rfl) (by kernel_rfl) (p_move rfl) ?_
    refine d_guard 4 rfl rfl (by kernel_rfl) (by kernel_rfl) (by kernel_rfl) rfl rfl (fun _ => p_move rfl) (fun g5 => ?_) (fun g5 => ?_)
    ·
      have g5' := (bnf g5)
      refine d_guard 5 rfl rfl (by kernel_rfl) (by kernel_rfl) (by kernel_rfl) rfl rfl (fun _ => p_bin rfl rfl rfl) (fun _ => ?_) (ncf g5)
      refine d_guard 6 rfl rfl (by kernel_rfl) (by kernel_rfl) (by kernel_rfl) rfl rfl (fun _ => p_move rfl) (fun _ => ?_) (ncf g5)
      refine d_guard 7 rfl rfl (by kernel_rfl) (by kernel_rfl) (by kernel_rfl) rfl rfl (fun _ => p_fieldb (off := 0) (by kernel_rfl) rfl) (fun g6 => ?_) (fun g6 => ?_)
      ·
        have g6' := of_decide_eq_true g6
        refine d_guard 8 rfl rfl (by kernel_rfl) (by kernel_rfl) (by kernel_rfl) rfl rfl (fun _ => p_load1b (by kernel_rfl) rfl rfl rfl) (fun _ => ?_) (nc g6)
        refine d_guard 9 rfl rfl (by kernel_rfl) (by kernel_rfl) (by kernel_rfl) rfl rfl (fun _ => p_move rfl) (fun _ => ?_) (nc g6)
        refine d_guard 10 rfl rfl (by kernel_rfl) (by kernel_rfl) (by kernel_rfl) rfl rfl (fun _ => p_move rfl) (fun _ => ?_) (nc g6)
        refine d_guard 11 rfl rfl (by kernel_rfl) (by kernel_rfl) (by kernel_rfl) rfl rfl (fun _ => p_bin rfl rfl rfl) (fun _ => ?_) (nc g6)
        obtain ⟨z7, hz8, b9⟩ := at_get (xs := l) (n := IntKind.i64.wrap ((m : Int) - 1)) (by first | omega | (simp; omega) | (simp only [IntKind.wrap_i64]; omega)) (by first | omega | (simp; omega) | (simp only [IntKind.wrap_i64]; omega))
        refine d_guard 12 rfl rfl (by kernel_rfl) (by kernel_rfl) (by kernel_rfl) rfl rfl (fun _ => p_index (by kernel_rfl) rfl rfl b9 hz8) (fun _ => ?_) (nc g6)
        refine d_guard 13 rfl rfl (by kernel_rfl) (by kernel_rfl) (by kernel_rfl) rfl rfl (fun _ => p_field (off := 0) (by kernel_rfl) rfl) (fun _ => ?_) (nc g6)
        refine d_guard 14 rfl rfl (by kernel_rfl) (by kernel_rfl) (by kernel_rfl) rfl rfl (fun _ => p_load1 (by kernel_rfl) rfl rfl) (fun _ => ?_) (nc g6)
        refine d_guard 15 rfl rfl (by kernel_rfl) (by kernel_rfl) (by kernel_rfl) rfl rfl (fun _ => p_str rfl rfl rfl) (fun _ => ?_) (nc g6)
        refine d_guard 16 rfl rfl (by kernel_rfl) (by kernel_rfl) (by kernel_rfl) rfl rfl (fun _ => p_pickT rfl g6 rfl) (fun _ => ?_) (ncf g5)
        refine d_take 17 rfl rfl (by kernel_rfl) (by kernel_rfl) (by kernel_rfl) (p_pickF rfl g5 rfl) ?_
        refine d_end (by kernel_rfl) ?_
        refine t_cond rfl (fun h10 => ?_) (fun h10 => ?_)
        ·
          have h10' := (bnt h10)
          refine t_seq ?_
          refine t_region ?_
          refine r_op (o_assign rfl rfl) ?_
          refine r_end ?_
          refine t_ret Tryz.func56 (.tmp rfl .nil) rfl fun E S w u hI hd => ?_
          refine post_mk hI hd ?_ trivial rfl rfl rfl <;> clear hI hd <;> (try clear ih0)
          all_goals first | rfl | (rw [relsOk_not (m := m) (by omega) (relStep_pos (n := (IntKind.i64.wrap ((m : Int) - 1)).toNat) (by assumption) (by assumption) (by omega) (by simp only [IntKind.wrap_i64]; omega) (by assumption) (by assumption))])
        ·
          have h10' := (bnf h10)
          refine t_skip ?_
          refine t_endblock ?_
          refine t_region ?_
          refine r_op (o_bin rfl rfl rfl rfl) ?_
          refine r_op (o_move rfl rfl) ?_
          refine r_end ?_
          refine t_le ?_ (ih0 (m + 1) (by (try dsimp only); omega) (by (try dsimp only); exact ⟨by omega, step_all i2 (relStep_pos (n := (IntKind.i64.wrap ((m : Int) - 1)).toNat) (by assumption) (by assumption) (by omega) (by simp only [IntKind.wrap_i64]; omega) (by assumption) (by assumption))⟩))
          exact ⟨⟨rfl, ⟨rfl, ⟨rfl, ⟨(eqI (wr64 (by omega) (by omega))), trivial⟩⟩⟩⟩, trivial, rfl⟩
      ·
        have g6' := of_decide_eq_false g6
        refine d_guard 8 rfl rfl (by kernel_rfl) (by kernel_rfl) (by kernel_rfl) rfl rfl (v := .c .top) (ncf g6) (ncf g6) (fun _ => ?_)
        refine d_guard 9 rfl rfl (by kernel_rfl) (by kernel_rfl) (by kernel_rfl) rfl rfl (v := .c .top) (ncf g6) (ncf g6) (fun _ => ?_)
        refine d_guard 10 rfl rfl (by kernel_rfl) (by kernel_rfl) (by kernel_rfl) rfl rfl (v := .c .top) (ncf g6) (ncf g6) (fun _ => ?_)
        refine d_guard 11 rfl rfl (by kernel_rfl) (by kernel_rfl) (by kernel_rfl) rfl rfl (v := .c .top) (ncf g6) (ncf g6) (fun _ => ?_)
        refine d_guard 12 rfl rfl (by kernel_rfl) (by kernel_rfl) (by kernel_rfl) rfl rfl (v := .c .top) (ncf g6) (ncf g6) (fun _ => ?_)
        refine d_guard 13 rfl rfl (by kernel_rfl) (by kernel_rfl) (by kernel_rfl) rfl rfl (v := .c .top) (ncf g6) (ncf g6) (fun _ => ?_)
        refine d_guard 14 rfl rfl (by kernel_rfl) (by kernel_rfl) (by kernel_rfl) rfl rfl (v := .c .top) (ncf g6) (ncf g6) (fun _ => ?_)
        refine d_guard 15 rfl rfl (by kernel_rfl) (by kernel_rfl) (by kernel_rfl) rfl rfl (v := .c .top) (ncf g6) (ncf g6) (fun _ => ?_)
        refine d_guard 16 rfl rfl (by kernel_rfl) (by kernel_rfl) (by kernel_rfl) rfl rfl (fun _ => p_pickF rfl g6 rfl) (fun _ => ?_) (ncf g5)
        refine d_take 17 rfl rfl (by kernel_rfl) (by kernel_rfl) (by kernel_rfl) (p_pickF rfl g5 rfl) ?_
        refine d_end (by kernel_rfl) ?_
        refine t_cond rfl (ncf rfl) (fun _ => ?_)
        refine t_skip ?_
        refine t_endblock ?_
        refine t_region ?_
        refine r_op (o_bin rfl rfl rfl rfl) ?_
        refine r_op (o_move rfl rfl) ?_
        refine r_end ?_
        refine t_le ?_ (ih0 (m + 1) (by (try dsimp only); omega) (by (try dsimp only); exact ⟨by omega, step_all i2 (relStep_zero (by assumption) (by assumption) (by omega))⟩))
        exact ⟨⟨rfl, ⟨rfl, ⟨rfl, ⟨(eqI (wr64 (by omega) (by omega))), trivial⟩⟩⟩⟩, trivial, rfl⟩
    ·
      have g5' := (bnt g5)
      refine d_guard 5 rfl rfl (by kernel_rfl) (by kernel_rfl) (by kernel_rfl) rfl rfl (v := .c .top) (nc g5) (nc g5) (fun _ => ?_)
      refine d_guard 6 rfl rfl (by kernel_rfl) (by kernel_rfl) (by kernel_rfl) rfl rfl (v := .c .top) (nc g5) (nc g5) (fun _ => ?_)
      refine d_skip 7 rfl rfl (by kernel_rfl) (by kernel_rfl) (by kernel_rfl) rfl rfl ?_
      refine d_skip 8 rfl rfl (by kernel_rfl) (by kernel_rfl) (by kernel_rfl) rfl rfl ?_
      refine d_skip 9 rfl rfl (by kernel_rfl) (by kernel_rfl) (by kernel_rfl) rfl rfl ?_
      refine d_skip 10 rfl rfl (by kernel_rfl) (by kernel_rfl) (by kernel_rfl) rfl rfl ?_
      refine d_skip 11 rfl rfl (by kernel_rfl) (by kernel_rfl) (by kernel_rfl) rfl rfl ?_
      refine d_skip 12 rfl rfl (by kernel_rfl) (by kernel_rfl) (by kernel_rfl) rfl rfl ?_
      refine d_skip 13 rfl rfl (by kernel_rfl) (by kernel_rfl) (by kernel_rfl) rfl rfl ?_
      refine d_skip 14 rfl rfl (by kernel_rfl) (by kernel_rfl) (by kernel_rfl) rfl rfl ?_
      refine d_skip 15 rfl rfl (by kernel_rfl) (by kernel_rfl) (by kernel_rfl) rfl rfl ?_
      refine d_guard 16 rfl rfl (by kernel_rfl) (by kernel_rfl) (by kernel_rfl) rfl rfl (v := .c .top) (nc g5) (nc g5) (fun _ => ?_)
      refine d_take 17 rfl rfl (by kernel_rfl) (by kernel_rfl) (by kernel_rfl) (p_pickT rfl g5 rfl) ?_
      refine d_end (by kernel_rfl) ?_
      refine t_cond rfl (fun _ => ?_) (nc rfl)
      refine t_seq ?_
      refine t_region ?_
      refine r_op (o_assign rfl rfl) ?_
      refine r_end ?_
      refine t_ret Tryz.func56 (.tmp rfl .nil) rfl fun E S w u hI hd => ?_
      refine post_mk hI hd ?_ trivial rfl rfl rfl <;> clear hI hd <;> (try clear ih0)
      all_goals first | rfl | (rw [relsOk_not (m := m) (by omega) (relStep_bad (by assumption) (by assumption))])
  ·
    have h1' := of_decide_eq_false h1
    refine t_exit rfl ?_
    refine t_seq ?_
    refine t_region ?_
    refine r_op (o_move rfl rfl) ?_
    refine r_op (o_len rfl rfl rfl) ?_
    refine r_op (o_bin rfl rfl rfl rfl) ?_
    refine r_op (o_assign rfl rfl) ?_
    refine r_end ?_
    refine t_ret Tryz.func56 (.tmp rfl .nil) rfl fun E S w u hI hd => ?_
    refine post_mk hI hd ?_ trivial rfl rfl rfl <;> clear hI hd <;> (try clear ih0)
    all_goals first | rfl | (rw [relsOk_end (m := m) i2 (by omega)]; exact scD (by omega))
set_option maxHeartbeats 1000000 in
set_option maxRecDepth 10000 in
theorem c_slices_IndexFunc___int_int_ (l : List (Int)) (f : Nat) (cs : List ((Nat → T) × Nat)) (p : Int → Bool) (hl : l.length ≤ 9223372036854775807) (hf : ∀ x ∈ l, Fu Tryz.prog f ([.c (.t none (.v (.int .i64 (x))))] ++ pels cs) (.c (.t none (.v (.bool (p x)))))) : Pu Tryz.prog 172 [.c (.t none (.sl 1 encI (l))), .c (.fv f cs)] [] 0 (.c (.t none (.v (.int .i64 (idxI p l))))) := by
  refine pu_enter Tryz.func172 rfl (Nat.le_of_ble_eq_true rfl) fun w S => ?_
  refine t_seq ?_
  refine t_region ?_
  refine r_op (o_assign rfl rfl) ?_
  refine r_end ?_
  refine t_seq ?_
  refine t_seq ?_
  refine t_region ?_
  refine r_op (o_move rfl rfl) ?_
  refine r_op (o_len rfl rfl rfl) ?_
  refine r_op (o_move rfl rfl) ?_
  refine r_end ?_
  refine t_block ?_
  refine t_loopL (fun m => ⟨[(0, some (.c (.t none (.sl 1 encI (l))))), (1, some (.c (.fv f cs))), (7, some (.c (.t none (.v (.int .i64 (((l).length : Int))))))), (8, some (.c (.t none (.v (.int .i64 ((m : Int)))))))], [], 0⟩ : Nat → St) (fun m => m ≤ l.length ∧ ∀ j z, j < m → l[j]? = some z → p z = false) (fun m => l.length - m) 0 ⟨⟨rfl, ⟨rfl, ⟨rfl, ⟨rfl, trivial⟩⟩⟩⟩, trivial, rfl⟩ (by exact ⟨Nat.zero_le _, fun j z h => by omega⟩) ?_
  rintro m hI ih0
  try dsimp only at hI ih0
  obtain ⟨i1, i2⟩ := hI
  refine t_seq ?_
  refine t_region ?_
  refine r_op (o_bin rfl rfl rfl rfl) ?_
  refine r_end ?_
  refine t_seq ?_
  refine t_cond rfl (fun h1 => ?_) (fun h1 => ?_)
  ·
    have h1' := of_decide_eq_true h1
    refine t_skip ?_
    refine t_seq ?_
    refine t_block ?_
    refine t_seq ?_
    refine t_region ?_
    refine r_op (o_move rfl rfl) ?_
    refine r_op (o_assign rfl rfl) ?_
    refine r_end ?_
    refine t_seq ?_
    refine t_region ?_
    refine r_op (o_move rfl rfl) ?_
    refine r_op (o_move rfl rfl) ?_
    refine r_op (o_move rfl rfl) ?_
    obtain ⟨z2, hz3, b4⟩ := at_get (xs := l) (n := (m : Int)) (by first | omega | (simp; omega)) (by first | omega | (simp; omega))
    refine r_op (o_index rfl (by kernel_rfl) rfl rfl b4 hz3) ?_
    refine r_op (o_load1 rfl (by kernel_rfl) rfl rfl) ?_
    refine r_op (o_callv 0 0 false (hf z2 (List.mem_of_getElem? (by assumption))).1 (hf z2 (List.mem_of_getElem? (by assumption))).2 rfl rfl (.c .fv) (.cons rfl (.c .t0) .nil) rfl rfl rfl) ?_
    refine r_end ?_
    refine t_cond rfl (fun h5 => ?_) (fun h5 => ?_)
    ·
      have h5' := h5
      refine t_seq ?_
      refine t_region ?_
      refine r_op (o_move rfl rfl) ?_
      refine r_op (o_assign rfl rfl) ?_
      refine r_end ?_
      refine t_ret Tryz.func172 (.tmp rfl .nil) rfl fun E S w u hI hd => ?_
      refine post_mk hI hd ?_ trivial rfl rfl rfl <;> clear hI hd <;> (try clear ih0)
      all_goals first | rfl | (rw [idx_hit i2 (by assumption) (by assumption)])
    ·
      have h5' := h5
      refine t_skip ?_
      refine t_endblock ?_
      refine t_region ?_
      refine r_op (o_bin rfl rfl rfl rfl) ?_
      refine r_op (o_move rfl rfl) ?_
      refine r_end ?_
      refine t_le ?_ (ih0 (m + 1) (by (try dsimp only); omega) (by (try dsimp only); exact ⟨by omega, no_step i2 (by assumption) rfl (by assumption)⟩))
      exact ⟨⟨rfl, ⟨rfl, ⟨rfl, ⟨(eqI (wr64 (by omega) (by omega))), trivial⟩⟩⟩⟩, trivial, rfl⟩
  ·
    have h1' := of_decide_eq_false h1
    refine t_exit rfl ?_
    refine t_seq ?_
    refine t_region ?_
    refine r_op (o_assign rfl rfl) ?_
    refine r_end ?_
    refine t_ret Tryz.func172 (.tmp rfl .nil) rfl fun E S w u hI hd => ?_
    refine post_mk hI hd ?_ trivial rfl rfl rfl <;> clear hI hd <;> (try clear ih0)
    all_goals first | rfl | (rw [idx_none i2 (by omega)])
set_option maxHeartbeats 1000000 in
set_option maxRecDepth 10000 in
theorem c_slices_ContainsFunc___int_int_ (l : List (Int)) (f : Nat) (cs : List ((Nat → T) × Nat)) (p : Int → Bool) (hl : l.length ≤ 9223372036854775807) (hf : ∀ x ∈ l, Fu Tryz.prog f ([.c (.t none (.v (.int .i64 (x))))] ++ pels cs) (.c (.t none (.v (.bool (p x)))))) : Pu Tryz.prog 165 [.c (.t none (.sl 1 encI (l))), .c (.fv f cs)] [] 0 (.c (.t none (.v (.bool (l.any p))))) := by
  refine pu_enter Tryz.func165 rfl (Nat.le_of_ble_eq_true rfl) fun w S => ?_
  refine t_seq ?_
  refine t_region ?_
  refine r_op (o_assign rfl rfl) ?_
  refine r_end ?_
  refine t_seq ?_
  refine t_region ?_
  refine r_op (o_move rfl rfl) ?_
  refine r_op (o_move rfl rfl) ?_
  refine r_op (o_call 0 0 false (Go.Proofs.enters_of Tryz.func172 (by kernel_rfl) rfl) (c_slices_IndexFunc___int_int_ (l) (f) (cs) (p) (by first | omega | (simp; omega)) (hf)) rfl (.cons rfl (.c .t0) (.cons rfl (.c .fv) .nil)) rfl rfl rfl) ?_
  refine r_op (o_bin rfl rfl rfl rfl) ?_
  refine r_op (o_assign rfl rfl) ?_
  refine r_end ?_
  refine t_ret Tryz.func165 (.tmp rfl .nil) rfl fun E S w u hI hd => ?_
  refine post_mk hI hd ?_ trivial rfl rfl rfl <;> clear hI hd
  all_goals first | rfl | (exact scB idx_any)
set_option maxHeartbeats 1000000 in
set_option maxRecDepth 10000 in
theorem c_impl_IsValidAtom_1 (t : Int) : Pu Tryz.prog 166 [.c (.t none (.v (.int .i64 (t))))] [] 0 (.c (.t none (.v (.bool (!(termOk t)))))) := by
  refine pu_enter Tryz.func166 rfl (Nat.le_of_ble_eq_true rfl) fun w S => ?_
  refine t_seq ?_
  refine t_region ?_
  refine r_op (o_assign rfl rfl) ?_
  refine r_end ?_
  refine t_seq ?_
  refine t_region ?_
  refine r_op (o_move rfl rfl) ?_
  refine r_op (o_call 0 0 false (Go.Proofs.enters_of Tryz.func86 (by kernel_rfl) rfl) (c_impl_within (t) (-10) (4)) rfl (.cons rfl (.c .t0) (.cons rfl (.c .t0) (.cons rfl (.c .t0) .nil))) rfl rfl rfl) ?_
  refine r_op (o_not rfl rfl) ?_
  refine r_op (o_assign rfl rfl) ?_
  refine r_end ?_
  refine t_ret Tryz.func166 (.tmp rfl .nil) rfl fun E S w u hI hd => ?_
  refine post_mk hI hd ?_ trivial rfl rfl rfl <;> clear hI hd
  all_goals first | rfl | (refine scB ?_; unfold termOk; rfl)
set_option maxHeartbeats 1000000 in
set_option maxRecDepth 10000 in
theorem c_impl_IsValidAtom (rs : List (List UInt8 × Int × Bool)) (r : Int) (ts : List Int) (hrs : rs.length ≤ 4611686018427387904) (hts : ts.length ≤ 4611686018427387904) : Pu Tryz.prog 143 [.c (.t none (.sl 3 (enS3 encS encI encB) (rs))), .agg [.t none (.v (.int .i64 (r))), .t none (.sl 1 encI (ts))]] [] 0 (.c (.t none (.v (.bool (atomOk rs r ts))))) := by
  refine pu_enter Tryz.func143 rfl (Nat.le_of_ble_eq_true rfl) fun w S => ?_
  refine t_seq ?_
  refine t_region ?_
  refine r_op (o_box 0 rfl rfl rfl rfl) ?_
  refine r_op (o_assign rfl rfl) ?_
  refine r_end ?_
  refine t_seq ?_
  refine t_seq ?_
  refine t_draw (fun _ => true) (by kernel_rfl) ?_
  refine d_take 0 rfl rfl (by kernel_rfl) (by kernel_rfl) (by kernel_rfl) (p_move rfl) ?_
  refine d_only 1 rfl (by kernel_rfl) rfl (o_call 1 1 false (Go.Proofs.enters_of Tryz.func56 (by kernel_rfl) rfl) (c_impl_AreValidRelations (rs) (by first | omega | assumption | (simp; omega) | (simp only [IntKind.wrap_i64] at *; omega))) rfl (.cons rfl (.c .t0) .nil) rfl rfl rfl) ?_
  refine d_take 2 rfl rfl (by kernel_rfl) (by kernel_rfl) (by kernel_rfl) (p_not rfl) ?_
  refine d_take 3 rfl rfl (by kernel_rfl) (by kernel_rfl) (by kernel_rfl) (p_move rfl) ?_
  refine d_guard 4 rfl rfl (by kernel_rfl) (by kernel_rfl) (by kernel_rfl) rfl rfl (fun _ => p_fieldb (off := 0) (by kernel_rfl) rfl) (fun g1 => ?_) (fun g1 => ?_)
  ·
    have g1' := (bnf g1)
    refine d_guard 5 rfl rfl (by kernel_rfl) (by kernel_rfl) (by kernel_rfl) rfl rfl (fun _ => p_load1b (by kernel_rfl) rfl rfl rfl) (fun _ => ?_) (ncf g1)
    refine d_guard 6 rfl rfl (by kernel_rfl) (by kernel_rfl) (by kernel_rfl) rfl rfl (fun _ => p_move rfl) (fun _ => ?_) (ncf g1)
    refine d_guard 7 rfl rfl (by kernel_rfl) (by kernel_rfl) (by kernel_rfl) rfl rfl (fun _ => p_len rfl rfl) (fun _ => ?_) (ncf g1)
    refine d_guard 8 rfl rfl (by kernel_rfl) (by kernel_rfl) (by kernel_rfl) rfl rfl (fun _ => p_bin rfl rfl rfl) (fun _ => ?_) (ncf g1)
    refine d_onlyG 9 rfl rfl (by kernel_rfl) rfl rfl rfl (fun _ => (o_call 1 1 false (Go.Proofs.enters_of Tryz.func86 (by kernel_rfl) rfl) (c_impl_within (r) (0) (IntKind.i64.wrap (((rs).length : Int) - 1))) rfl (.cons rfl (.c .t0) (.cons rfl (.c .t0) (.cons rfl (.c .t0) .nil))) rfl rfl rfl)) (fun _ => ?_) (ncf g1)
    refine d_guard 10 rfl rfl (by kernel_rfl) (by kernel_rfl) (by kernel_rfl) rfl rfl (fun _ => p_not rfl) (fun _ => ?_) (ncf g1)
    refine d_take 11 rfl rfl (by kernel_rfl) (by kernel_rfl) (by kernel_rfl) (p_pickF rfl g1 rfl) ?_
    refine d_take 12 rfl rfl (by kernel_rfl) (by kernel_rfl) (by kernel_rfl) (p_move rfl) ?_
    refine d_guard 13 rfl rfl (by kernel_rfl) (by kernel_rfl) (by kernel_rfl) rfl rfl (fun _ => p_fieldb (off := 1) (by kernel_rfl) rfl) (fun g2 => ?_) (fun g2 => ?_)
    ·
      have g2' := of_decide_eq_true (bnf g2)
      refine d_guard 14 rfl rfl (by kernel_rfl) (by kernel_rfl) (by kernel_rfl) rfl rfl (fun _ => p_load1b (by kernel_rfl) rfl rfl rfl) (fun _ => ?_) (ncf g2)
      refine d_guard 15 rfl rfl (by kernel_rfl) (by kernel_rfl) (by kernel_rfl) rfl rfl (fun _ => p_len rfl rfl) (fun _ => ?_) (ncf g2)
      refine d_guard 16 rfl rfl (by kernel_rfl) (by kernel_rfl) (by kernel_rfl) rfl rfl (fun _ => p_move rfl) (fun _ => ?_) (ncf g2)
      refine d_guard 17 rfl rfl (by kernel_rfl) (by kernel_rfl) (by kernel_rfl) rfl rfl (fun _ => p_fieldb (off := 0) (by kernel_rfl) rfl) (fun _ => ?_) (ncf g2)
      refine d_guard 18 rfl rfl (by kernel_rfl) (by kernel_rfl) (by kernel_rfl) rfl rfl (fun _ => p_load1b (by kernel_rfl) rfl rfl rfl) (fun _ => ?_) (ncf g2)
      obtain ⟨z3, hz4, b5⟩ := at_get (xs := rs) (n := r) (by first | omega | assumption | (simp; omega) | (simp only [IntKind.wrap_i64] at *; omega)) (by first | omega | assumption | (simp; omega) | (simp only [IntKind.wrap_i64] at *; omega))
      refine d_guard 19 rfl rfl (by kernel_rfl) (by kernel_rfl) (by kernel_rfl) rfl rfl (fun _ => p_index (by kernel_rfl) rfl rfl b5 hz4) (fun _ => ?_) (ncf g2)
      refine d_guard 20 rfl rfl (by kernel_rfl) (by kernel_rfl) (by kernel_rfl) rfl rfl (fun _ => p_field (off := 1) (by kernel_rfl) rfl) (fun _ => ?_) (ncf g2)
      refine d_guard 21 rfl rfl (by kernel_rfl) (by kernel_rfl) (by kernel_rfl) rfl rfl (fun _ => p_load1 (by kernel_rfl) rfl rfl) (fun _ => ?_) (ncf g2)
      refine d_guard 22 rfl rfl (by kernel_rfl) (by kernel_rfl) (by kernel_rfl) rfl rfl (fun _ => p_bin rfl rfl rfl) (fun _ => ?_) (ncf g2)
      refine d_take 23 rfl rfl (by kernel_rfl) (by kernel_rfl) (by kernel_rfl) (p_pickF rfl g2 rfl) ?_
      refine d_end (by kernel_rfl) ?_
      refine t_cond rfl (fun h6 => ?_) (fun h6 => ?_)
      ·
        have h6' := of_decide_eq_true h6
        refine t_seq ?_
        refine t_region ?_
        refine r_op (o_assign rfl rfl) ?_
        refine r_end ?_
        refine t_ret Tryz.func143 (.tmp rfl .nil) rfl fun E S w u hI hd => ?_
        refine post_mk hI hd ?_ trivial rfl rfl rfl <;> clear hI hd
        all_goals first | rfl | (refine scB ?_; first | (rw [atom_no1 (by assumption)]; done) | (rw [atom_no2 (by simp only [IntKind.wrap_i64] at *; omega)]; done) | (rw [atom_no3 (by assumption) (by assumption)]; done) | (rw [atom_yes (by assumption) (by simp only [IntKind.wrap_i64] at *; omega) (by assumption) (by omega)]; done) | (rw [atom_yes (by assumption) (by simp only [IntKind.wrap_i64] at *; omega) (by assumption) (by omega), any_true (p := fun t => !termOk t) (by assumption) (by simp only [termOk, Bool.not_eq_true']; exact decide_eq_false (by assumption))]; rfl) | (rw [atom_yes (by assumption) (by simp only [IntKind.wrap_i64] at *; omega) (by assumption) (by omega), any_false (p := fun t => !termOk t) i2 (by omega)]; rfl))
      ·
        have h6' := of_decide_eq_false h6
        refine t_skip ?_
        refine t_seq ?_
        refine t_region ?_
        refine r_op (o_fieldb rfl (off := 1) (by kernel_rfl) rfl) ?_
        refine r_op (o_load1b rfl (by kernel_rfl) rfl rfl rfl) ?_
        refine r_op (o_call 1 1 false (Go.Proofs.enters_of Tryz.func165 (by kernel_rfl) rfl) (c_slices_ContainsFunc___int_int_ (ts) (166) ([]) (fun (x0 : Int) => !(termOk (x0))) (by first | omega | assumption | (simp; omega) | (simp only [IntKind.wrap_i64] at *; omega)) (fun x0 mx0 => ⟨Go.Proofs.enters_of Tryz.func166 (by kernel_rfl) rfl, c_impl_IsValidAtom_1 (x0)⟩)) rfl (.cons rfl (.c .t0) (.cons rfl (.c (.clo .nil)) .nil)) rfl rfl rfl) ?_
        refine r_op (o_not rfl rfl) ?_
        refine r_op (o_assign rfl rfl) ?_
        refine r_end ?_
        refine t_ret Tryz.func143 (.tmp rfl .nil) rfl fun E S w u hI hd => ?_
        refine post_mk hI hd ?_ trivial rfl rfl rfl <;> clear hI hd
        all_goals first | rfl | (refine scB ?_; first | (rw [atom_no1 (by assumption)]; done) | (rw [atom_no2 (by simp only [IntKind.wrap_i64] at *; omega)]; done) | (rw [atom_no3 (by assumption) (by assumption)]; done) | (rw [atom_yes (by assumption) (by simp only [IntKind.wrap_i64] at *; omega) (by assumption) (by omega)]; done) | (rw [atom_yes (by assumption) (by simp only [IntKind.wrap_i64] at *; omega) (by assumption) (by omega), any_true (p := fun t => !termOk t) (by assumption) (by simp only [termOk, Bool.not_eq_true']; exact decide_eq_false (by assumption))]; rfl) | (rw [atom_yes (by assumption) (by simp only [IntKind.wrap_i64] at *; omega) (by assumption) (by omega), any_false (p := fun t => !termOk t) i2 (by omega)]; rfl))
    ·
      have g2' := of_decide_eq_false (bnt g2)
      refine d_guard 14 rfl rfl (by kernel_rfl) (by kernel_rfl) (by kernel_rfl) rfl rfl (v := .c .top) (nc g2) (nc g2) (fun _ => ?_)
      refine d_guard 15 rfl rfl (by kernel_rfl) (by kernel_rfl) (by kernel_rfl) rfl rfl (v := .c .top) (nc g2) (nc g2) (fun _ => ?_)
      refine d_guard 16 rfl rfl (by kernel_rfl) (by kernel_rfl) (by kernel_rfl) rfl rfl (v := .c .top) (nc g2) (nc g2) (fun _ => ?_)
      refine d_guard 17 rfl rfl (by kernel_rfl) (by kernel_rfl) (by kernel_rfl) rfl rfl (v := .c .top) (nc g2) (nc g2) (fun _ => ?_)
      refine d_guard 18 rfl rfl (by kernel_rfl) (by kernel_rfl) (by kernel_rfl) rfl rfl (v := .c .top) (nc g2) (nc g2) (fun _ => ?_)
      refine d_guard 19 rfl rfl (by kernel_rfl) (by kernel_rfl) (by kernel_rfl) rfl rfl (v := .c .top) (nc g2) (nc g2) (fun _ => ?_)
      refine d_guard 20 rfl rfl (by kernel_rfl) (by kernel_rfl) (by kernel_rfl) rfl rfl (v := .c .top) (nc g2) (nc g2) (fun _ => ?_)
      refine d_guard 21 rfl rfl (by kernel_rfl) (by kernel_rfl) (by kernel_rfl) rfl rfl (v := .c .top) (nc g2) (nc g2) (fun _ => ?_)
      refine d_guard 22 rfl rfl (by kernel_rfl) (by kernel_rfl) (by kernel_rfl) rfl rfl (v := .c .top) (nc g2) (nc g2) (fun _ => ?_)
      refine d_take 23 rfl rfl (by kernel_rfl) (by kernel_rfl) (by kernel_rfl) (p_pickT rfl g2 rfl) ?_
      refine d_end (by kernel_rfl) ?_
      refine t_cond rfl (fun _ => ?_) (nc rfl)
      refine t_seq ?_
      refine t_region ?_
      refine r_op (o_assign rfl rfl) ?_
      refine r_end ?_
      refine t_ret Tryz.func143 (.tmp rfl .nil) rfl fun E S w u hI hd => ?_
      refine post_mk hI hd ?_ trivial rfl rfl rfl <;> clear hI hd
      all_goals first | rfl | (refine scB ?_; first | (rw [atom_no1 (by assumption)]; done) | (rw [atom_no2 (by simp only [IntKind.wrap_i64] at *; omega)]; done) | (rw [atom_no3 (by assumption) (by assumption)]; done) | (rw [atom_yes (by assumption) (by simp only [IntKind.wrap_i64] at *; omega) (by assumption) (by omega)]; done) | (rw [atom_yes (by assumption) (by simp only [IntKind.wrap_i64] at *; omega) (by assumption) (by omega), any_true (p := fun t => !termOk t) (by assumption) (by simp only [termOk, Bool.not_eq_true']; exact decide_eq_false (by assumption))]; rfl) | (rw [atom_yes (by assumption) (by simp only [IntKind.wrap_i64] at *; omega) (by assumption) (by omega), any_false (p := fun t => !termOk t) i2 (by omega)]; rfl))
  ·
    have g1' := (bnt g1)
    refine d_guard 5 rfl rfl (by kernel_rfl) (by kernel_rfl) (by kernel_rfl) rfl rfl (v := .c .top) (nc g1) (nc g1) (fun _ => ?_)
    refine d_guard 6 rfl rfl (by kernel_rfl) (by kernel_rfl) (by kernel_rfl) rfl rfl (v := .c .top) (nc g1) (nc g1) (fun _ => ?_)
    refine d_guard 7 rfl rfl (by kernel_rfl) (by kernel_rfl) (by kernel_rfl) rfl rfl (v := .c .top) (nc g1) (nc g1) (fun _ => ?_)
    refine d_guard 8 rfl rfl (by kernel_rfl) (by kernel_rfl) (by kernel_rfl) rfl rfl (v := .c .top) (nc g1) (nc g1) (fun _ => ?_)
    refine d_guard 9 rfl rfl (by kernel_rfl) (by kernel_rfl) (by kernel_rfl) rfl rfl (v := .c .top) (nc g1) (nc g1) (fun _ => ?_)
    refine d_guard 10 rfl rfl (by kernel_rfl) (by kernel_rfl) (by kernel_rfl) rfl rfl (v := .c .top) (nc g1) (nc g1) (fun _ => ?_)
    refine d_take 11 rfl rfl (by kernel_rfl) (by kernel_rfl) (by kernel_rfl) (p_pickT rfl g1 rfl) ?_
    refine d_take 12 rfl rfl (by kernel_rfl) (by kernel_rfl) (by kernel_rfl) (p_move rfl) ?_
    refine d_guard 13 rfl rfl (by kernel_rfl) (by kernel_rfl) (by kernel_rfl) rfl rfl (v := .c .top) (nc rfl) (nc rfl) (fun _ => ?_)
    refine d_guard 14 rfl rfl (by kernel_rfl) (by kernel_rfl) (by kernel_rfl) rfl rfl (v := .c .top) (nc rfl) (nc rfl) (fun _ => ?_)
    refine d_guard 15 rfl rfl (by kernel_rfl) (by kernel_rfl) (by kernel_rfl) rfl rfl (v := .c .top) (nc rfl) (nc rfl) (fun _ => ?_)
    refine d_guard 16 rfl rfl (by kernel_rfl) (by kernel_rfl) (by kernel_rfl) rfl rfl (v := .c .top) (nc rfl) (nc rfl) (fun _ => ?_)
    refine d_guard 17 rfl rfl (by kernel_rfl) (by kernel_rfl) (by kernel_rfl) rfl rfl (v := .c .top) (nc rfl) (nc rfl) (fun _ => ?_)
    refine d_guard 18 rfl rfl (by kernel_rfl) (by kernel_rfl) (by kernel_rfl) rfl rfl (v := .c .top) (nc rfl) (nc rfl) (fun _ => ?_)
    refine d_guard 19 rfl rfl (by kernel_rfl) (by kernel_rfl) (by kernel_rfl) rfl rfl (v := .c .top) (nc rfl) (nc rfl) (fun _ => ?_)
    refine d_guard 20 rfl rfl (by kernel_rfl) (by kernel_rfl) (by kernel_rfl) rfl rfl (v := .c .top) (nc rfl) (nc rfl) (fun _ => ?_)
    refine d_guard 21 rfl rfl (by kernel_rfl) (by kernel_rfl) (by kernel_rfl) rfl rfl (v := .c .top) (nc rfl) (nc rfl) (fun _ => ?_)
    refine d_guard 22 rfl rfl (by kernel_rfl) (by kernel_rfl) (by kernel_rfl) rfl rfl (v := .c .top) (nc rfl) (nc rfl) (fun _ => ?_)
    refine d_take 23 rfl rfl (by kernel_rfl) (by kernel_rfl) (by kernel_rfl) (p_pickT rfl rfl rfl) ?_
    refine d_end (by kernel_rfl) ?_
    refine t_cond rfl (fun _ => ?_) (nc rfl)
    refine t_seq ?_
    refine t_region ?_
    refine r_op (o_assign rfl rfl) ?_
    refine r_end ?_
    refine t_ret Tryz.func143 (.tmp rfl .nil) rfl fun E S w u hI hd => ?_
    refine post_mk hI hd ?_ trivial rfl rfl rfl <;> clear hI hd
    all_goals first | rfl | (refine scB ?_; first | (rw [atom_no1 (by assumption)]; done) | (rw [atom_no2 (by simp only [IntKind.wrap_i64] at *; omega)]; done) | (rw [atom_no3 (by assumption) (by assumption)]; done) | (rw [atom_yes (by assumption) (by simp only [IntKind.wrap_i64] at *; omega) (by assumption) (by omega)]; done) | (rw [atom_yes (by assumption) (by simp only [IntKind.wrap_i64] at *; omega) (by assumption) (by omega), any_true (p := fun t => !termOk t) (by assumption) (by simp only [termOk, Bool.not_eq_true']; exact decide_eq_false (by assumption))]; rfl) | (rw [atom_yes (by assumption) (by simp only [IntKind.wrap_i64] at *; omega) (by assumption) (by omega), any_false (p := fun t => !termOk t) i2 (by omega)]; rfl))
set_option maxHeartbeats 1000000 in
set_option maxRecDepth 10000 in
theorem c_impl_areAtoms_1 (r : Int) (ts : List Int) (rs : Rels) (hrs : rs.length ≤ 4611686018427387904) (hts : ts.length ≤ 4611686018427387904) : Pu Tryz.prog 142 [.agg [.t none (.v (.int .i64 (r))), .t none (.sl 1 encI (ts))], .c (.pel none ((enSl 3 (enS3 encS encI encB)) (rs)) 1)] [] 0 (.c (.t none (.v (.bool (badA rs (r, ts)))))) := by
  refine pu_enter Tryz.func142 rfl (Nat.le_of_ble_eq_true rfl) fun w S => ?_
  refine t_seq ?_
  refine t_region ?_
  refine r_op (o_box 0 rfl rfl rfl rfl) ?_
  refine r_op (o_assign rfl rfl) ?_
  refine r_end ?_
  refine t_seq ?_
  refine t_region ?_
  refine r_op (o_load1 rfl (by kernel_rfl) rfl rfl) ?_
  refine r_op (o_loadAb rfl (n := 2) (by kernel_rfl) (by kernel_rfl) rfl rfl rfl) ?_
  refine r_op (o_call 1 1 false (Go.Proofs.enters_of Tryz.func143 (by kernel_rfl) rfl) (c_impl_IsValidAtom (rs) (r) (ts) (by first | omega | (simp; omega)) (by first | omega | (simp; omega))) rfl (.cons rfl (.c .t0) (.cons rfl (.agg (.cons .t0 (.cons .t0 .nil))) .nil)) rfl rfl rfl) ?_
  refine r_op (o_not rfl rfl) ?_
  refine r_op (o_assign rfl rfl) ?_
  refine r_end ?_
  refine t_ret Tryz.func142 (.tmp rfl .nil) rfl fun E S w u hI hd => ?_
  refine post_mk hI hd ?_ trivial rfl rfl rfl <;> clear hI hd
  all_goals first | rfl | (rfl)
set_option maxHeartbeats 1000000 in
set_option maxRecDepth 10000 in
theorem c_slices_IndexFunc___impl_Atom_impl_Atom_ (l : List (Int × (List (Int)))) (f : Nat) (cs : List ((Nat → T) × Nat)) (p : Int × (List (Int)) → Bool) (hl : l.length ≤ 9223372036854775807) (hf : ∀ x ∈ l, Fu Tryz.prog f ([.agg [.t none (.v (.int .i64 (x.1))), .t none (.sl 1 encI (x.2))]] ++ pels cs) (.c (.t none (.v (.bool (p x)))))) : Pu Tryz.prog 147 [.c (.t none (.sl 2 (enS2 encI (enSl 1 encI)) (l))), .c (.fv f cs)] [] 0 (.c (.t none (.v (.int .i64 (idxI p l))))) := by
  refine pu_enter Tryz.func147 rfl (Nat.le_of_ble_eq_true rfl) fun w S => ?_
  refine t_seq ?_
  refine t_region ?_
  refine r_op (o_assign rfl rfl) ?_
  refine r_end ?_
  refine t_seq ?_
  refine t_seq ?_
  refine t_region ?_
  refine r_op (o_move rfl rfl) ?_
  refine r_op (o_len rfl rfl rfl) ?_
  refine r_op (o_move rfl rfl) ?_
  refine r_end ?_
  refine t_block ?_
  refine t_loopL (fun m => ⟨[(0, some (.c (.t none (.sl 2 (enS2 encI (enSl 1 encI)) (l))))), (1, some (.c (.fv f cs))), (7, some (.c (.t none (.v (.int .i64 (((l).length : Int))))))), (8, some (.c (.t none (.v (.int .i64 ((m : Int)))))))], [], 0⟩ : Nat → St) (fun m => m ≤ l.length ∧ ∀ j z, j < m → l[j]? = some z → p z = false) (fun m => l.length - m) 0 ⟨⟨rfl, ⟨rfl, ⟨rfl, ⟨rfl, trivial⟩⟩⟩⟩, trivial, rfl⟩ (by exact ⟨Nat.zero_le _, fun j z h => by omega⟩) ?_
  rintro m hI ih0
  try dsimp only at hI ih0
  obtain ⟨i1, i2⟩ := hI
  refine t_seq ?_
  refine t_region ?_
  refine r_op (o_bin rfl rfl rfl rfl) ?_
  refine r_end ?_
  refine t_seq ?_
  refine t_cond rfl (fun h1 => ?_) (fun h1 => ?_)
  ·
    have h1' := of_decide_eq_true h1
    refine t_skip ?_
    refine t_seq ?_
    refine t_block ?_
    refine t_seq ?_
    refine t_region ?_
    refine r_op (o_move rfl rfl) ?_
    refine r_op (o_assign rfl rfl) ?_
    refine r_end ?_
    refine t_seq ?_
    refine t_region ?_
    refine r_op (o_move rfl rfl) ?_
    refine r_op (o_move rfl rfl) ?_
    refine r_op (o_move rfl rfl) ?_
    obtain ⟨z2, hz3, b4⟩ := at_get (xs := l) (n := (m : Int)) (by first | omega | (simp; omega)) (by first | omega | (simp; omega))
    refine r_op (o_index rfl (by kernel_rfl) rfl rfl b4 hz3) ?_
    refine r_op (o_loadA rfl (n := 2) (by kernel_rfl) (by kernel_rfl) rfl rfl) ?_
    refine r_op (o_callv 0 0 false (hf z2 (List.mem_of_getElem? (by assumption))).1 (hf z2 (List.mem_of_getElem? (by assumption))).2 rfl rfl (.c .fv) (.cons rfl (.agg (.cons .t0 (.cons .t0 .nil))) .nil) rfl rfl rfl) ?_
    refine r_end ?_
    refine t_cond rfl (fun h5 => ?_) (fun h5 => ?_)
    ·
      have h5' := h5
      refine t_seq ?_
      refine t_region ?_
      refine r_op (o_move rfl rfl) ?_
      refine r_op (o_assign rfl rfl) ?_
      refine r_end ?_
      refine t_ret Tryz.func147 (.tmp rfl .nil) rfl fun E S w u hI hd => ?_
      refine post_mk hI hd ?_ trivial rfl rfl rfl <;> clear hI hd <;> (try clear ih0)
      all_goals first | rfl | (rw [idx_hit i2 (by assumption) (by assumption)])
    ·
      have h5' := h5
      refine t_skip ?_
      refine t_endblock ?_
      refine t_region ?_
      refine r_op (o_bin rfl rfl rfl rfl) ?_
      refine r_op (o_move rfl rfl) ?_
      refine r_end ?_
      refine t_le ?_ (ih0 (m + 1) (by (try dsimp only); omega) (by (try dsimp only); exact ⟨by omega, no_step i2 (by assumption) rfl (by assumption)⟩))
      exact ⟨⟨rfl, ⟨rfl, ⟨rfl, ⟨(eqI (wr64 (by omega) (by omega))), trivial⟩⟩⟩⟩, trivial, rfl⟩
  ·
    have h1' := of_decide_eq_false h1
    refine t_exit rfl ?_
    refine t_seq ?_
    refine t_region ?_
    refine r_op (o_assign rfl rfl) ?_
    refine r_end ?_
    refine t_ret Tryz.func147 (.tmp rfl .nil) rfl fun E S w u hI hd => ?_
    refine post_mk hI hd ?_ trivial rfl rfl rfl <;> clear hI hd <;> (try clear ih0)
    all_goals first | rfl | (rw [idx_none i2 (by omega)])
set_option maxHeartbeats 1000000 in
set_option maxRecDepth 10000 in
theorem c_slices_ContainsFunc___impl_Atom_impl_Atom_ (l : List (Int × (List (Int)))) (f : Nat) (cs : List ((Nat → T) × Nat)) (p : Int × (List (Int)) → Bool) (hl : l.length ≤ 9223372036854775807) (hf : ∀ x ∈ l, Fu Tryz.prog f ([.agg [.t none (.v (.int .i64 (x.1))), .t none (.sl 1 encI (x.2))]] ++ pels cs) (.c (.t none (.v (.bool (p x)))))) : Pu Tryz.prog 107 [.c (.t none (.sl 2 (enS2 encI (enSl 1 encI)) (l))), .c (.fv f cs)] [] 0 (.c (.t none (.v (.bool (l.any p))))) := by
  refine pu_enter Tryz.func107 rfl (Nat.le_of_ble_eq_true rfl) fun w S => ?_
  refine t_seq ?_
  refine t_region ?_
  refine r_op (o_assign rfl rfl) ?_
  refine r_end ?_
  refine t_seq ?_
  refine t_region ?_
  refine r_op (o_move rfl rfl) ?_
  refine r_op (o_move rfl rfl) ?_
  refine r_op (o_call 0 0 false (Go.Proofs.enters_of Tryz.func147 (by kernel_rfl) rfl) (c_slices_IndexFunc___impl_Atom_impl_Atom_ (l) (f) (cs) (p) (by first | omega | (simp; omega)) (hf)) rfl (.cons rfl (.c .t0) (.cons rfl (.c .fv) .nil)) rfl rfl rfl) ?_
  refine r_op (o_bin rfl rfl rfl rfl) ?_
  refine r_op (o_assign rfl rfl) ?_
  refine r_end ?_
  refine t_ret Tryz.func107 (.tmp rfl .nil) rfl fun E S w u hI hd => ?_
  refine post_mk hI hd ?_ trivial rfl rfl rfl <;> clear hI hd
  all_goals first | rfl | (exact scB idx_any)
set_option maxHeartbeats 1000000 in
set_option maxRecDepth 10000 in
theorem c_impl_areAtoms (rs : Rels) (l : Atoms) (k : Int) (hrs : rs.length ≤ 4611686018427387904) (hs : szS (fun (x : Int × (List (Int))) => (x.2).length) l ≤ 1048576) : Pu Tryz.prog 104 [.c (.t none (.sl 3 (enS3 encS encI encB) (rs))), .c (.t none (.sl 2 (enS2 encI (enSl 1 encI)) (l))), .c (.t none (.v (.int .i64 (k))))] [] 0 (.c (.t none (.v (.bool (atomsOk rs l k))))) := by
  refine pu_enter Tryz.func104 rfl (Nat.le_of_ble_eq_true rfl) fun w S => ?_
  have gl := sz_len (f := (fun (x : Int × (List (Int))) => (x.2).length)) (l := l)
  refine t_seq ?_
  refine t_region ?_
  refine r_op (o_box 0 rfl rfl rfl rfl) ?_
  refine r_op (o_assign rfl rfl) ?_
  refine r_end ?_
  refine t_seq ?_
  refine t_region ?_
  refine r_op (o_move rfl rfl) ?_
  refine r_op (o_len rfl rfl rfl) ?_
  refine r_op (o_move rfl rfl) ?_
  refine r_op (o_call 1 1 false (Go.Proofs.enters_of Tryz.func86 (by kernel_rfl) rfl) (c_impl_within (((l).length : Int)) (1) (k)) rfl (.cons rfl (.c .t0) (.cons rfl (.c .t0) (.cons rfl (.c .t0) .nil))) rfl rfl rfl) ?_
  refine r_op (o_move rfl rfl) ?_
  refine r_guard rfl rfl rfl (fun g1 => ?_) (fun g1 => ?_)
  ·
    have g1' := of_decide_eq_true g1
    refine r_op (o_move rfl rfl) ?_
    refine r_guard rfl rfl rfl (fun _ => ?_) (nc g1)
    refine r_op (o_makeFunc rfl (.cons rfl .nil)) ?_
    refine r_guard rfl rfl rfl (fun _ => ?_) (nc g1)
    refine r_op (o_call 1 1 false (Go.Proofs.enters_of Tryz.func107 (by kernel_rfl) rfl) (c_slices_ContainsFunc___impl_Atom_impl_Atom_ (l) (142) ([((enSl 3 (enS3 encS encI encB)) (rs), 1)]) (fun (x0 : Int × (List (Int))) => badA (rs) ((x0.1), (x0.2))) (by first | omega | assumption | (have e1 := sz_mem (f := (fun (x : Int × (List (Int))) => (x.2).length)) (l := l) (by assumption); (try dsimp only at e1); omega)) (fun x0 mx0 => ⟨Go.Proofs.enters_of Tryz.func142 (by kernel_rfl) rfl, c_impl_areAtoms_1 (x0.1) (x0.2) (rs) (by first | omega | assumption | (have e1 := sz_mem (f := (fun (x : Int × (List (Int))) => (x.2).length)) (l := l) (by assumption); (try dsimp only at e1); omega)) (by first | omega | assumption | (have e1 := sz_mem (f := (fun (x : Int × (List (Int))) => (x.2).length)) (l := l) (by assumption); (try dsimp only at e1); omega))⟩)) rfl (.cons rfl (.c .t0) (.cons rfl (.c (.clo (.cons rfl rfl rfl (.cons .t .nil) .nil))) .nil)) rfl rfl rfl) ?_
    refine r_guard rfl rfl rfl (fun _ => ?_) (nc g1)
    refine r_op (o_not rfl rfl) ?_
    refine r_op (o_pickT rfl rfl g1 rfl) ?_
    refine r_op (o_assign rfl rfl) ?_
    refine r_end ?_
    refine t_ret Tryz.func104 (.tmp rfl .nil) rfl fun E S w u hI hd => ?_
    refine post_mk hI hd ?_ trivial rfl rfl rfl <;> clear hI hd
    all_goals first | rfl | (refine scB ?_; unfold atomsOk; first | (rw [decide_eq_true (by assumption)]; rfl) | (rw [decide_eq_false (by assumption)]; rfl))
  ·
    have g1' := of_decide_eq_false g1
    refine r_guard rfl rfl rfl (ncf g1) (fun _ => ?_)
    refine r_guard rfl rfl rfl (ncf g1) (fun _ => ?_)
    refine r_guard rfl rfl rfl (ncf g1) (fun _ => ?_)
    refine r_op (o_pickF rfl rfl g1 rfl) ?_
    refine r_op (o_assign rfl rfl) ?_
    refine r_end ?_
    refine t_ret Tryz.func104 (.tmp rfl .nil) rfl fun E S w u hI hd => ?_
    refine post_mk hI hd ?_ trivial rfl rfl rfl <;> clear hI hd
    all_goals first | rfl | (refine scB ?_; unfold atomsOk; first | (rw [decide_eq_true (by assumption)]; rfl) | (rw [decide_eq_false (by assumption)]; rfl))
def Tryz.sortL_ren : Go.Shelf.Ren := ⟨fun | 5 => 144 | 8 => 168 | 7 => 167 | 19 => 182 | 20 => 183 | 10 => 173 | 11 => 174 | 12 => 175 | 13 => 176 | 14 => 177 | 15 => 178 | 16 => 179 | 17 => 180 | 18 => 181 | 30 => 188 | 31 => 189 | 32 => 190 | 33 => 191 | 34 => 192 | 35 => 193 | 40 => 198 | n => n, fun | 23 => 109 | 25 => 3 | 3 => 3 | 32 => 151 | 22 => 109 | 0 => 0 | 44 => 169 | 46 => 184 | 4 => 4 | 36 => 175 | 35 => 174 | 41 => 180 | 5 => 5 | 9 => 9 | 53 => 193 | 57 => 197 | 63 => 202 | 64 => 203 | n => n, fun | n => n⟩
theorem Tryz.sortL : Go.Proofs.SlLaysM.n5 Tryz.prog Tryz.sortL_ren := {
 mixed := by kernel_rfl
 f5 := ⟨Tryz.f144.name, by decide, Tryz.func144.trans (congrArg some (by kernel_rfl))⟩
 f7 := ⟨Tryz.f167.name, by decide, Tryz.func167.trans (congrArg some (by kernel_rfl))⟩
 f8 := Tryz.func168.trans (congrArg some (by kernel_rfl))
 f10 := ⟨Tryz.f173.name, by decide, Tryz.func173.trans (congrArg some (by kernel_rfl))⟩
 f11 := ⟨Tryz.f174.name, by decide, Tryz.func174.trans (congrArg some (by kernel_rfl))⟩
 f12 := ⟨Tryz.f175.name, by decide, Tryz.func175.trans (congrArg some (by kernel_rfl))⟩
 f13 := ⟨Tryz.f176.name, by decide, Tryz.func176.trans (congrArg some (by kernel_rfl))⟩
 f14 := ⟨Tryz.f177.name, by decide, Tryz.func177.trans (congrArg some (by kernel_rfl))⟩
 f15 := ⟨Tryz.f178.name, by decide, Tryz.func178.trans (congrArg some (by kernel_rfl))⟩
 f16 := ⟨Tryz.f179.name, by decide, Tryz.func179.trans (congrArg some (by kernel_rfl))⟩
 f17 := ⟨Tryz.f180.name, by decide, Tryz.func180.trans (congrArg some (by kernel_rfl))⟩
 f18 := ⟨Tryz.f181.name, by decide, Tryz.func181.trans (congrArg some (by kernel_rfl))⟩
 f19 := Tryz.func182.trans (congrArg some (by kernel_rfl))
 f20 := Tryz.func183.trans (congrArg some (by kernel_rfl))
 f30 := ⟨Tryz.f188.name, by decide, Tryz.func188.trans (congrArg some (by kernel_rfl))⟩
 f31 := Tryz.func189.trans (congrArg some (by kernel_rfl))
 f32 := Tryz.func190.trans (congrArg some (by kernel_rfl))
 f33 := ⟨Tryz.f191.name, by decide, Tryz.func191.trans (congrArg some (by kernel_rfl))⟩
 f34 := ⟨Tryz.f192.name, by decide, Tryz.func192.trans (congrArg some (by kernel_rfl))⟩
 f35 := ⟨Tryz.f193.name, by decide, Tryz.func193.trans (congrArg some (by kernel_rfl))⟩
 f40 := ⟨Tryz.f198.name, by decide, Tryz.func198.trans (congrArg some (by kernel_rfl))⟩
 t0 := Tryz.underlying0
 a0 := Tryz.isAgg0
 z0 := Tryz.sizeOf0
 v0 := Tryz.zeroValue0
 t3 := Tryz.underlying3
 a3 := Tryz.isAgg3
 z3 := Tryz.sizeOf3
 v3 := Tryz.zeroValue3
 t4 := Tryz.underlying4
 a4 := Tryz.isAgg4
 z4 := Tryz.sizeOf4
 v4 := Tryz.zeroValue4
 t5 := Tryz.underlying5
 a5 := Tryz.isAgg5
 z5 := Tryz.sizeOf5
 v5 := Tryz.zeroValue5
 t9 := Tryz.underlying9
 a9 := Tryz.isAgg9
 z9 := Tryz.sizeOf9
 v9 := Tryz.zeroValue9
 t22 := Tryz.underlying109
 a22 := Tryz.isAgg109
 z22 := Tryz.sizeOf109
 v22 := Tryz.zeroValue109
 t23 := Tryz.underlying109
 a23 := Tryz.isAgg109
 z23 := Tryz.sizeOf109
 v23 := Tryz.zeroValue109
 t25 := Tryz.underlying3
 a25 := Tryz.isAgg3
 z25 := Tryz.sizeOf3
 v25 := Tryz.zeroValue3
 t32 := Tryz.underlying151
 a32 := Tryz.isAgg151
 z32 := Tryz.sizeOf151
 v32 := Tryz.zeroValue151
 t35 := Tryz.underlying174
 a35 := Tryz.isAgg174
 z35 := Tryz.sizeOf174
 v35 := Tryz.zeroValue174
 t36 := Tryz.underlying175
 a36 := Tryz.isAgg175
 z36 := Tryz.sizeOf175
 v36 := Tryz.zeroValue175
 t41 := Tryz.underlying180
 a41 := Tryz.isAgg180
 z41 := Tryz.sizeOf180
 v41 := Tryz.zeroValue180
 t44 := Tryz.underlying169
 a44 := Tryz.isAgg169
 z44 := Tryz.sizeOf169
 v44 := Tryz.zeroValue169
 t46 := Tryz.underlying184
 a46 := Tryz.isAgg184
 z46 := Tryz.sizeOf184
 v46 := Tryz.zeroValue184
 t53 := Tryz.underlying193
 a53 := Tryz.isAgg193
 z53 := Tryz.sizeOf193
 v53 := Tryz.zeroValue193
 t57 := Tryz.underlying197
 a57 := Tryz.isAgg197
 z57 := Tryz.sizeOf197
 v57 := Tryz.zeroValue197
 t63 := Tryz.underlying202
 a63 := Tryz.isAgg202
 z63 := Tryz.sizeOf202
 v63 := Tryz.zeroValue202
 t64 := Tryz.underlying203
 a64 := Tryz.isAgg203
 z64 := Tryz.sizeOf203
 v64 := Tryz.zeroValue203 }
set_option maxHeartbeats 1000000 in
set_option maxRecDepth 10000 in
theorem c_slices_Sort___int_int_ (U : Nat → Value) (e0 : Nat) (l : List Int) (hl : l.length ≤ 1099511627776) : Mu Tryz.prog 144 [.c (.own 0)] [(0, some (.row (some (U 0)) e0 true 1 encI (l)))] 1 [(0, some (.row (some (U 0)) e0 true 1 encI (sortI l)))] 1 (.tup []) := by
  exact sort_mu Tryz.sortL U e0 l (by omega)
set_option maxHeartbeats 1000000 in
set_option maxRecDepth 10000 in
theorem c_slices_Compact___int_int_ (U : Nat → Value) (e0 : Nat) (l : List Int) (hl : l.length ≤ 4611686018427387904) : Mu Tryz.prog 145 [.c (.own 0)] [(0, some (.row (some (U 0)) e0 true 1 encI (l)))] 1 [(0, some (.row none e0 true 1 encI (compactI l)))] 1 (.c (.own 0)) := by
  refine mu_enter Tryz.func145 rfl (Nat.le_of_ble_eq_true rfl) fun w S M => ?_
  refine t_seq ?_
  refine t_region ?_
  refine r_op (o_assign rfl rfl) ?_
  refine r_end ?_
  refine t_seq ?_
  refine t_seq ?_
  refine t_region ?_
  refine r_op (o_move rfl rfl) ?_
  refine r_op (o_leno rfl rfl rfl rfl) ?_
  refine r_op (o_bin rfl rfl rfl rfl) ?_
  refine r_end ?_
  refine t_cond rfl (fun h1 => ?_) (fun h1 => ?_)
  ·
    have h1' := of_decide_eq_true h1
    refine t_seq ?_
    refine t_region ?_
    refine r_op (o_move rfl rfl) ?_
    refine r_op (o_assign rfl rfl) ?_
    refine r_end ?_
    refine gt_unpin 0 rfl ?_
    refine t_ret Tryz.func145 (.tmp rfl .nil) rfl fun E S w u hI hd => ?_
    refine postM_mk hI hd ?_ ⟨eqR ?_, trivial⟩ rfl rfl <;> clear hI hd <;> (try clear ih0) <;> (try clear ih1)
    all_goals first | rfl | ((match l with | [] => rfl | [_] => rfl | _ :: _ :: _ => (exfalso; simp at *; omega)))
  ·
    have h1' := of_decide_eq_false h1
    refine t_skip ?_
    refine t_seq ?_
    refine t_seq ?_
    refine t_region ?_
    refine r_op (o_assign rfl rfl) ?_
    refine r_end ?_
    refine t_block ?_
    refine t_loopL (fun m => ⟨[(0, some (.c (.own 0))), (3, some (.c (.t none (.v (.int .i64 ((m : Int)))))))], [(0, some (.row (some (U 0)) e0 true 1 encI (l)))], 1⟩ : Nat → St) (fun m => 1 ≤ m ∧ m ≤ l.length ∧ compactI (l.take m) = l.take m) (fun m => l.length - m) 1 ⟨⟨rfl, ⟨(eqI rfl), trivial⟩⟩, ⟨rfl, trivial⟩, rfl⟩ (by exact ⟨Nat.le_refl _, by omega, by (rcases l with _ | ⟨x, l⟩ <;> simp [compactI])⟩) ?_
    rintro m hI ih0
    try dsimp only at hI ih0
    obtain ⟨i1, i2, i3⟩ := hI
    refine t_seq ?_
    refine t_seq ?_
    refine t_region ?_
    refine r_op (o_move rfl rfl) ?_
    refine r_op (o_move rfl rfl) ?_
    refine r_op (o_leno rfl rfl rfl rfl) ?_
    refine r_op (o_bin rfl rfl rfl rfl) ?_
    refine r_end ?_
    refine t_cond rfl (fun h2 => ?_) (fun h2 => ?_)
    ·
      have h2' := of_decide_eq_true h2
      refine t_skip ?_
      refine t_seq ?_
      refine t_block ?_
      refine t_seq ?_
      refine t_draw (fun _ => true) (by kernel_rfl) ?_
      refine d_take 0 rfl rfl (by kernel_rfl) (by kernel_rfl) (by kernel_rfl) (p_move rfl) ?_
      refine d_take 1 rfl rfl (by kernel_rfl) (by kernel_rfl) (by kernel_rfl) (p_move rfl) ?_
      obtain ⟨z3, hz4, b5⟩ := at_get (xs := l) (n := (m : Int)) (by first | omega | (simp only [IntKind.wrap_i64]; omega) | (simp only [List.length_append, List.length_take, List.length_replicate, List.length_drop]; omega)) (by first | omega | (simp only [IntKind.wrap_i64]; omega) | (simp only [List.length_append, List.length_take, List.length_replicate, List.length_drop]; omega))
      refine d_take 2 rfl rfl (by kernel_rfl) (by kernel_rfl) (by kernel_rfl) (p_indexo (by kernel_rfl) rfl rfl rfl b5 (at_lt b5 hz4)) ?_
      refine d_take 3 rfl rfl (by kernel_rfl) (by kernel_rfl) (by kernel_rfl) (p_load1o (by kernel_rfl) rfl rfl rfl hz4) ?_
      refine d_take 4 rfl rfl (by kernel_rfl) (by kernel_rfl) (by kernel_rfl) (p_move rfl) ?_
      refine d_take 5 rfl rfl (by kernel_rfl) (by kernel_rfl) (by kernel_rfl) (p_move rfl) ?_
      refine d_take 6 rfl rfl (by kernel_rfl) (by kernel_rfl) (by kernel_rfl) (p_bin rfl rfl rfl) ?_
      obtain ⟨z6, hz7, b8⟩ := at_get (xs := l) (n := IntKind.i64.wrap ((m : Int) - 1)) (by first | omega | (simp only [IntKind.wrap_i64]; omega) | (simp only [List.length_append, List.length_take, List.length_replicate, List.length_drop]; omega)) (by first | omega | (simp only [IntKind.wrap_i64]; omega) | (simp only [List.length_append, List.length_take, List.length_replicate, List.length_drop]; omega))
      refine d_take 7 rfl rfl (by kernel_rfl) (by kernel_rfl) (by kernel_rfl) (p_indexo (by kernel_rfl) rfl rfl rfl b8 (at_lt b8 hz7)) ?_
      refine d_take 8 rfl rfl (by kernel_rfl) (by kernel_rfl) (by kernel_rfl) (p_load1o (by kernel_rfl) rfl rfl rfl hz7) ?_
      refine d_take 9 rfl rfl (by kernel_rfl) (by kernel_rfl) (by kernel_rfl) (p_bin rfl rfl rfl) ?_
      refine d_end (by kernel_rfl) ?_
      refine t_cond rfl (fun h9 => ?_) (fun h9 => ?_)
      ·
        have h9' := of_decide_eq_true h9
        refine t_seq ?_
        refine t_region ?_
        refine r_op (o_move rfl rfl) ?_
        refine r_op (o_move rfl rfl) ?_
        refine r_op (o_subvl rfl (by kernel_rfl) rfl rfl rfl (by first | omega | (simp only [IntKind.wrap_i64]; omega) | (simp only [List.length_append, List.length_take, List.length_replicate, List.length_drop]; omega)) (by first | omega | (simp only [IntKind.wrap_i64]; omega) | (simp only [List.length_append, List.length_take, List.length_replicate, List.length_drop]; omega))) ?_
        refine r_op (o_assign rfl rfl) ?_
        refine r_end ?_
        refine t_seq ?_
        refine t_seq ?_
        refine t_region ?_
        refine r_op (o_assign rfl rfl) ?_
        refine r_end ?_
        refine t_block ?_
        refine t_loopL (fun (j, k, q) => ⟨[(0, some (.c (.own 0))), (3, some (.c (.t none (.v (.int .i64 ((k : Int))))))), (4, some (.c (.vw 0 (((m : Int)).toNat) (((l).length - ((m : Int)).toNat)) 1))), (5, some (.c (.t none (.v (.int .i64 ((j : Int)))))))], [(0, some (.row (some (U 0)) e0 true 1 encI (q)))], 1⟩ : Nat × Nat × List Int → St) (fun (j, k, q) => 1 ≤ j ∧ cmpK l q k (m + j)) (fun (j, k, q) => l.length - j) (1, m, l) ⟨⟨rfl, ⟨rfl, ⟨rfl, ⟨(eqI rfl), trivial⟩⟩⟩⟩, ⟨rfl, trivial⟩, rfl⟩ (by exact ⟨Nat.le_refl _, cmpK_start i3 (by assumption) (by assumption) (by simp only [IntKind.wrap_i64]; omega) i1 (by omega)⟩) ?_
        rintro ⟨j, k, q⟩ hI ih1
        try dsimp only at hI ih1
        obtain ⟨j0, j1⟩ := hI; have j2 := j1.1; have j3 := j1.2.1; have j4 := j1.2.2.1
        refine t_seq ?_
        refine t_seq ?_
        refine t_region ?_
        refine r_op (o_move rfl rfl) ?_
        refine r_op (o_move rfl rfl) ?_
        refine r_op (o_lenv rfl rfl rfl) ?_
        refine r_op (o_bin rfl rfl rfl rfl) ?_
        refine r_end ?_
        refine t_cond rfl (fun h10 => ?_) (fun h10 => ?_)
        ·
          have h10' := of_decide_eq_true h10
          refine t_skip ?_
          refine t_seq ?_
          refine t_block ?_
          refine t_seq ?_
          refine t_draw (fun _ => true) (by kernel_rfl) ?_
          refine d_take 0 rfl rfl (by kernel_rfl) (by kernel_rfl) (by kernel_rfl) (p_move rfl) ?_
          refine d_take 1 rfl rfl (by kernel_rfl) (by kernel_rfl) (by kernel_rfl) (p_move rfl) ?_
          obtain ⟨z11, hz12⟩ := vw_get (xs := q) (n := (((m : Int)).toNat + ((j : Int)).toNat)) (by first | omega | (simp only [IntKind.wrap_i64]; omega) | (simp only [List.length_append, List.length_take, List.length_replicate, List.length_drop]; omega))
          refine d_take 2 rfl rfl (by kernel_rfl) (by kernel_rfl) (by kernel_rfl) (p_indexv (by kernel_rfl) rfl rfl (by first | omega | (simp only [IntKind.wrap_i64]; omega) | (simp only [List.length_append, List.length_take, List.length_replicate, List.length_drop]; omega)) (by first | omega | (simp only [IntKind.wrap_i64]; omega) | (simp only [List.length_append, List.length_take, List.length_replicate, List.length_drop]; omega))) ?_
          refine d_take 3 rfl rfl (by kernel_rfl) (by kernel_rfl) (by kernel_rfl) (p_load1o (by kernel_rfl) rfl rfl rfl hz12) ?_
          refine d_take 4 rfl rfl (by kernel_rfl) (by kernel_rfl) (by kernel_rfl) (p_move rfl) ?_
          refine d_take 5 rfl rfl (by kernel_rfl) (by kernel_rfl) (by kernel_rfl) (p_move rfl) ?_
          refine d_take 6 rfl rfl (by kernel_rfl) (by kernel_rfl) (by kernel_rfl) (p_bin rfl rfl rfl) ?_
          obtain ⟨z14, hz15⟩ := vw_get (xs := q) (n := (((m : Int)).toNat + (IntKind.i64.wrap ((j : Int) - 1)).toNat)) (by first | omega | (simp only [IntKind.wrap_i64]; omega) | (simp only [List.length_append, List.length_take, List.length_replicate, List.length_drop]; omega))
          refine d_take 7 rfl rfl (by kernel_rfl) (by kernel_rfl) (by kernel_rfl) (p_indexv (by kernel_rfl) rfl rfl (by first | omega | (simp only [IntKind.wrap_i64]; omega) | (simp only [List.length_append, List.length_take, List.length_replicate, List.length_drop]; omega)) (by first | omega | (simp only [IntKind.wrap_i64]; omega) | (simp only [List.length_append, List.length_take, List.length_replicate, List.length_drop]; omega))) ?_
          refine d_take 8 rfl rfl (by kernel_rfl) (by kernel_rfl) (by kernel_rfl) (p_load1o (by kernel_rfl) rfl rfl rfl hz15) ?_
          refine d_take 9 rfl rfl (by kernel_rfl) (by kernel_rfl) (by kernel_rfl) (p_bin rfl rfl rfl) ?_
          refine d_end (by kernel_rfl) ?_
          refine t_cond rfl (fun h17 => ?_) (fun h17 => ?_)
          ·
            have h17' := of_decide_eq_true h17
            refine t_seq ?_
            refine t_region ?_
            refine r_op (o_move rfl rfl) ?_
            refine r_op (o_move rfl rfl) ?_
            refine r_op (o_move rfl rfl) ?_
            refine r_op (o_move rfl rfl) ?_
            refine r_op (o_indexv rfl (by kernel_rfl) rfl rfl (by first | omega | (simp only [IntKind.wrap_i64]; omega) | (simp only [List.length_append, List.length_take, List.length_replicate, List.length_drop]; omega)) (by first | omega | (simp only [IntKind.wrap_i64]; omega) | (simp only [List.length_append, List.length_take, List.length_replicate, List.length_drop]; omega))) ?_
            refine r_op (o_load1o rfl (by kernel_rfl) rfl rfl rfl hz12) ?_
            obtain ⟨z18, hz19, b20⟩ := at_get (xs := q) (n := (k : Int)) (by first | omega | (simp only [IntKind.wrap_i64]; omega) | (simp only [List.length_append, List.length_take, List.length_replicate, List.length_drop]; omega)) (by first | omega | (simp only [IntKind.wrap_i64]; omega) | (simp only [List.length_append, List.length_take, List.length_replicate, List.length_drop]; omega))
            refine r_op (o_indexo rfl (by kernel_rfl) rfl rfl rfl b20 (at_lt b20 hz19)) ?_
            refine r_op (o_storeo (z11) (n := 1) (by kernel_rfl) rfl rfl hz19 rfl rfl rfl rfl (.cons .sc .nil) rfl (fun j h1 h2 => by simp at h1 h2; omega)) ?_
            refine r_end ?_
            refine t_region ?_
            refine r_op (o_move rfl rfl) ?_
            refine r_op (o_bin rfl rfl rfl rfl) ?_
            refine r_op (o_assign rfl rfl) ?_
            refine r_end ?_
            refine t_endblock ?_
            refine t_region ?_
            refine r_op (o_move rfl rfl) ?_
            refine r_op (o_bin rfl rfl rfl rfl) ?_
            refine r_op (o_assign rfl rfl) ?_
            refine r_end ?_
            refine t_le ?_ (ih1 (j + 1, k + 1, (q).set ((k : Int)).toNat (z11)) (by (try dsimp only); omega) (by (try dsimp only); exact ⟨by omega, cmpK_more (j := m + j) (n := ((m : Int)).toNat + (IntKind.i64.wrap ((j : Int) - 1)).toNat) j1 (by assumption) (by assumption) (by simp only [IntKind.wrap_i64]; omega) (by omega)⟩))
            exact ⟨⟨rfl, ⟨(eqI (wr64 (by omega) (by omega))), ⟨rfl, ⟨(eqI (wr64 (by omega) (by omega))), trivial⟩⟩⟩⟩, ⟨rfl, trivial⟩, rfl⟩
          ·
            have h17' := of_decide_eq_false h17
            refine t_skip ?_
            refine t_endblock ?_
            refine t_region ?_
            refine r_op (o_move rfl rfl) ?_
            refine r_op (o_bin rfl rfl rfl rfl) ?_
            refine r_op (o_assign rfl rfl) ?_
            refine r_end ?_
            refine t_le ?_ (ih1 (j + 1, k, q) (by (try dsimp only); omega) (by (try dsimp only); exact ⟨by omega, cmpK_same (j := m + j) (n := ((m : Int)).toNat + (IntKind.i64.wrap ((j : Int) - 1)).toNat) j1 (by assumption) (by assumption) (by simp only [IntKind.wrap_i64]; omega) (by omega)⟩))
            exact ⟨⟨rfl, ⟨rfl, ⟨rfl, ⟨(eqI (wr64 (by omega) (by omega))), trivial⟩⟩⟩⟩, ⟨rfl, trivial⟩, rfl⟩
        ·
          have h10' := of_decide_eq_false h10
          refine t_exit rfl ?_
          refine t_seq ?_
          refine t_region ?_
          refine r_op (o_move rfl rfl) ?_
          refine r_op (o_move rfl rfl) ?_
          refine r_op (o_subvl rfl (by kernel_rfl) rfl rfl rfl (by first | omega | (simp only [IntKind.wrap_i64]; omega) | (simp only [List.length_append, List.length_take, List.length_replicate, List.length_drop]; omega)) (by first | omega | (simp only [IntKind.wrap_i64]; omega) | (simp only [List.length_append, List.length_take, List.length_replicate, List.length_drop]; omega))) ?_
          refine r_op (o_clearv (0) rfl rfl Tryz.underlying109 (by kernel_rfl) rfl (.v rfl) (by first | omega | (simp only [IntKind.wrap_i64]; omega) | (simp only [List.length_append, List.length_take, List.length_replicate, List.length_drop]; omega)) (by first | omega | (simp only [IntKind.wrap_i64]; omega) | (simp only [List.length_append, List.length_take, List.length_replicate, List.length_drop]; omega))) ?_
          refine r_end ?_
          refine t_seq ?_
          refine t_region ?_
          refine r_op (o_move rfl rfl) ?_
          refine r_op (o_move rfl rfl) ?_
          refine r_op (o_subvh rfl (by kernel_rfl) rfl rfl rfl (by first | omega | (simp only [IntKind.wrap_i64]; omega) | (simp only [List.length_append, List.length_take, List.length_replicate, List.length_drop]; omega)) (by first | omega | (simp only [IntKind.wrap_i64]; omega) | (simp only [List.length_append, List.length_take, List.length_replicate, List.length_drop]; omega)) (by first | omega | (simp only [IntKind.wrap_i64]; omega) | (simp only [List.length_append, List.length_take, List.length_replicate, List.length_drop]; omega))) ?_
          refine r_op (o_assign rfl rfl) ?_
          refine r_end ?_
          refine gt_shrink 2 0 rfl rfl (by first | omega | (simp only [IntKind.wrap_i64]; omega) | (simp only [List.length_append, List.length_take, List.length_replicate, List.length_drop]; omega)) (by first | omega | (simp only [IntKind.wrap_i64]; omega) | (simp only [List.length_append, List.length_take, List.length_replicate, List.length_drop]; omega)) ?_
          refine t_ret Tryz.func145 (.tmp rfl .nil) rfl fun E S w u hI hd => ?_
          refine postM_mk hI hd ?_ ⟨eqR ?_, trivial⟩ rfl rfl <;> clear hI hd <;> (try clear ih0) <;> (try clear ih1)
          all_goals first | rfl | (rw [List.append_assoc]; exact cmpK_fin j1 (by omega))
      ·
        have h9' := of_decide_eq_false h9
        refine t_skip ?_
        refine t_endblock ?_
        refine t_region ?_
        refine r_op (o_move rfl rfl) ?_
        refine r_op (o_bin rfl rfl rfl rfl) ?_
        refine r_op (o_assign rfl rfl) ?_
        refine r_end ?_
        refine t_le ?_ (ih0 (m + 1) (by (try dsimp only); omega) (by (try dsimp only); exact ⟨by omega, by omega, cmp_first i3 (by assumption) (by assumption) (by simp only [IntKind.wrap_i64]; omega) i1 (by omega)⟩))
        exact ⟨⟨rfl, ⟨(eqI (wr64 (by omega) (by omega))), trivial⟩⟩, ⟨rfl, trivial⟩, rfl⟩
    ·
      have h2' := of_decide_eq_false h2
      refine t_exit rfl ?_
      refine t_seq ?_
      refine t_region ?_
      refine r_op (o_move rfl rfl) ?_
      refine r_op (o_assign rfl rfl) ?_
      refine r_end ?_
      refine gt_unpin 0 rfl ?_
      refine t_ret Tryz.func145 (.tmp rfl .nil) rfl fun E S w u hI hd => ?_
      refine postM_mk hI hd ?_ ⟨eqR ?_, trivial⟩ rfl rfl <;> clear hI hd <;> (try clear ih0) <;> (try clear ih1)
      all_goals first | rfl | (rw [List.take_of_length_le (by omega)] at i3; exact i3.symm)
set_option maxHeartbeats 1000000 in
set_option maxRecDepth 10000 in
theorem c_impl_Variables (l : List (Int × List Int)) (hl : szS (fun (x : Int × (List (Int))) => (x.2).length) l ≤ 1048576) : Pu Tryz.prog 105 [.c (.t none (.sl 2 (enS2 encI (enSl 1 encI)) (l)))] [(0, some (.row none 3 true 1 encI (setI (varsL l))))] 1 (.c (.own 0)) := by
  refine pu_enter Tryz.func105 rfl (Nat.le_of_ble_eq_true rfl) fun w S => ?_
  have gl := sz_len (f := (fun (x : Int × (List (Int))) => (x.2).length)) (l := l); have gv := varsL_size l
  refine t_seq ?_
  refine t_region ?_
  refine r_op (o_assign rfl rfl) ?_
  refine r_end ?_
  refine t_seq ?_
  refine t_region ?_
  refine r_op (o_lit0 0 (e := 3) (sz := 1) (zs := [.int .i64 (0)]) encI rfl rfl (by kernel_rfl) rfl) ?_
  refine r_op (o_assign rfl rfl) ?_
  refine r_end ?_
  refine t_seq ?_
  refine t_seq ?_
  refine t_region ?_
  refine r_op (o_move rfl rfl) ?_
  refine r_op (o_len rfl rfl rfl) ?_
  refine r_op (o_move rfl rfl) ?_
  refine r_end ?_
  refine t_block ?_
  refine t_loopL (fun m => ⟨[(2, some (.c (.t none (.v (.slice none 0 0))))), (3, some (.c (.own 0))), (9, some (.c (.t none (.sl 2 (enS2 encI (enSl 1 encI)) (l))))), (10, some (.c (.t none (.v (.int .i64 (((l).length : Int))))))), (11, some (.c (.t none (.v (.int .i64 ((m : Int)))))))], [(0, some (.row none 3 true 1 encI (varsL (l.take m))))], 1⟩ : Nat → St) (fun m => m ≤ l.length) (fun m => l.length - m) 0 ⟨⟨rfl, ⟨rfl, ⟨rfl, ⟨rfl, ⟨rfl, trivial⟩⟩⟩⟩⟩, ⟨rfl, trivial⟩, rfl⟩ (by exact Nat.zero_le _) ?_
  rintro m hI ih0
  try dsimp only at hI ih0
  have i1 := hI
  refine t_seq ?_
  refine t_region ?_
  refine r_op (o_bin rfl rfl rfl rfl) ?_
  refine r_end ?_
  refine t_seq ?_
  refine t_cond rfl (fun h1 => ?_) (fun h1 => ?_)
  ·
    have h1' := of_decide_eq_true h1
    refine t_skip ?_
    refine t_seq ?_
    refine t_block ?_
    refine t_seq ?_
    refine t_region ?_
    obtain ⟨z2, hz3, b4⟩ := at_get (xs := l) (n := (m : Int)) (by first | omega | (have e1 := sz_at (f := (fun (x : Int × (List (Int))) => (x.2).length)) (l := l) (m := m) (by assumption); (try dsimp only at e1); omega) | (simp only [List.length_append]; omega) | (rw [sortI_len]; simp only [varsL_end (by omega : l.length ≤ m)]; omega) | (simp only [varsL_end (by omega : l.length ≤ m)]; omega)) (by first | omega | (have e1 := sz_at (f := (fun (x : Int × (List (Int))) => (x.2).length)) (l := l) (m := m) (by assumption); (try dsimp only at e1); omega) | (simp only [List.length_append]; omega) | (rw [sortI_len]; simp only [varsL_end (by omega : l.length ≤ m)]; omega) | (simp only [varsL_end (by omega : l.length ≤ m)]; omega))
    refine r_op (o_index rfl (by kernel_rfl) rfl rfl b4 hz3) ?_
    refine r_op (o_loadA rfl (n := 2) (by kernel_rfl) (by kernel_rfl) rfl rfl) ?_
    refine r_op (o_alloc 1 (zs := [.int .i64 (0), .slice none 0 0]) rfl rfl (by kernel_rfl) rfl) ?_
    refine r_op (o_storeb (n := 2) (by kernel_rfl) rfl rfl rfl rfl rfl rfl) ?_
    refine r_end ?_
    refine t_seq ?_
    refine t_region ?_
    refine r_op (o_fieldb rfl (off := 1) (by kernel_rfl) rfl) ?_
    refine r_op (o_load1b rfl (by kernel_rfl) rfl rfl rfl) ?_
    refine r_op (o_len rfl rfl rfl) ?_
    refine r_op (o_move rfl rfl) ?_
    refine r_end ?_
    refine t_block ?_
    refine t_loopL (fun n => ⟨[(2, some (.c (.t none (.v (.slice none 0 0))))), (3, some (.c (.own 0))), (9, some (.c (.t none (.sl 2 (enS2 encI (enSl 1 encI)) (l))))), (10, some (.c (.t none (.v (.int .i64 (((l).length : Int))))))), (11, some (.c (.t none (.v (.int .i64 ((m : Int))))))), (16, some (.c (.t none (.sl 1 encI (z2.2))))), (17, some (.c (.t none (.v (.int .i64 (((z2.2).length : Int))))))), (18, some (.c (.t none (.v (.int .i64 ((n : Int)))))))], [(0, some (.row none 3 true 1 encI (varsL (l.take m) ++ nonneg (z2.2.take n)))), (1, some (.box [.t none (.v (.int .i64 (z2.1))), .t none (.sl 1 encI (z2.2))]))], 2⟩ : Nat → St) (fun n => n ≤ z2.2.length) (fun n => z2.2.length - n) 0 ⟨⟨rfl, ⟨rfl, ⟨rfl, ⟨rfl, ⟨rfl, ⟨rfl, ⟨rfl, ⟨rfl, trivial⟩⟩⟩⟩⟩⟩⟩⟩, ⟨(eqR (by rw [nonneg_zero, List.append_nil])), ⟨rfl, trivial⟩⟩, rfl⟩ (by exact Nat.zero_le _) ?_
    rintro n hI ih1
    try dsimp only at hI ih1
    have j1 := hI; have vp := varsL_part (m := m) (n := n) hz3; (have e1 := sz_at (f := (fun (x : Int × (List (Int))) => (x.2).length)) (l := l) (m := m) hz3; (try dsimp only at e1))
    refine t_seq ?_
    refine t_region ?_
    refine r_op (o_bin rfl rfl rfl rfl) ?_
    refine r_end ?_
    refine t_seq ?_
    refine t_cond rfl (fun h5 => ?_) (fun h5 => ?_)
    ·
      have h5' := of_decide_eq_true h5
      refine t_skip ?_
      refine t_seq ?_
      refine t_block ?_
      refine t_seq ?_
      refine t_region ?_
      obtain ⟨z6, hz7, b8⟩ := at_get (xs := z2.2) (n := (n : Int)) (by first | omega | (have e1 := sz_at (f := (fun (x : Int × (List (Int))) => (x.2).length)) (l := l) (m := m) (by assumption); (try dsimp only at e1); omega) | (simp only [List.length_append]; omega) | (rw [sortI_len]; simp only [varsL_end (by omega : l.length ≤ m)]; omega) | (simp only [varsL_end (by omega : l.length ≤ m)]; omega)) (by first | omega | (have e1 := sz_at (f := (fun (x : Int × (List (Int))) => (x.2).length)) (l := l) (m := m) (by assumption); (try dsimp only at e1); omega) | (simp only [List.length_append]; omega) | (rw [sortI_len]; simp only [varsL_end (by omega : l.length ≤ m)]; omega) | (simp only [varsL_end (by omega : l.length ≤ m)]; omega))
      refine r_op (o_index rfl (by kernel_rfl) rfl rfl b8 hz7) ?_
      refine r_op (o_load1 rfl (by kernel_rfl) rfl rfl) ?_
      refine r_op (o_assign rfl rfl) ?_
      refine r_end ?_
      refine t_seq ?_
      refine t_region ?_
      refine r_op (o_move rfl rfl) ?_
      refine r_op (o_bin rfl rfl rfl rfl) ?_
      refine r_end ?_
      refine t_cond rfl (fun h9 => ?_) (fun h9 => ?_)
      ·
        have h9' := of_decide_eq_true h9
        refine t_region ?_
        refine r_op (o_move rfl rfl) ?_
        refine r_op (o_move rfl rfl) ?_
        refine r_op (o_litS 2 (e := 3) (sz := 1) (zs := [.int .i64 (0)]) rfl rfl (by kernel_rfl) rfl rfl rfl rfl rfl) ?_
        refine r_op (o_append 0 (e := 3) (sz := 1) (by' := 8) (z6) rfl (by kernel_rfl) rfl rfl rfl rfl rfl rfl (.cons .sc .nil) rfl (by first | omega | (have e1 := sz_at (f := (fun (x : Int × (List (Int))) => (x.2).length)) (l := l) (m := m) (by assumption); (try dsimp only at e1); omega) | (simp only [List.length_append]; omega) | (rw [sortI_len]; simp only [varsL_end (by omega : l.length ≤ m)]; omega) | (simp only [varsL_end (by omega : l.length ≤ m)]; omega)) (by first | omega | (have e1 := sz_at (f := (fun (x : Int × (List (Int))) => (x.2).length)) (l := l) (m := m) (by assumption); (try dsimp only at e1); omega) | (simp only [List.length_append]; omega) | (rw [sortI_len]; simp only [varsL_end (by omega : l.length ≤ m)]; omega) | (simp only [varsL_end (by omega : l.length ≤ m)]; omega))) ?_
        refine r_op (o_assign rfl rfl) ?_
        refine r_end ?_
        refine t_endblock ?_
        refine t_region ?_
        refine r_op (o_bin rfl rfl rfl rfl) ?_
        refine r_op (o_move rfl rfl) ?_
        refine r_end ?_
        refine t_le ?_ (ih1 (n + 1) (by (try dsimp only); omega) (by (try dsimp only); omega))
        exact ⟨⟨rfl, ⟨rfl, ⟨rfl, ⟨rfl, ⟨rfl, ⟨rfl, ⟨rfl, ⟨(eqI (wr64 (by omega) (by omega))), trivial⟩⟩⟩⟩⟩⟩⟩⟩, ⟨(eqR (by first | (rw [nonneg_more (by assumption) (by omega), List.append_assoc]; done) | (rw [nonneg_same (by assumption) (by omega)]; done))), ⟨rfl, trivial⟩⟩, rfl⟩
      ·
        have h9' := of_decide_eq_false h9
        refine t_skip ?_
        refine t_endblock ?_
        refine t_region ?_
        refine r_op (o_bin rfl rfl rfl rfl) ?_
        refine r_op (o_move rfl rfl) ?_
        refine r_end ?_
        refine t_le ?_ (ih1 (n + 1) (by (try dsimp only); omega) (by (try dsimp only); omega))
        exact ⟨⟨rfl, ⟨rfl, ⟨rfl, ⟨rfl, ⟨rfl, ⟨rfl, ⟨rfl, ⟨(eqI (wr64 (by omega) (by omega))), trivial⟩⟩⟩⟩⟩⟩⟩⟩, ⟨(eqR (by first | (rw [nonneg_more (by assumption) (by omega), List.append_assoc]; done) | (rw [nonneg_same (by assumption) (by omega)]; done))), ⟨rfl, trivial⟩⟩, rfl⟩
    ·
      have h5' := of_decide_eq_false h5
      refine t_exit rfl ?_
      refine t_endblock ?_
      refine t_region ?_
      refine r_op (o_bin rfl rfl rfl rfl) ?_
      refine r_op (o_move rfl rfl) ?_
      refine r_end ?_
      refine t_le ?_ (ih0 (m + 1) (by (try dsimp only); omega) (by (try dsimp only); omega))
      exact ⟨⟨rfl, ⟨rfl, ⟨rfl, ⟨rfl, ⟨(eqI (wr64 (by omega) (by omega))), trivial⟩⟩⟩⟩⟩, ⟨(eqR (by rw [varsL_step (m := m) hz3]; congr 2; exact List.take_of_length_le (by omega))), trivial⟩, rfl⟩
  ·
    have h1' := of_decide_eq_false h1
    refine t_exit rfl ?_
    refine t_seq ?_
    refine t_region ?_
    refine r_op (o_move rfl rfl) ?_
    refine r_op (o_callH [⟨0, none, 3, 1, _, encI, varsL (l.take m), sortI (varsL (l.take m))⟩] (Go.Proofs.enters_of Tryz.func144 (by kernel_rfl) rfl) (fun U => c_slices_Sort___int_int_ U 3 (varsL (l.take m)) (by first | omega | (have e1 := sz_at (f := (fun (x : Int × (List (Int))) => (x.2).length)) (l := l) (m := m) (by assumption); (try dsimp only at e1); omega) | (simp only [List.length_append]; omega) | (rw [sortI_len]; simp only [varsL_end (by omega : l.length ≤ m)]; omega) | (simp only [varsL_end (by omega : l.length ≤ m)]; omega))) rfl ⟨rfl, trivial⟩ rfl rfl (.cons rfl (.own rfl) .nil) rfl) ?_
    refine r_end ?_
    refine t_seq ?_
    refine t_region ?_
    refine r_op (o_move rfl rfl) ?_
    refine r_op (o_callC 0 (l' := compactI (sortI (varsL (l.take m)))) (Go.Proofs.enters_of Tryz.func145 (by kernel_rfl) rfl) (fun U => c_slices_Compact___int_int_ U 3 (sortI (varsL (l.take m))) (by first | omega | (have e1 := sz_at (f := (fun (x : Int × (List (Int))) => (x.2).length)) (l := l) (m := m) (by assumption); (try dsimp only at e1); omega) | (simp only [List.length_append]; omega) | (rw [sortI_len]; simp only [varsL_end (by omega : l.length ≤ m)]; omega) | (simp only [varsL_end (by omega : l.length ≤ m)]; omega))) rfl rfl (.cons rfl (.own rfl) .nil)) ?_
    refine r_op (o_assign rfl rfl) ?_
    refine r_end ?_
    refine t_ret Tryz.func105 (.tmp rfl .nil) rfl fun E S w u hI hd => ?_
    refine post_mk hI hd ?_ ⟨eqR ?_, trivial⟩ rfl rfl rfl <;> clear hI hd <;> (try clear ih0) <;> (try clear ih1)
    all_goals first | rfl | (first | rfl | (rw [varsL_end (by omega), compact_sort]))
set_option maxHeartbeats 1000000 in
set_option maxRecDepth 10000 in
theorem c_slices_Index___int_int_ (l : List Int) (v : Int) (hl : l.length ≤ 9223372036854775807) : Pu Tryz.prog 146 [.c (.t none (.sl 1 encI (l))), .c (.t none (.v (.int .i64 (v))))] [] 0 (.c (.t none (.v (.int .i64 (idxI (eqP v) l))))) := by
  refine pu_enter Tryz.func146 rfl (Nat.le_of_ble_eq_true rfl) fun w S => ?_
  refine t_seq ?_
  refine t_region ?_
  refine r_op (o_assign rfl rfl) ?_
  refine r_end ?_
  refine t_seq ?_
  refine t_seq ?_
  refine t_region ?_
  refine r_op (o_move rfl rfl) ?_
  refine r_op (o_len rfl rfl rfl) ?_
  refine r_op (o_move rfl rfl) ?_
  refine r_end ?_
  refine t_block ?_
  refine t_loopL (fun m => ⟨[(0, some (.c (.t none (.sl 1 encI (l))))), (1, some (.c (.t none (.v (.int .i64 (v)))))), (7, some (.c (.t none (.v (.int .i64 (((l).length : Int))))))), (8, some (.c (.t none (.v (.int .i64 ((m : Int)))))))], [], 0⟩ : Nat → St) (fun m => m ≤ l.length ∧ ∀ j z, j < m → l[j]? = some z → eqP v z = false) (fun m => l.length - m) 0 ⟨⟨rfl, ⟨rfl, ⟨rfl, ⟨rfl, trivial⟩⟩⟩⟩, trivial, rfl⟩ (by exact ⟨Nat.zero_le _, fun j z h => by omega⟩) ?_
  rintro m hI ih0
  try dsimp only at hI ih0
  obtain ⟨i1, i2⟩ := hI
  refine t_seq ?_
  refine t_region ?_
  refine r_op (o_bin rfl rfl rfl rfl) ?_
  refine r_end ?_
  refine t_seq ?_
  refine t_cond rfl (fun h1 => ?_) (fun h1 => ?_)
  ·
    have h1' := of_decide_eq_true h1
    refine t_skip ?_
    refine t_seq ?_
    refine t_block ?_
    refine t_seq ?_
    refine t_region ?_
    refine r_op (o_move rfl rfl) ?_
    refine r_op (o_assign rfl rfl) ?_
    refine r_end ?_
    refine t_seq ?_
    refine t_region ?_
    refine r_op (o_move rfl rfl) ?_
    refine r_op (o_move rfl rfl) ?_
    refine r_op (o_move rfl rfl) ?_
    obtain ⟨z2, hz3, b4⟩ := at_get (xs := l) (n := (m : Int)) (by first | omega | (simp; omega)) (by first | omega | (simp; omega))
    refine r_op (o_index rfl (by kernel_rfl) rfl rfl b4 hz3) ?_
    refine r_op (o_load1 rfl (by kernel_rfl) rfl rfl) ?_
    refine r_op (o_bin rfl rfl rfl rfl) ?_
    refine r_end ?_
    refine t_cond rfl (fun h5 => ?_) (fun h5 => ?_)
    ·
      have h5' := of_decide_eq_true h5
      refine t_seq ?_
      refine t_region ?_
      refine r_op (o_move rfl rfl) ?_
      refine r_op (o_assign rfl rfl) ?_
      refine r_end ?_
      refine t_ret Tryz.func146 (.tmp rfl .nil) rfl fun E S w u hI hd => ?_
      refine post_mk hI hd ?_ trivial rfl rfl rfl <;> clear hI hd <;> (try clear ih0)
      all_goals first | rfl | (rw [idx_hit i2 (by assumption) (decide_eq_true (by omega))])
    ·
      have h5' := of_decide_eq_false h5
      refine t_skip ?_
      refine t_endblock ?_
      refine t_region ?_
      refine r_op (o_bin rfl rfl rfl rfl) ?_
      refine r_op (o_move rfl rfl) ?_
      refine r_end ?_
      refine t_le ?_ (ih0 (m + 1) (by (try dsimp only); omega) (by (try dsimp only); exact ⟨by omega, no_step i2 (by assumption) rfl (decide_eq_false (by omega))⟩))
      exact ⟨⟨rfl, ⟨rfl, ⟨rfl, ⟨(eqI (wr64 (by omega) (by omega))), trivial⟩⟩⟩⟩, trivial, rfl⟩
  ·
    have h1' := of_decide_eq_false h1
    refine t_exit rfl ?_
    refine t_seq ?_
    refine t_region ?_
    refine r_op (o_assign rfl rfl) ?_
    refine r_end ?_
    refine t_ret Tryz.func146 (.tmp rfl .nil) rfl fun E S w u hI hd => ?_
    refine post_mk hI hd ?_ trivial rfl rfl rfl <;> clear hI hd <;> (try clear ih0)
    all_goals first | rfl | (rw [idx_none i2 (by omega)])
set_option maxHeartbeats 1000000 in
set_option maxRecDepth 10000 in
theorem c_slices_Contains___int_int_ (l : List Int) (v : Int) (hl : l.length ≤ 9223372036854775807) : Pu Tryz.prog 106 [.c (.t none (.sl 1 encI (l))), .c (.t none (.v (.int .i64 (v))))] [] 0 (.c (.t none (.v (.bool (hasI l v))))) := by
  refine pu_enter Tryz.func106 rfl (Nat.le_of_ble_eq_true rfl) fun w S => ?_
  refine t_seq ?_
  refine t_region ?_
  refine r_op (o_assign rfl rfl) ?_
  refine r_end ?_
  refine t_seq ?_
  refine t_region ?_
  refine r_op (o_move rfl rfl) ?_
  refine r_op (o_move rfl rfl) ?_
  refine r_op (o_call 0 0 false (Go.Proofs.enters_of Tryz.func146 (by kernel_rfl) rfl) (c_slices_Index___int_int_ (l) (v) (by first | omega | (simp; omega))) rfl (.cons rfl (.c .t0) (.cons rfl (.c .t0) .nil)) rfl rfl rfl) ?_
  refine r_op (o_bin rfl rfl rfl rfl) ?_
  refine r_op (o_assign rfl rfl) ?_
  refine r_end ?_
  refine t_ret Tryz.func106 (.tmp rfl .nil) rfl fun E S w u hI hd => ?_
  refine post_mk hI hd ?_ trivial rfl rfl rfl <;> clear hI hd
  all_goals first | rfl | (exact scB idxI_has)
set_option maxHeartbeats 1000000 in
set_option maxRecDepth 10000 in
theorem c_impl_IsValidDependency_1 (r : Int) (ts : List Int) (rs : Rels) (hr : 0 ≤ r ∧ r < rs.length) : Pu Tryz.prog 108 [.agg [.t none (.v (.int .i64 (r))), .t none (.sl 1 encI (ts))], .c (.pel none ((enSl 3 (enS3 encS encI encB)) (rs)) 1)] [] 0 (.c (.t none (.v (.bool (srcA rs (r, ts)))))) := by
  refine pu_enter Tryz.func108 rfl (Nat.le_of_ble_eq_true rfl) fun w S => ?_
  refine t_seq ?_
  refine t_region ?_
  refine r_op (o_box 0 rfl rfl rfl rfl) ?_
  refine r_op (o_assign rfl rfl) ?_
  refine r_end ?_
  refine t_seq ?_
  refine t_region ?_
  refine r_op (o_load1 rfl (by kernel_rfl) rfl rfl) ?_
  refine r_op (o_fieldb rfl (off := 0) (by kernel_rfl) rfl) ?_
  refine r_op (o_load1b rfl (by kernel_rfl) rfl rfl rfl) ?_
  obtain ⟨z1, hz2, b3⟩ := at_get (xs := rs) (n := r) (by first | omega | (simp; omega)) (by first | omega | (simp; omega))
  refine r_op (o_index rfl (by kernel_rfl) rfl rfl b3 hz2) ?_
  refine r_op (o_field rfl (off := 2) (by kernel_rfl) rfl) ?_
  refine r_op (o_load1 rfl (by kernel_rfl) rfl rfl) ?_
  refine r_op (o_assign rfl rfl) ?_
  refine r_end ?_
  refine t_ret Tryz.func108 (.tmp rfl .nil) rfl fun E S w u hI hd => ?_
  refine post_mk hI hd ?_ trivial rfl rfl rfl <;> clear hI hd
  all_goals first | rfl | (refine scB ?_; rw [srcA_at (by assumption)])
set_option maxHeartbeats 1000000 in
set_option maxRecDepth 10000 in
theorem c_impl_IsValidDependency (rs : Rels) (a0 : List (Int × (List (Int)))) (a1 : List (Int × (List (Int)))) (a2 : Bool) (a3 : Int) (a4 : Int) (hrs : rs.length ≤ 4611686018427387904) (hs : szS (fun (x : Int × (List (Int))) => (x.2).length) a0 + szS (fun (x : Int × (List (Int))) => (x.2).length) a1 ≤ 1048576) : Pu Tryz.prog 65 [.c (.t none (.sl 3 (enS3 encS encI encB) (rs))), .agg [.t none (.sl 2 (enS2 encI (enSl 1 encI)) (a0)), .t none (.sl 2 (enS2 encI (enSl 1 encI)) (a1)), .t none (.v (.bool (a2))), .t none (.v (.int .i64 (a3))), .t none (.v (.int .i64 (a4)))]] [] 0 (.c (.t none (.v (.bool (depOk rs a0 a1 a2 a3 a4))))) := by
  refine pu_enter Tryz.func65 rfl (Nat.le_of_ble_eq_true rfl) fun w S => ?_
  have g0 := sz_len (f := (fun (x : Int × (List (Int))) => (x.2).length)) (l := a0); have g1 := sz_len (f := (fun (x : Int × (List (Int))) => (x.2).length)) (l := a1); have v0 := setI_len (varsL a0); have v1 := varsL_size a0
  refine t_seq ?_
  refine t_region ?_
  refine r_op (o_box 0 rfl rfl rfl rfl) ?_
  refine r_op (o_box 1 rfl rfl rfl rfl) ?_
  refine r_op (o_assign rfl rfl) ?_
  refine r_end ?_
  refine t_seq ?_
  refine t_region ?_
  refine r_op (o_loadAb rfl (n := 5) (by kernel_rfl) (by kernel_rfl) rfl rfl rfl) ?_
  refine r_op (o_alloc 2 (zs := [.slice none 0 0, .slice none 0 0, .bool (false), .int .i64 (0), .int .i64 (0)]) rfl rfl (by kernel_rfl) rfl) ?_
  refine r_op (o_storeb (n := 5) (by kernel_rfl) rfl rfl rfl rfl rfl rfl) ?_
  refine r_end ?_
  refine t_seq ?_
  refine t_seq ?_
  refine t_region ?_
  refine r_op (o_load1b rfl (by kernel_rfl) rfl rfl rfl) ?_
  refine r_op (o_fieldb rfl (off := 0) (by kernel_rfl) rfl) ?_
  refine r_op (o_load1b rfl (by kernel_rfl) rfl rfl rfl) ?_
  refine r_op (o_call 3 3 false (Go.Proofs.enters_of Tryz.func104 (by kernel_rfl) rfl) (c_impl_areAtoms (rs) (a0) (2) (by first | omega | assumption | exact vars12 (by assumption) | exact atoms_at (by assumption) (by assumption)) (by first | omega | assumption | exact vars12 (by assumption) | exact atoms_at (by assumption) (by assumption))) rfl (.cons rfl (.c .t0) (.cons rfl (.c .t0) (.cons rfl (.c .t0) .nil))) rfl rfl rfl) ?_
  refine r_op (o_not rfl rfl) ?_
  refine r_end ?_
  refine t_cond rfl (fun h1 => ?_) (fun h1 => ?_)
  ·
    have h1' := (bnt h1)
    refine t_seq ?_
    refine t_region ?_
    refine r_op (o_assign rfl rfl) ?_
    refine r_end ?_
    refine t_ret Tryz.func65 (.tmp rfl .nil) rfl fun E S w u hI hd => ?_
    refine post_mk hI hd ?_ trivial rfl rfl rfl <;> clear hI hd
    all_goals first | rfl | (refine scB ?_; clear hs g0 g1 v0 v1; unfold depOk; grind)
  ·
    have h1' := (bnf h1)
    refine t_skip ?_
    refine t_seq ?_
    refine t_seq ?_
    refine t_region ?_
    refine r_op (o_fieldb rfl (off := 2) (by kernel_rfl) rfl) ?_
    refine r_op (o_load1b rfl (by kernel_rfl) rfl rfl rfl) ?_
    refine r_end ?_
    refine t_cond rfl (fun h2 => ?_) (fun h2 => ?_)
    ·
      have h2' := h2
      refine t_seq ?_
      refine t_region ?_
      refine r_op (o_fieldb rfl (off := 0) (by kernel_rfl) rfl) ?_
      refine r_op (o_load1b rfl (by kernel_rfl) rfl rfl rfl) ?_
      refine r_op (o_call 3 4 false (Go.Proofs.enters_of Tryz.func105 (by kernel_rfl) rfl) (c_impl_Variables (a0) (by first | omega | assumption | exact vars12 (by assumption) | exact atoms_at (by assumption) (by assumption))) rfl (.cons rfl (.c .t0) .nil) rfl rfl rfl) ?_
      refine r_op (o_assign rfl rfl) ?_
      refine r_end ?_
      refine t_seq ?_
      refine t_region ?_
      refine r_op (o_fieldb rfl (off := 1) (by kernel_rfl) rfl) ?_
      refine r_op (o_load1b rfl (by kernel_rfl) rfl rfl rfl) ?_
      refine r_op (o_len rfl rfl rfl) ?_
      refine r_op (o_bin rfl rfl rfl rfl) ?_
      refine r_op (o_move rfl rfl) ?_
      refine r_guard rfl rfl rfl (fun g3 => ?_) (fun g3 => ?_)
      ·
        have g3' := of_decide_eq_true g3
        refine r_op (o_fieldb rfl (off := 3) (by kernel_rfl) rfl) ?_
        refine r_guard rfl rfl rfl (fun _ => ?_) (nc g3)
        refine r_op (o_load1b rfl (by kernel_rfl) rfl rfl rfl) ?_
        refine r_guard rfl rfl rfl (fun _ => ?_) (nc g3)
        refine r_op (o_fieldb rfl (off := 4) (by kernel_rfl) rfl) ?_
        refine r_guard rfl rfl rfl (fun _ => ?_) (nc g3)
        refine r_op (o_load1b rfl (by kernel_rfl) rfl rfl rfl) ?_
        refine r_guard rfl rfl rfl (fun _ => ?_) (nc g3)
        refine r_op (o_bin rfl rfl rfl rfl) ?_
        refine r_op (o_pickT rfl rfl g3 rfl) ?_
        refine r_op (o_move rfl rfl) ?_
        refine r_guard rfl rfl rfl (fun g4 => ?_) (fun g4 => ?_)
        ·
          have g4' := of_decide_eq_true g4
          refine r_op (o_move rfl rfl) ?_
          refine r_guard rfl rfl rfl (fun _ => ?_) (nc g4)
          refine r_op (o_fieldb rfl (off := 3) (by kernel_rfl) rfl) ?_
          refine r_guard rfl rfl rfl (fun _ => ?_) (nc g4)
          refine r_op (o_load1b rfl (by kernel_rfl) rfl rfl rfl) ?_
          refine r_guard rfl rfl rfl (fun _ => ?_) (nc g4)
          refine r_op (o_call 4 4 false (Go.Proofs.enters_of Tryz.func106 (by kernel_rfl) rfl) (c_slices_Contains___int_int_ (setI (varsL (a0))) (a3) (by first | omega | assumption | exact vars12 (by assumption) | exact atoms_at (by assumption) (by assumption))) rfl (.cons rfl (.c (.own rfl)) (.cons rfl (.c .t0) .nil)) rfl rfl rfl) ?_
          refine r_op (o_pickT rfl rfl g4 rfl) ?_
          refine r_op (o_move rfl rfl) ?_
          refine r_guard rfl rfl rfl (fun g5 => ?_) (fun g5 => ?_)
          ·
            have g5' := g5
            refine r_op (o_move rfl rfl) ?_
            refine r_guard rfl rfl rfl (fun _ => ?_) (nc g5)
            refine r_op (o_fieldb rfl (off := 4) (by kernel_rfl) rfl) ?_
            refine r_guard rfl rfl rfl (fun _ => ?_) (nc g5)
            refine r_op (o_load1b rfl (by kernel_rfl) rfl rfl rfl) ?_
            refine r_guard rfl rfl rfl (fun _ => ?_) (nc g5)
            refine r_op (o_call 4 4 false (Go.Proofs.enters_of Tryz.func106 (by kernel_rfl) rfl) (c_slices_Contains___int_int_ (setI (varsL (a0))) (a4) (by first | omega | assumption | exact vars12 (by assumption) | exact atoms_at (by assumption) (by assumption))) rfl (.cons rfl (.c (.own rfl)) (.cons rfl (.c .t0) .nil)) rfl rfl rfl) ?_
            refine r_op (o_pickT rfl rfl g5 rfl) ?_
            refine r_op (o_assign rfl rfl) ?_
            refine r_end ?_
            refine t_ret Tryz.func65 (.tmp rfl .nil) rfl fun E S w u hI hd => ?_
            refine post_mk hI hd ?_ trivial rfl rfl rfl <;> clear hI hd
            all_goals first | rfl | (refine scB ?_; clear hs g0 g1 v0 v1; unfold depOk; grind)
          ·
            have g5' := g5
            refine r_guard rfl rfl rfl (ncf g5) (fun _ => ?_)
            refine r_guard rfl rfl rfl (ncf g5) (fun _ => ?_)
            refine r_guard rfl rfl rfl (ncf g5) (fun _ => ?_)
            refine r_op (o_pickF rfl rfl g5 rfl) ?_
            refine r_op (o_assign rfl rfl) ?_
            refine r_end ?_
            refine t_ret Tryz.func65 (.tmp rfl .nil) rfl fun E S w u hI hd => ?_
            refine post_mk hI hd ?_ trivial rfl rfl rfl <;> clear hI hd
            all_goals first | rfl | (refine scB ?_; clear hs g0 g1 v0 v1; unfold depOk; grind)
        ·
          have g4' := of_decide_eq_false g4
          refine r_guard rfl rfl rfl (ncf g4) (fun _ => ?_)
          refine r_guard rfl rfl rfl (ncf g4) (fun _ => ?_)
          refine r_guard rfl rfl rfl (ncf g4) (fun _ => ?_)
          refine r_op (o_pickF rfl rfl g4 rfl) ?_
          refine r_op (o_move rfl rfl) ?_
          refine r_guard rfl rfl rfl (ncf rfl) (fun _ => ?_)
          refine r_guard rfl rfl rfl (ncf rfl) (fun _ => ?_)
          refine r_guard rfl rfl rfl (ncf rfl) (fun _ => ?_)
          refine r_guard rfl rfl rfl (ncf rfl) (fun _ => ?_)
          refine r_op (o_pickF rfl rfl rfl rfl) ?_
          refine r_op (o_assign rfl rfl) ?_
          refine r_end ?_
          refine t_ret Tryz.func65 (.tmp rfl .nil) rfl fun E S w u hI hd => ?_
          refine post_mk hI hd ?_ trivial rfl rfl rfl <;> clear hI hd
          all_goals first | rfl | (refine scB ?_; clear hs g0 g1 v0 v1; unfold depOk; grind)
      ·
        have g3' := of_decide_eq_false g3
        refine r_guard rfl rfl rfl (ncf g3) (fun _ => ?_)
        refine r_guard rfl rfl rfl (ncf g3) (fun _ => ?_)
        refine r_guard rfl rfl rfl (ncf g3) (fun _ => ?_)
        refine r_guard rfl rfl rfl (ncf g3) (fun _ => ?_)
        refine r_op (o_pickF rfl rfl g3 rfl) ?_
        refine r_op (o_move rfl rfl) ?_
        refine r_guard rfl rfl rfl (ncf rfl) (fun _ => ?_)
        refine r_guard rfl rfl rfl (ncf rfl) (fun _ => ?_)
        refine r_guard rfl rfl rfl (ncf rfl) (fun _ => ?_)
        refine r_guard rfl rfl rfl (ncf rfl) (fun _ => ?_)
        refine r_op (o_pickF rfl rfl rfl rfl) ?_
        refine r_op (o_move rfl rfl) ?_
        refine r_guard rfl rfl rfl (ncf rfl) (fun _ => ?_)
        refine r_guard rfl rfl rfl (ncf rfl) (fun _ => ?_)
        refine r_guard rfl rfl rfl (ncf rfl) (fun _ => ?_)
        refine r_guard rfl rfl rfl (ncf rfl) (fun _ => ?_)
        refine r_op (o_pickF rfl rfl rfl rfl) ?_
        refine r_op (o_assign rfl rfl) ?_
        refine r_end ?_
        refine t_ret Tryz.func65 (.tmp rfl .nil) rfl fun E S w u hI hd => ?_
        refine post_mk hI hd ?_ trivial rfl rfl rfl <;> clear hI hd
        all_goals first | rfl | (refine scB ?_; clear hs g0 g1 v0 v1; unfold depOk; grind)
    ·
      have h2' := h2
      refine t_skip ?_
      refine t_seq ?_
      refine t_region ?_
      refine r_op (o_load1b rfl (by kernel_rfl) rfl rfl rfl) ?_
      refine r_op (o_fieldb rfl (off := 1) (by kernel_rfl) rfl) ?_
      refine r_op (o_load1b rfl (by kernel_rfl) rfl rfl rfl) ?_
      refine r_op (o_call 3 3 false (Go.Proofs.enters_of Tryz.func104 (by kernel_rfl) rfl) (c_impl_areAtoms (rs) (a1) (2) (by first | omega | assumption | exact vars12 (by assumption) | exact atoms_at (by assumption) (by assumption)) (by first | omega | assumption | exact vars12 (by assumption) | exact atoms_at (by assumption) (by assumption))) rfl (.cons rfl (.c .t0) (.cons rfl (.c .t0) (.cons rfl (.c .t0) .nil))) rfl rfl rfl) ?_
      refine r_op (o_move rfl rfl) ?_
      refine r_guard rfl rfl rfl (fun g6 => ?_) (fun g6 => ?_)
      ·
        have g6' := g6
        refine r_op (o_fieldb rfl (off := 3) (by kernel_rfl) rfl) ?_
        refine r_guard rfl rfl rfl (fun _ => ?_) (nc g6)
        refine r_op (o_load1b rfl (by kernel_rfl) rfl rfl rfl) ?_
        refine r_guard rfl rfl rfl (fun _ => ?_) (nc g6)
        refine r_op (o_bin rfl rfl rfl rfl) ?_
        refine r_op (o_pickT rfl rfl g6 rfl) ?_
        refine r_op (o_move rfl rfl) ?_
        refine r_guard rfl rfl rfl (fun g7 => ?_) (fun g7 => ?_)
        ·
          have g7' := of_decide_eq_true g7
          refine r_op (o_fieldb rfl (off := 4) (by kernel_rfl) rfl) ?_
          refine r_guard rfl rfl rfl (fun _ => ?_) (nc g7)
          refine r_op (o_load1b rfl (by kernel_rfl) rfl rfl rfl) ?_
          refine r_guard rfl rfl rfl (fun _ => ?_) (nc g7)
          refine r_op (o_bin rfl rfl rfl rfl) ?_
          refine r_op (o_pickT rfl rfl g7 rfl) ?_
          refine r_op (o_move rfl rfl) ?_
          refine r_guard rfl rfl rfl (fun g8 => ?_) (fun g8 => ?_)
          ·
            have g8' := of_decide_eq_true g8
            refine r_op (o_fieldb rfl (off := 1) (by kernel_rfl) rfl) ?_
            refine r_guard rfl rfl rfl (fun _ => ?_) (nc g8)
            refine r_op (o_load1b rfl (by kernel_rfl) rfl rfl rfl) ?_
            refine r_guard rfl rfl rfl (fun _ => ?_) (nc g8)
            refine r_op (o_makeFunc rfl (.cons rfl .nil)) ?_
            refine r_guard rfl rfl rfl (fun _ => ?_) (nc g8)
            refine r_op (o_call 3 3 false (Go.Proofs.enters_of Tryz.func107 (by kernel_rfl) rfl) (c_slices_ContainsFunc___impl_Atom_impl_Atom_ (a1) (108) ([((enSl 3 (enS3 encS encI encB)) (rs), 1)]) (fun (x0 : Int × (List (Int))) => srcA (rs) ((x0.1), (x0.2))) (by first | omega | assumption | exact vars12 (by assumption) | exact atoms_at (by assumption) (by assumption)) (fun x0 mx0 => ⟨Go.Proofs.enters_of Tryz.func108 (by kernel_rfl) rfl, c_impl_IsValidDependency_1 (x0.1) (x0.2) (rs) (by first | omega | assumption | exact vars12 (by assumption) | exact atoms_at (by assumption) (by assumption))⟩)) rfl (.cons rfl (.c .t0) (.cons rfl (.c (.clo (.cons rfl rfl rfl (.cons .t .nil) .nil))) .nil)) rfl rfl rfl) ?_
            refine r_guard rfl rfl rfl (fun _ => ?_) (nc g8)
            refine r_op (o_not rfl rfl) ?_
            refine r_op (o_pickT rfl rfl g8 rfl) ?_
            refine r_op (o_assign rfl rfl) ?_
            refine r_end ?_
            refine t_ret Tryz.func65 (.tmp rfl .nil) rfl fun E S w u hI hd => ?_
            refine post_mk hI hd ?_ trivial rfl rfl rfl <;> clear hI hd
            all_goals first | rfl | (refine scB ?_; clear hs g0 g1 v0 v1; unfold depOk; grind)
          ·
            have g8' := of_decide_eq_false g8
            refine r_guard rfl rfl rfl (ncf g8) (fun _ => ?_)
            refine r_guard rfl rfl rfl (ncf g8) (fun _ => ?_)
            refine r_guard rfl rfl rfl (ncf g8) (fun _ => ?_)
            refine r_guard rfl rfl rfl (ncf g8) (fun _ => ?_)
            refine r_op (o_pickF rfl rfl g8 rfl) ?_
            refine r_op (o_assign rfl rfl) ?_
            refine r_end ?_
            refine t_ret Tryz.func65 (.tmp rfl .nil) rfl fun E S w u hI hd => ?_
            refine post_mk hI hd ?_ trivial rfl rfl rfl <;> clear hI hd
            all_goals first | rfl | (refine scB ?_; clear hs g0 g1 v0 v1; unfold depOk; grind)
        ·
          have g7' := of_decide_eq_false g7
          refine r_guard rfl rfl rfl (ncf g7) (fun _ => ?_)
          refine r_guard rfl rfl rfl (ncf g7) (fun _ => ?_)
          refine r_op (o_pickF rfl rfl g7 rfl) ?_
          refine r_op (o_move rfl rfl) ?_
          refine r_guard rfl rfl rfl (ncf rfl) (fun _ => ?_)
          refine r_guard rfl rfl rfl (ncf rfl) (fun _ => ?_)
          refine r_guard rfl rfl rfl (ncf rfl) (fun _ => ?_)
          refine r_guard rfl rfl rfl (ncf rfl) (fun _ => ?_)
          refine r_guard rfl rfl rfl (ncf rfl) (fun _ => ?_)
          refine r_op (o_pickF rfl rfl rfl rfl) ?_
          refine r_op (o_assign rfl rfl) ?_
          refine r_end ?_
          refine t_ret Tryz.func65 (.tmp rfl .nil) rfl fun E S w u hI hd => ?_
          refine post_mk hI hd ?_ trivial rfl rfl rfl <;> clear hI hd
          all_goals first | rfl | (refine scB ?_; clear hs g0 g1 v0 v1; unfold depOk; grind)
      ·
        have g6' := g6
        refine r_guard rfl rfl rfl (ncf g6) (fun _ => ?_)
        refine r_guard rfl rfl rfl (ncf g6) (fun _ => ?_)
        refine r_op (o_pickF rfl rfl g6 rfl) ?_
        refine r_op (o_move rfl rfl) ?_
        refine r_guard rfl rfl rfl (ncf rfl) (fun _ => ?_)
        refine r_guard rfl rfl rfl (ncf rfl) (fun _ => ?_)
        refine r_guard rfl rfl rfl (ncf rfl) (fun _ => ?_)
        refine r_op (o_pickF rfl rfl rfl rfl) ?_
        refine r_op (o_move rfl rfl) ?_
        refine r_guard rfl rfl rfl (ncf rfl) (fun _ => ?_)
        refine r_guard rfl rfl rfl (ncf rfl) (fun _ => ?_)
        refine r_guard rfl rfl rfl (ncf rfl) (fun _ => ?_)
        refine r_guard rfl rfl rfl (ncf rfl) (fun _ => ?_)
        refine r_guard rfl rfl rfl (ncf rfl) (fun _ => ?_)
        refine r_op (o_pickF rfl rfl rfl rfl) ?_
        refine r_op (o_assign rfl rfl) ?_
        refine r_end ?_
        refine t_ret Tryz.func65 (.tmp rfl .nil) rfl fun E S w u hI hd => ?_
        refine post_mk hI hd ?_ trivial rfl rfl rfl <;> clear hI hd
        all_goals first | rfl | (refine scB ?_; clear hs g0 g1 v0 v1; unfold depOk; grind)
set_option maxHeartbeats 1000000 in
set_option maxRecDepth 10000 in
theorem c_impl_AreValidDependencies_1 (a0 : List (Int × (List (Int)))) (a1 : List (Int × (List (Int)))) (a2 : Bool) (a3 : Int) (a4 : Int) (rs : Rels) (hrs : rs.length ≤ 4611686018427387904) (hs : szS (fun (x : Int × (List (Int))) => (x.2).length) a0 + szS (fun (x : Int × (List (Int))) => (x.2).length) a1 ≤ 1048576) : Pu Tryz.prog 64 [.agg [.t none (.sl 2 (enS2 encI (enSl 1 encI)) (a0)), .t none (.sl 2 (enS2 encI (enSl 1 encI)) (a1)), .t none (.v (.bool (a2))), .t none (.v (.int .i64 (a3))), .t none (.v (.int .i64 (a4)))], .c (.pel none ((enSl 3 (enS3 encS encI encB)) (rs)) 1)] [] 0 (.c (.t none (.v (.bool (badD rs (a0, a1, a2, a3, a4)))))) := by
  refine pu_enter Tryz.func64 rfl (Nat.le_of_ble_eq_true rfl) fun w S => ?_
  refine t_seq ?_
  refine t_region ?_
  refine r_op (o_box 0 rfl rfl rfl rfl) ?_
  refine r_op (o_assign rfl rfl) ?_
  refine r_end ?_
  refine t_seq ?_
  refine t_region ?_
  refine r_op (o_load1 rfl (by kernel_rfl) rfl rfl) ?_
  refine r_op (o_loadAb rfl (n := 5) (by kernel_rfl) (by kernel_rfl) rfl rfl rfl) ?_
  refine r_op (o_call 1 1 false (Go.Proofs.enters_of Tryz.func65 (by kernel_rfl) rfl) (c_impl_IsValidDependency (rs) (a0) (a1) (a2) (a3) (a4) (by first | omega | (simp; omega)) (by first | omega | (simp; omega))) rfl (.cons rfl (.c .t0) (.cons rfl (.agg (.cons .t0 (.cons .t0 (.cons .t0 (.cons .t0 (.cons .t0 .nil)))))) .nil)) rfl rfl rfl) ?_
  refine r_op (o_not rfl rfl) ?_
  refine r_op (o_assign rfl rfl) ?_
  refine r_end ?_
  refine t_ret Tryz.func64 (.tmp rfl .nil) rfl fun E S w u hI hd => ?_
  refine post_mk hI hd ?_ trivial rfl rfl rfl <;> clear hI hd
  all_goals first | rfl | (rfl)
set_option maxHeartbeats 1000000 in
set_option maxRecDepth 10000 in
theorem c_slices_IndexFunc___impl_Dependency_impl_Dependency_ (l : List ((List (Int × (List (Int)))) × (List (Int × (List (Int)))) × Bool × Int × Int)) (f : Nat) (cs : List ((Nat → T) × Nat)) (p : (List (Int × (List (Int)))) × (List (Int × (List (Int)))) × Bool × Int × Int → Bool) (hl : l.length ≤ 9223372036854775807) (hf : ∀ x ∈ l, Fu Tryz.prog f ([.agg [.t none (.sl 2 (enS2 encI (enSl 1 encI)) (x.1)), .t none (.sl 2 (enS2 encI (enSl 1 encI)) (x.2.1)), .t none (.v (.bool (x.2.2.1))), .t none (.v (.int .i64 (x.2.2.2.1))), .t none (.v (.int .i64 (x.2.2.2.2)))]] ++ pels cs) (.c (.t none (.v (.bool (p x)))))) : Pu Tryz.prog 103 [.c (.t none (.sl 5 (enS5 (enSl 2 (enS2 encI (enSl 1 encI))) (enSl 2 (enS2 encI (enSl 1 encI))) encB encI encI) (l))), .c (.fv f cs)] [] 0 (.c (.t none (.v (.int .i64 (idxI p l))))) := by
  refine pu_enter Tryz.func103 rfl (Nat.le_of_ble_eq_true rfl) fun w S => ?_
  refine t_seq ?_
  refine t_region ?_
  refine r_op (o_assign rfl rfl) ?_
  refine r_end ?_
  refine t_seq ?_
  refine t_seq ?_
  refine t_region ?_
  refine r_op (o_move rfl rfl) ?_
  refine r_op (o_len rfl rfl rfl) ?_
  refine r_op (o_move rfl rfl) ?_
  refine r_end ?_
  refine t_block ?_
  refine t_loopL (fun m => ⟨[(0, some (.c (.t none (.sl 5 (enS5 (enSl 2 (enS2 encI (enSl 1 encI))) (enSl 2 (enS2 encI (enSl 1 encI))) encB encI encI) (l))))), (1, some (.c (.fv f cs))), (7, some (.c (.t none (.v (.int .i64 (((l).length : Int))))))), (8, some (.c (.t none (.v (.int .i64 ((m : Int)))))))], [], 0⟩ : Nat → St) (fun m => m ≤ l.length ∧ ∀ j z, j < m → l[j]? = some z → p z = false) (fun m => l.length - m) 0 ⟨⟨rfl, ⟨rfl, ⟨rfl, ⟨rfl, trivial⟩⟩⟩⟩, trivial, rfl⟩ (by exact ⟨Nat.zero_le _, fun j z h => by omega⟩) ?_
  rintro m hI ih0
  try dsimp only at hI ih0
  obtain ⟨i1, i2⟩ := hI
  refine t_seq ?_
  refine t_region ?_
  refine r_op (o_bin rfl rfl rfl rfl) ?_
  refine r_end ?_
  refine t_seq ?_
  refine t_cond rfl (fun h1 => ?_) (fun h1 => ?_)
  ·
    have h1' := of_decide_eq_true h1
    refine t_skip ?_
    refine t_seq ?_
    refine t_block ?_
    refine t_seq ?_
    refine t_region ?_
    refine r_op (o_move rfl rfl) ?_
    refine r_op (o_assign rfl rfl) ?_
    refine r_end ?_
    refine t_seq ?_
    refine t_region ?_
    refine r_op (o_move rfl rfl) ?_
    refine r_op (o_move rfl rfl) ?_
    refine r_op (o_move rfl rfl) ?_
    obtain ⟨z2, hz3, b4⟩ := at_get (xs := l) (n := (m : Int)) (by first | omega | (simp; omega)) (by first | omega | (simp; omega))
    refine r_op (o_index rfl (by kernel_rfl) rfl rfl b4 hz3) ?_
    refine r_op (o_loadA rfl (n := 5) (by kernel_rfl) (by kernel_rfl) rfl rfl) ?_
    refine r_op (o_callv 0 0 false (hf z2 (List.mem_of_getElem? (by assumption))).1 (hf z2 (List.mem_of_getElem? (by assumption))).2 rfl rfl (.c .fv) (.cons rfl (.agg (.cons .t0 (.cons .t0 (.cons .t0 (.cons .t0 (.cons .t0 .nil)))))) .nil) rfl rfl rfl) ?_
    refine r_end ?_
    refine t_cond rfl (fun h5 => ?_) (fun h5 => ?_)
    ·
      have h5' := h5
      refine t_seq ?_
      refine t_region ?_
      refine r_op (o_move rfl rfl) ?_
      refine r_op (o_assign rfl rfl) ?_
      refine r_end ?_
      refine t_ret Tryz.func103 (.tmp rfl .nil) rfl fun E S w u hI hd => ?_
      refine post_mk hI hd ?_ trivial rfl rfl rfl <;> clear hI hd <;> (try clear ih0)
      all_goals first | rfl | (rw [idx_hit i2 (by assumption) (by assumption)])
    ·
      have h5' := h5
      refine t_skip ?_
      refine t_endblock ?_
      refine t_region ?_
      refine r_op (o_bin rfl rfl rfl rfl) ?_
      refine r_op (o_move rfl rfl) ?_
      refine r_end ?_
      refine t_le ?_ (ih0 (m + 1) (by (try dsimp only); omega) (by (try dsimp only); exact ⟨by omega, no_step i2 (by assumption) rfl (by assumption)⟩))
      exact ⟨⟨rfl, ⟨rfl, ⟨rfl, ⟨(eqI (wr64 (by omega) (by omega))), trivial⟩⟩⟩⟩, trivial, rfl⟩
  ·
    have h1' := of_decide_eq_false h1
    refine t_exit rfl ?_
    refine t_seq ?_
    refine t_region ?_
    refine r_op (o_assign rfl rfl) ?_
    refine r_end ?_
    refine t_ret Tryz.func103 (.tmp rfl .nil) rfl fun E S w u hI hd => ?_
    refine post_mk hI hd ?_ trivial rfl rfl rfl <;> clear hI hd <;> (try clear ih0)
    all_goals first | rfl | (rw [idx_none i2 (by omega)])
set_option maxHeartbeats 1000000 in
set_option maxRecDepth 10000 in
theorem c_slices_ContainsFunc___impl_Dependency_impl_Dependency_ (l : List ((List (Int × (List (Int)))) × (List (Int × (List (Int)))) × Bool × Int × Int)) (f : Nat) (cs : List ((Nat → T) × Nat)) (p : (List (Int × (List (Int)))) × (List (Int × (List (Int)))) × Bool × Int × Int → Bool) (hl : l.length ≤ 9223372036854775807) (hf : ∀ x ∈ l, Fu Tryz.prog f ([.agg [.t none (.sl 2 (enS2 encI (enSl 1 encI)) (x.1)), .t none (.sl 2 (enS2 encI (enSl 1 encI)) (x.2.1)), .t none (.v (.bool (x.2.2.1))), .t none (.v (.int .i64 (x.2.2.2.1))), .t none (.v (.int .i64 (x.2.2.2.2)))]] ++ pels cs) (.c (.t none (.v (.bool (p x)))))) : Pu Tryz.prog 63 [.c (.t none (.sl 5 (enS5 (enSl 2 (enS2 encI (enSl 1 encI))) (enSl 2 (enS2 encI (enSl 1 encI))) encB encI encI) (l))), .c (.fv f cs)] [] 0 (.c (.t none (.v (.bool (l.any p))))) := by
  refine pu_enter Tryz.func63 rfl (Nat.le_of_ble_eq_true rfl) fun w S => ?_
  refine t_seq ?_
  refine t_region ?_
  refine r_op (o_assign rfl rfl) ?_
  refine r_end ?_
  refine t_seq ?_
  refine t_region ?_
  refine r_op (o_move rfl rfl) ?_
  refine r_op (o_move rfl rfl) ?_
  refine r_op (o_call 0 0 false (Go.Proofs.enters_of Tryz.func103 (by kernel_rfl) rfl) (c_slices_IndexFunc___impl_Dependency_impl_Dependency_ (l) (f) (cs) (p) (by first | omega | (simp; omega)) (hf)) rfl (.cons rfl (.c .t0) (.cons rfl (.c .fv) .nil)) rfl rfl rfl) ?_
  refine r_op (o_bin rfl rfl rfl rfl) ?_
  refine r_op (o_assign rfl rfl) ?_
  refine r_end ?_
  refine t_ret Tryz.func63 (.tmp rfl .nil) rfl fun E S w u hI hd => ?_
  refine post_mk hI hd ?_ trivial rfl rfl rfl <;> clear hI hd
  all_goals first | rfl | (exact scB idx_any)
set_option maxHeartbeats 1000000 in
set_option maxRecDepth 10000 in
theorem c_impl_AreValidDependencies (rs : Rels) (l : List Dep) (hrs : rs.length ≤ 4611686018427387904) (hs : szS (fun (x : (List (Int × (List (Int)))) × (List (Int × (List (Int)))) × Bool × Int × Int) => (szS (fun (x : Int × (List (Int))) => (x.2).length) (x.1)) + (szS (fun (x : Int × (List (Int))) => (x.2).length) (x.2.1))) l ≤ 1048576) : Pu Tryz.prog 31 [.c (.t none (.sl 3 (enS3 encS encI encB) (rs))), .c (.t none (.sl 5 (enS5 (enSl 2 (enS2 encI (enSl 1 encI))) (enSl 2 (enS2 encI (enSl 1 encI))) encB encI encI) (l)))] [] 0 (.c (.t none (.v (.bool (depsOk rs l))))) := by
  refine pu_enter Tryz.func31 rfl (Nat.le_of_ble_eq_true rfl) fun w S => ?_
  have gl := sz_len (f := (fun (x : (List (Int × (List (Int)))) × (List (Int × (List (Int)))) × Bool × Int × Int) => (szS (fun (x : Int × (List (Int))) => (x.2).length) (x.1)) + (szS (fun (x : Int × (List (Int))) => (x.2).length) (x.2.1)))) (l := l)
  refine t_seq ?_
  refine t_region ?_
  refine r_op (o_box 0 rfl rfl rfl rfl) ?_
  refine r_op (o_assign rfl rfl) ?_
  refine r_end ?_
  refine t_seq ?_
  refine t_region ?_
  refine r_op (o_load1b rfl (by kernel_rfl) rfl rfl rfl) ?_
  refine r_op (o_call 1 1 false (Go.Proofs.enters_of Tryz.func56 (by kernel_rfl) rfl) (c_impl_AreValidRelations (rs) (by first | omega | assumption | (have e1 := sz_mem (f := (fun (x : (List (Int × (List (Int)))) × (List (Int × (List (Int)))) × Bool × Int × Int) => (szS (fun (x : Int × (List (Int))) => (x.2).length) (x.1)) + (szS (fun (x : Int × (List (Int))) => (x.2).length) (x.2.1)))) (l := l) (by assumption); (try dsimp only at e1); omega))) rfl (.cons rfl (.c .t0) .nil) rfl rfl rfl) ?_
  refine r_op (o_move rfl rfl) ?_
  refine r_guard rfl rfl rfl (fun g1 => ?_) (fun g1 => ?_)
  ·
    have g1' := g1
    refine r_op (o_move rfl rfl) ?_
    refine r_guard rfl rfl rfl (fun _ => ?_) (nc g1)
    refine r_op (o_len rfl rfl rfl) ?_
    refine r_guard rfl rfl rfl (fun _ => ?_) (nc g1)
    refine r_op (o_bin rfl rfl rfl rfl) ?_
    refine r_op (o_pickT rfl rfl g1 rfl) ?_
    refine r_op (o_move rfl rfl) ?_
    refine r_guard rfl rfl rfl (fun g2 => ?_) (fun g2 => ?_)
    ·
      have g2' := of_decide_eq_true g2
      refine r_op (o_move rfl rfl) ?_
      refine r_guard rfl rfl rfl (fun _ => ?_) (nc g2)
      refine r_op (o_makeFunc rfl (.cons rfl .nil)) ?_
      refine r_guard rfl rfl rfl (fun _ => ?_) (nc g2)
      refine r_op (o_call 1 1 false (Go.Proofs.enters_of Tryz.func63 (by kernel_rfl) rfl) (c_slices_ContainsFunc___impl_Dependency_impl_Dependency_ (l) (64) ([((enSl 3 (enS3 encS encI encB)) (rs), 1)]) (fun (x0 : (List (Int × (List (Int)))) × (List (Int × (List (Int)))) × Bool × Int × Int) => badD (rs) ((x0.1), (x0.2.1), (x0.2.2.1), (x0.2.2.2.1), (x0.2.2.2.2))) (by first | omega | assumption | (have e1 := sz_mem (f := (fun (x : (List (Int × (List (Int)))) × (List (Int × (List (Int)))) × Bool × Int × Int) => (szS (fun (x : Int × (List (Int))) => (x.2).length) (x.1)) + (szS (fun (x : Int × (List (Int))) => (x.2).length) (x.2.1)))) (l := l) (by assumption); (try dsimp only at e1); omega)) (fun x0 mx0 => ⟨Go.Proofs.enters_of Tryz.func64 (by kernel_rfl) rfl, c_impl_AreValidDependencies_1 (x0.1) (x0.2.1) (x0.2.2.1) (x0.2.2.2.1) (x0.2.2.2.2) (rs) (by first | omega | assumption | (have e1 := sz_mem (f := (fun (x : (List (Int × (List (Int)))) × (List (Int × (List (Int)))) × Bool × Int × Int) => (szS (fun (x : Int × (List (Int))) => (x.2).length) (x.1)) + (szS (fun (x : Int × (List (Int))) => (x.2).length) (x.2.1)))) (l := l) (by assumption); (try dsimp only at e1); omega)) (by first | omega | assumption | (have e1 := sz_mem (f := (fun (x : (List (Int × (List (Int)))) × (List (Int × (List (Int)))) × Bool × Int × Int) => (szS (fun (x : Int × (List (Int))) => (x.2).length) (x.1)) + (szS (fun (x : Int × (List (Int))) => (x.2).length) (x.2.1)))) (l := l) (by assumption); (try dsimp only at e1); omega))⟩)) rfl (.cons rfl (.c .t0) (.cons rfl (.c (.clo (.cons rfl rfl rfl (.cons .t .nil) .nil))) .nil)) rfl rfl rfl) ?_
      refine r_guard rfl rfl rfl (fun _ => ?_) (nc g2)
      refine r_op (o_not rfl rfl) ?_
      refine r_op (o_pickT rfl rfl g2 rfl) ?_
      refine r_op (o_assign rfl rfl) ?_
      refine r_end ?_
      refine t_ret Tryz.func31 (.tmp rfl .nil) rfl fun E S w u hI hd => ?_
      refine post_mk hI hd ?_ trivial rfl rfl rfl <;> clear hI hd
      all_goals first | rfl | (refine scB ?_; clear hs gl; unfold depsOk; grind)
    ·
      have g2' := of_decide_eq_false g2
      refine r_guard rfl rfl rfl (ncf g2) (fun _ => ?_)
      refine r_guard rfl rfl rfl (ncf g2) (fun _ => ?_)
      refine r_guard rfl rfl rfl (ncf g2) (fun _ => ?_)
      refine r_op (o_pickF rfl rfl g2 rfl) ?_
      refine r_op (o_assign rfl rfl) ?_
      refine r_end ?_
      refine t_ret Tryz.func31 (.tmp rfl .nil) rfl fun E S w u hI hd => ?_
      refine post_mk hI hd ?_ trivial rfl rfl rfl <;> clear hI hd
      all_goals first | rfl | (refine scB ?_; clear hs gl; unfold depsOk; grind)
  ·
    have g1' := g1
    refine r_guard rfl rfl rfl (ncf g1) (fun _ => ?_)
    refine r_guard rfl rfl rfl (ncf g1) (fun _ => ?_)
    refine r_op (o_pickF rfl rfl g1 rfl) ?_
    refine r_op (o_move rfl rfl) ?_
    refine r_guard rfl rfl rfl (ncf rfl) (fun _ => ?_)
    refine r_guard rfl rfl rfl (ncf rfl) (fun _ => ?_)
    refine r_guard rfl rfl rfl (ncf rfl) (fun _ => ?_)
    refine r_guard rfl rfl rfl (ncf rfl) (fun _ => ?_)
    refine r_op (o_pickF rfl rfl rfl rfl) ?_
    refine r_op (o_assign rfl rfl) ?_
    refine r_end ?_
    refine t_ret Tryz.func31 (.tmp rfl .nil) rfl fun E S w u hI hd => ?_
    refine post_mk hI hd ?_ trivial rfl rfl rfl <;> clear hI hd
    all_goals first | rfl | (refine scB ?_; clear hs gl; unfold depsOk; grind)
def Tryz.laysI_ren : Go.Shelf.Ren := ⟨fun | 171 => 130 | 243 => 156 | 246 => 169 | 283 => 184 | 284 => 185 | 285 => 186 | 286 => 187 | 129 => 183 | 317 => 194 | 318 => 195 | 319 => 196 | 320 => 197 | 337 => 199 | 338 => 200 | n => n, fun | 3 => 3 | 9 => 9 | 2 => 2 | 4 => 4 | 171 => 185 | 0 => 0 | 53 => 184 | 37 => 46 | 5 => 5 | 173 => 187 | 212 => 200 | 51 => 169 | 20 => 20 | 213 => 201 | 46 => 151 | 232 => 205 | 233 => 206 | n => n, fun | 17 => 3 | 18 => 4 | 19 => 5 | n => n⟩
theorem Tryz.laysI : Go.Proofs.Lays.n171 Tryz.prog Tryz.laysI_ren := {
 mixed := by kernel_rfl
 f129 := Tryz.func183.trans (congrArg some (by kernel_rfl))
 f171 := Tryz.func130.trans (congrArg some (by kernel_rfl))
 f243 := Tryz.func156.trans (congrArg some (by kernel_rfl))
 f246 := Tryz.func169.trans (congrArg some (by kernel_rfl))
 f283 := Tryz.func184.trans (congrArg some (by kernel_rfl))
 f284 := Tryz.func185.trans (congrArg some (by kernel_rfl))
 f285 := Tryz.func186.trans (congrArg some (by kernel_rfl))
 f286 := Tryz.func187.trans (congrArg some (by kernel_rfl))
 f317 := Tryz.func194.trans (congrArg some (by kernel_rfl))
 f318 := Tryz.func195.trans (congrArg some (by kernel_rfl))
 f319 := Tryz.func196.trans (congrArg some (by kernel_rfl))
 f320 := Tryz.func197.trans (congrArg some (by kernel_rfl))
 f337 := Tryz.func199.trans (congrArg some (by kernel_rfl))
 f338 := Tryz.func200.trans (congrArg some (by kernel_rfl))
 t0 := Tryz.underlying0
 a0 := Tryz.isAgg0
 z0 := Tryz.sizeOf0
 v0 := Tryz.zeroValue0
 t2 := Tryz.underlying2
 a2 := Tryz.isAgg2
 z2 := Tryz.sizeOf2
 v2 := Tryz.zeroValue2
 t3 := Tryz.underlying3
 a3 := Tryz.isAgg3
 z3 := Tryz.sizeOf3
 v3 := Tryz.zeroValue3
 t4 := Tryz.underlying4
 a4 := Tryz.isAgg4
 z4 := Tryz.sizeOf4
 v4 := Tryz.zeroValue4
 t5 := Tryz.underlying5
 a5 := Tryz.isAgg5
 z5 := Tryz.sizeOf5
 v5 := Tryz.zeroValue5
 t9 := Tryz.underlying9
 a9 := Tryz.isAgg9
 z9 := Tryz.sizeOf9
 v9 := Tryz.zeroValue9
 t20 := Tryz.underlying20
 a20 := Tryz.isAgg20
 z20 := Tryz.sizeOf20
 v20 := Tryz.zeroValue20
 t37 := Tryz.underlying46
 a37 := Tryz.isAgg46
 z37 := Tryz.sizeOf46
 v37 := Tryz.zeroValue46
 t46 := Tryz.underlying151
 a46 := Tryz.isAgg151
 z46 := Tryz.sizeOf151
 v46 := Tryz.zeroValue151
 t51 := Tryz.underlying169
 a51 := Tryz.isAgg169
 z51 := Tryz.sizeOf169
 v51 := Tryz.zeroValue169
 t53 := Tryz.underlying184
 a53 := Tryz.isAgg184
 z53 := Tryz.sizeOf184
 v53 := Tryz.zeroValue184
 t171 := Tryz.underlying185
 a171 := Tryz.isAgg185
 z171 := Tryz.sizeOf185
 v171 := Tryz.zeroValue185
 t173 := Tryz.underlying187
 a173 := Tryz.isAgg187
 z173 := Tryz.sizeOf187
 v173 := Tryz.zeroValue187
 t212 := Tryz.underlying200
 a212 := Tryz.isAgg200
 z212 := Tryz.sizeOf200
 v212 := Tryz.zeroValue200
 t213 := Tryz.underlying201
 a213 := Tryz.isAgg201
 z213 := Tryz.sizeOf201
 t232 := Tryz.underlying205
 a232 := Tryz.isAgg205
 z232 := Tryz.sizeOf205
 v232 := Tryz.zeroValue205
 t233 := Tryz.underlying206
 a233 := Tryz.isAgg206
 z233 := Tryz.sizeOf206
 v233 := Tryz.zeroValue206
 g17 := by kernel_rfl
 g18 := by kernel_rfl
 g19 := by kernel_rfl }
set_option maxHeartbeats 1000000 in
set_option maxRecDepth 10000 in
theorem c_strconv_Itoa (i : Int) (hi : 0 ≤ i ∧ i < 100) : Pu Tryz.prog 130 [.c (.t none (.v (.int .i64 (i))))] [] 0 (.c (.t none (.v (.string (mkS (fmtN i)))))) := by
  exact (fmtN_dec (n := i) hi.1) ▸ itoa_pu Tryz.laysI i hi
set_option maxHeartbeats 1000000 in
set_option maxRecDepth 10000 in
theorem c_impl_FormatInt (i : Int) (hi : 0 ≤ i ∧ i < 100) : Pu Tryz.prog 87 [.c (.t none (.v (.int .i64 (i))))] [] 0 (.c (.t none (.v (.string (mkS (fmtN i)))))) := by
  refine pu_enter Tryz.func87 rfl (Nat.le_of_ble_eq_true rfl) fun w S => ?_
  refine t_seq ?_
  refine t_region ?_
  refine r_op (o_assign rfl rfl) ?_
  refine r_end ?_
  refine t_seq ?_
  refine t_region ?_
  refine r_op (o_move rfl rfl) ?_
  refine r_op (o_call 0 0 false (Go.Proofs.enters_of Tryz.func130 (by kernel_rfl) rfl) (c_strconv_Itoa (i) (by first | omega | assumption)) rfl (.cons rfl (.c .t0) .nil) rfl rfl rfl) ?_
  refine r_op (o_assign rfl rfl) ?_
  refine r_end ?_
  refine t_ret Tryz.func87 (.tmp rfl .nil) rfl fun E S w u hI hd => ?_
  refine post_mk hI hd ?_ trivial rfl rfl rfl <;> clear hI hd
  all_goals first | rfl | (simp_all <;> omega)
set_option maxHeartbeats 1000000 in
set_option maxRecDepth 10000 in
theorem c_impl_FormatTerm (t : Int) (ht : okI t) : Pu Tryz.prog 74 [.c (.t none (.v (.int .i64 (t))))] [] 0 (.c (.t none (.v (.string (mkS (fmtT t)))))) := by
  refine pu_enter Tryz.func74 rfl (Nat.le_of_ble_eq_true rfl) fun w S => ?_
  have h1 := ht.1; have h2 := ht.2
  refine t_seq ?_
  refine t_region ?_
  refine r_op (o_assign rfl rfl) ?_
  refine r_end ?_
  refine t_seq ?_
  refine t_block ?_
  refine t_seq ?_
  refine t_region ?_
  refine r_op (o_move rfl rfl) ?_
  refine r_op (o_call 0 0 false (Go.Proofs.enters_of Tryz.func86 (by kernel_rfl) rfl) (c_impl_within (t) (0) (4)) rfl (.cons rfl (.c .t0) (.cons rfl (.c .t0) (.cons rfl (.c .t0) .nil))) rfl rfl rfl) ?_
  refine r_op (o_assign rfl rfl) ?_
  refine r_end ?_
  refine t_cond rfl (fun h1 => ?_) (fun h1 => ?_)
  ·
    have h1' := of_decide_eq_true h1
    refine t_seq ?_
    refine t_region ?_
    refine r_op (o_move rfl rfl) ?_
    refine r_op (o_move rfl rfl) ?_
    refine r_op (o_bin rfl rfl rfl rfl) ?_
    refine r_op (o_subS rfl Tryz.underlying9 rfl rfl rfl (by first | omega | (rw [wr64 (by omega) (by omega)]; omega) | (rw [wr64 (by omega) (by omega)]; simp; omega) | (constructor <;> (rw [wr64 (by omega) (by omega)]; omega))) (by first | omega | (rw [wr64 (by omega) (by omega)]; omega) | (rw [wr64 (by omega) (by omega)]; simp; omega) | (constructor <;> (rw [wr64 (by omega) (by omega)]; omega))) (by first | omega | (rw [wr64 (by omega) (by omega)]; omega) | (rw [wr64 (by omega) (by omega)]; simp; omega) | (constructor <;> (rw [wr64 (by omega) (by omega)]; omega)))) ?_
    refine r_op (o_assign rfl rfl) ?_
    refine r_end ?_
    refine t_ret Tryz.func74 (.tmp rfl .nil) rfl fun E S w u hI hd => ?_
    refine post_mk hI hd ?_ trivial rfl rfl rfl <;> clear hI hd
    all_goals first | rfl | (refine scS ?_; first | exact fmtT_var (by omega) | exact fmtT_con (by omega) | exact fmtT_no (by omega) (by omega))
  ·
    have h1' := of_decide_eq_false h1
    refine t_seq ?_
    refine t_region ?_
    refine r_op (o_move rfl rfl) ?_
    refine r_op (o_call 0 0 false (Go.Proofs.enters_of Tryz.func86 (by kernel_rfl) rfl) (c_impl_within (t) (-10) (-1)) rfl (.cons rfl (.c .t0) (.cons rfl (.c .t0) (.cons rfl (.c .t0) .nil))) rfl rfl rfl) ?_
    refine r_op (o_assign rfl rfl) ?_
    refine r_end ?_
    refine t_cond rfl (fun h2 => ?_) (fun h2 => ?_)
    ·
      have h2' := of_decide_eq_true h2
      refine t_seq ?_
      refine t_region ?_
      refine r_op (o_move rfl rfl) ?_
      refine r_op (o_bin rfl rfl rfl rfl) ?_
      refine r_op (o_call 0 0 false (Go.Proofs.enters_of Tryz.func87 (by kernel_rfl) rfl) (c_impl_FormatInt (IntKind.i64.wrap ((-1) - t)) (by first | omega | (rw [wr64 (by omega) (by omega)]; omega) | (rw [wr64 (by omega) (by omega)]; simp; omega) | (constructor <;> (rw [wr64 (by omega) (by omega)]; omega)))) rfl (.cons rfl (.c .t0) .nil) rfl rfl rfl) ?_
      refine r_op (o_assign rfl rfl) ?_
      refine r_end ?_
      refine t_ret Tryz.func74 (.tmp rfl .nil) rfl fun E S w u hI hd => ?_
      refine post_mk hI hd ?_ trivial rfl rfl rfl <;> clear hI hd
      all_goals first | rfl | (refine scS ?_; first | exact fmtT_var (by omega) | exact fmtT_con (by omega) | exact fmtT_no (by omega) (by omega))
    ·
      have h2' := of_decide_eq_false h2
      refine t_skip ?_
      refine t_endblock ?_
      refine t_seq ?_
      refine t_region ?_
      refine r_op (o_assign rfl rfl) ?_
      refine r_end ?_
      refine t_ret Tryz.func74 (.tmp rfl .nil) rfl fun E S w u hI hd => ?_
      refine post_mk hI hd ?_ trivial rfl rfl rfl <;> clear hI hd
      all_goals first | rfl | (refine scS ?_; first | exact fmtT_var (by omega) | exact fmtT_con (by omega) | exact fmtT_no (by omega) (by omega))
set_option maxHeartbeats 1000000 in
set_option maxRecDepth 10000 in
theorem c_impl_FormatAtom (rs : List (List UInt8 × Int × Bool)) (r : Int) (ts : List Int) (hrs : rs.length ≤ 4611686018427387904) (hts : ts.length ≤ 4611686018427387904) (ho : ∀ x ∈ ts, okI x) : Pu Tryz.prog 118 [.c (.t none (.sl 3 (enS3 encS encI encB) (rs))), .agg [.t none (.v (.int .i64 (r))), .t none (.sl 1 encI (ts))]] [] 0 (.c (.t none (.v (.string (mkS (fmtA rs (r, ts))))))) := by
  refine pu_enter Tryz.func118 rfl (Nat.le_of_ble_eq_true rfl) fun w S => ?_
  have ar := @atomOk_rels rs r ts
  refine t_seq ?_
  refine t_region ?_
  refine r_op (o_box 0 rfl rfl rfl rfl) ?_
  refine r_op (o_assign rfl rfl) ?_
  refine r_end ?_
  refine t_seq ?_
  refine t_seq ?_
  refine t_region ?_
  refine r_op (o_move rfl rfl) ?_
  refine r_op (o_loadAb rfl (n := 2) (by kernel_rfl) (by kernel_rfl) rfl rfl rfl) ?_
  refine r_op (o_call 1 1 false (Go.Proofs.enters_of Tryz.func143 (by kernel_rfl) rfl) (c_impl_IsValidAtom (rs) (r) (ts) (by first | omega | assumption | exact Nat.le_trans (Nat.add_le_add cl (fmtT_len _)) (by decide) | exact ho _ (List.mem_of_getElem? (by assumption)) | (have q := ar (by assumption); omega)) (by first | omega | assumption | exact Nat.le_trans (Nat.add_le_add cl (fmtT_len _)) (by decide) | exact ho _ (List.mem_of_getElem? (by assumption)) | (have q := ar (by assumption); omega))) rfl (.cons rfl (.c .t0) (.cons rfl (.agg (.cons .t0 (.cons .t0 .nil))) .nil)) rfl rfl rfl) ?_
  refine r_op (o_not rfl rfl) ?_
  refine r_end ?_
  refine t_cond rfl (fun h1 => ?_) (fun h1 => ?_)
  ·
    have h1' := (bnt h1)
    refine t_seq ?_
    refine t_region ?_
    refine r_op (o_assign rfl rfl) ?_
    refine r_end ?_
    refine t_ret Tryz.func118 (.tmp rfl .nil) rfl fun E S w u hI hd => ?_
    refine post_mk hI hd ?_ trivial rfl rfl rfl <;> clear hI hd <;> (try clear ih0)
    all_goals first | rfl | (refine scS ?_; first | exact fmtA_no (by assumption) | exact fmtA_yes (by assumption) (by assumption) (by omega))
  ·
    have h1' := (bnf h1)
    refine t_skip ?_
    refine t_seq ?_
    refine t_region ?_
    refine r_op (o_move rfl rfl) ?_
    refine r_op (o_fieldb rfl (off := 0) (by kernel_rfl) rfl) ?_
    refine r_op (o_load1b rfl (by kernel_rfl) rfl rfl rfl) ?_
    obtain ⟨z2, hz3, b4⟩ := at_get (xs := rs) (n := r) (by first | omega | assumption | exact Nat.le_trans (Nat.add_le_add cl (fmtT_len _)) (by decide) | exact ho _ (List.mem_of_getElem? (by assumption)) | (have q := ar (by assumption); omega)) (by first | omega | assumption | exact Nat.le_trans (Nat.add_le_add cl (fmtT_len _)) (by decide) | exact ho _ (List.mem_of_getElem? (by assumption)) | (have q := ar (by assumption); omega))
    refine r_op (o_index rfl (by kernel_rfl) rfl rfl b4 hz3) ?_
    refine r_op (o_field rfl (off := 0) (by kernel_rfl) rfl) ?_
    refine r_op (o_load1 rfl (by kernel_rfl) rfl rfl) ?_
    refine r_op (o_assign rfl rfl) ?_
    refine r_end ?_
    refine t_seq ?_
    refine t_seq ?_
    refine t_region ?_
    refine r_op (o_fieldb rfl (off := 1) (by kernel_rfl) rfl) ?_
    refine r_op (o_load1b rfl (by kernel_rfl) rfl rfl rfl) ?_
    refine r_op (o_len rfl rfl rfl) ?_
    refine r_op (o_move rfl rfl) ?_
    refine r_end ?_
    refine t_block ?_
    refine t_loopL (fun m => ⟨[(4, some (.c (.t none (.v (.string (mkS (([] : List UInt8)))))))), (5, some (.c (.t none (.v (.string (mkS (z2.1 ++ (ts.take m).flatMap fmtT))))))), (19, some (.c (.t none (.sl 1 encI (ts))))), (20, some (.c (.t none (.v (.int .i64 (((ts).length : Int))))))), (21, some (.c (.t none (.v (.int .i64 ((m : Int)))))))], [(0, some (.box [.t none (.v (.int .i64 (r))), .t none (.sl 1 encI (ts))]))], 1⟩ : Nat → St) (fun m => m ≤ ts.length) (fun m => ts.length - m) 0 ⟨⟨rfl, ⟨(eqS (by simp)), ⟨rfl, ⟨rfl, ⟨rfl, trivial⟩⟩⟩⟩⟩, ⟨rfl, trivial⟩, rfl⟩ (by exact Nat.zero_le _) ?_
    rintro m hI ih0
    try dsimp only at hI ih0
    have i1 := hI; have a1 := ar (by assumption); have nl := name_len a1.1 hz3; have fl := flatT_len (ts.take m); have tl : (ts.take m).length ≤ 3 := (by rw [List.length_take]; omega); have cl : (z2.1 ++ (ts.take m).flatMap fmtT).length ≤ 7 := (by rw [List.length_append]; omega)
    refine t_seq ?_
    refine t_region ?_
    refine r_op (o_bin rfl rfl rfl rfl) ?_
    refine r_end ?_
    refine t_seq ?_
    refine t_cond rfl (fun h5 => ?_) (fun h5 => ?_)
    ·
      have h5' := of_decide_eq_true h5
      refine t_skip ?_
      refine t_seq ?_
      refine t_block ?_
      refine t_seq ?_
      refine t_region ?_
      obtain ⟨z6, hz7, b8⟩ := at_get (xs := ts) (n := (m : Int)) (by first | omega | assumption | exact Nat.le_trans (Nat.add_le_add cl (fmtT_len _)) (by decide) | exact ho _ (List.mem_of_getElem? (by assumption)) | (have q := ar (by assumption); omega)) (by first | omega | assumption | exact Nat.le_trans (Nat.add_le_add cl (fmtT_len _)) (by decide) | exact ho _ (List.mem_of_getElem? (by assumption)) | (have q := ar (by assumption); omega))
      refine r_op (o_index rfl (by kernel_rfl) rfl rfl b8 hz7) ?_
      refine r_op (o_load1 rfl (by kernel_rfl) rfl rfl) ?_
      refine r_op (o_assign rfl rfl) ?_
      refine r_end ?_
      refine t_region ?_
      refine r_op (o_move rfl rfl) ?_
      refine r_op (o_move rfl rfl) ?_
      refine r_op (o_call 1 1 false (Go.Proofs.enters_of Tryz.func74 (by kernel_rfl) rfl) (c_impl_FormatTerm (z6) (by first | omega | assumption | exact Nat.le_trans (Nat.add_le_add cl (fmtT_len _)) (by decide) | exact ho _ (List.mem_of_getElem? (by assumption)) | (have q := ar (by assumption); omega))) rfl (.cons rfl (.c .t0) .nil) rfl rfl rfl) ?_
      refine r_op (o_cat rfl rfl rfl (by first | omega | assumption | exact Nat.le_trans (Nat.add_le_add cl (fmtT_len _)) (by decide) | exact ho _ (List.mem_of_getElem? (by assumption)) | (have q := ar (by assumption); omega))) ?_
      refine r_op (o_assign rfl rfl) ?_
      refine r_end ?_
      refine t_endblock ?_
      refine t_region ?_
      refine r_op (o_bin rfl rfl rfl rfl) ?_
      refine r_op (o_move rfl rfl) ?_
      refine r_end ?_
      refine t_le ?_ (ih0 (m + 1) (by (try dsimp only); omega) (by (try dsimp only); omega))
      exact ⟨⟨rfl, ⟨(eqS (by rw [List.append_assoc, fmtF_step (m := m) hz7])), ⟨rfl, ⟨rfl, ⟨(eqI (wr64 (by omega) (by omega))), trivial⟩⟩⟩⟩⟩, ⟨rfl, trivial⟩, rfl⟩
    ·
      have h5' := of_decide_eq_false h5
      refine t_exit rfl ?_
      refine t_seq ?_
      refine t_region ?_
      refine r_op (o_move rfl rfl) ?_
      refine r_op (o_assign rfl rfl) ?_
      refine r_end ?_
      refine t_ret Tryz.func118 (.tmp rfl .nil) rfl fun E S w u hI hd => ?_
      refine post_mk hI hd ?_ trivial rfl rfl rfl <;> clear hI hd <;> (try clear ih0)
      all_goals first | rfl | (refine scS ?_; first | exact fmtA_no (by assumption) | exact fmtA_yes (by assumption) (by assumption) (by omega))
def Tryz.laysJ_ren : Go.Shelf.Ren := ⟨fun | 156 => 40 | 165 => 75 | 166 => 76 | 169 => 77 | 240 => 119 | 241 => 120 | 276 => 151 | 277 => 152 | n => n, fun | 31 => 64 | 9 => 9 | 3 => 3 | 4 => 4 | 0 => 0 | 20 => 20 | 72 => 96 | 76 => 100 | 70 => 94 | 37 => 46 | 75 => 99 | 127 => 138 | 164 => 156 | 5 => 5 | 80 => 102 | n => n, fun | n => n⟩
theorem Tryz.laysJ : Go.Proofs.Lays.n156 Tryz.prog Tryz.laysJ_ren := {
 mixed := by kernel_rfl
 f156 := Tryz.func40.trans (congrArg some (by kernel_rfl))
 f165 := Tryz.func75.trans (congrArg some (by kernel_rfl))
 f166 := Tryz.func76.trans (congrArg some (by kernel_rfl))
 f169 := Tryz.func77.trans (congrArg some (by kernel_rfl))
 f240 := Tryz.func119.trans (congrArg some (by kernel_rfl))
 f241 := Tryz.func120.trans (congrArg some (by kernel_rfl))
 f276 := Tryz.func151.trans (congrArg some (by kernel_rfl))
 f277 := Tryz.func152.trans (congrArg some (by kernel_rfl))
 t0 := Tryz.underlying0
 a0 := Tryz.isAgg0
 z0 := Tryz.sizeOf0
 v0 := Tryz.zeroValue0
 t3 := Tryz.underlying3
 a3 := Tryz.isAgg3
 z3 := Tryz.sizeOf3
 v3 := Tryz.zeroValue3
 t4 := Tryz.underlying4
 a4 := Tryz.isAgg4
 z4 := Tryz.sizeOf4
 v4 := Tryz.zeroValue4
 t9 := Tryz.underlying9
 a9 := Tryz.isAgg9
 z9 := Tryz.sizeOf9
 v9 := Tryz.zeroValue9
 t20 := Tryz.underlying20
 a20 := Tryz.isAgg20
 z20 := Tryz.sizeOf20
 v20 := Tryz.zeroValue20
 t31 := Tryz.underlying64
 a31 := Tryz.isAgg64
 z31 := Tryz.sizeOf64
 v31 := Tryz.zeroValue64
 t37 := Tryz.underlying46
 a37 := Tryz.isAgg46
 z37 := Tryz.sizeOf46
 v37 := Tryz.zeroValue46
 t70 := Tryz.underlying94
 a70 := Tryz.isAgg94
 z70 := Tryz.sizeOf94
 v70 := Tryz.zeroValue94
 t72 := Tryz.underlying96
 a72 := Tryz.isAgg96
 z72 := Tryz.sizeOf96
 v72 := Tryz.zeroValue96
 t75 := Tryz.underlying99
 a75 := Tryz.isAgg99
 z75 := Tryz.sizeOf99
 v75 := Tryz.zeroValue99
 t76 := Tryz.underlying100
 a76 := Tryz.isAgg100
 z76 := Tryz.sizeOf100
 v76 := Tryz.zeroValue100
 t127 := Tryz.underlying138
 a127 := Tryz.isAgg138
 z127 := Tryz.sizeOf138
 v127 := Tryz.zeroValue138
 t164 := Tryz.underlying156
 a164 := Tryz.isAgg156
 z164 := Tryz.sizeOf156
 v164 := Tryz.zeroValue156 }
theorem Tryz.extraJ : Go.Proofs.Builder.Extra Tryz.prog Tryz.laysJ_ren where
  sizeBuilder := by kernel_rfl
  liesBuilder := by kernel_rfl
  t5 := by kernel_rfl
  a5 := fun _ => by kernel_rfl
  z5 := fun _ => by kernel_rfl
  v5 := fun _ => by kernel_rfl
  infoByte := by kernel_rfl
  cellsByte := by kernel_rfl
  sizeByte := by kernel_rfl
  neB5 := by decide
set_option maxHeartbeats 1000000 in
set_option maxRecDepth 10000 in
theorem c_strings_Join (xs : List (List UInt8)) (sep : List UInt8) (h1 : xs.length ≤ 140737488355328) (h2 : (Lib.join xs sep).length ≤ 140737488355328) : Pu Tryz.prog 40 [.c (.t none (.sl 1 encS (xs))), .c (.t none (.v (.string (mkS (sep)))))] [] 0 (.c (.t none (.v (.string (mkS (Lib.join xs sep)))))) := by
  exact join_pu Tryz.laysJ Tryz.extraJ xs sep h1 h2
set_option maxHeartbeats 1000000 in
set_option maxRecDepth 10000 in
theorem c_impl_formatAtoms (rs : Rels) (l : Atoms) (hrs : rs.length ≤ 4611686018427387904) (hs : szS (fun (x : Int × (List (Int))) => (x.2).length) l ≤ 1048576) (hoa : ∀ z ∈ l, ∀ x ∈ z.2, okI x) : Pu Tryz.prog 73 [.c (.t none (.sl 3 (enS3 encS encI encB) (rs))), .c (.t none (.sl 2 (enS2 encI (enSl 1 encI)) (l)))] [] 0 (.c (.t none (.v (.string (mkS (fmtAs rs l)))))) := by
  refine pu_enter Tryz.func73 rfl (Nat.le_of_ble_eq_true rfl) fun w S => ?_
  have gl := sz_len (f := (fun (x : Int × (List (Int))) => (x.2).length)) (l := l)
  refine t_seq ?_
  refine t_region ?_
  refine r_op (o_assign rfl rfl) ?_
  refine r_end ?_
  refine t_seq ?_
  refine t_region ?_
  refine r_op (o_lit0 0 (e := 9) (sz := 1) (zs := [.string (mkS ([]))]) encS rfl rfl (by kernel_rfl) rfl) ?_
  refine r_op (o_assign rfl rfl) ?_
  refine r_end ?_
  refine t_seq ?_
  refine t_seq ?_
  refine t_region ?_
  refine r_op (o_move rfl rfl) ?_
  refine r_op (o_len rfl rfl rfl) ?_
  refine r_op (o_move rfl rfl) ?_
  refine r_end ?_
  refine t_block ?_
  refine t_loopL (fun m => ⟨[(0, some (.c (.t none (.sl 3 (enS3 encS encI encB) (rs))))), (4, some (.c (.t none (.v (.string (mkS (([] : List UInt8)))))))), (5, some (.c (.own 0))), (9, some (.c (.t none (.sl 2 (enS2 encI (enSl 1 encI)) (l))))), (10, some (.c (.t none (.v (.int .i64 (((l).length : Int))))))), (11, some (.c (.t none (.v (.int .i64 ((m : Int)))))))], [(0, some (.row none 9 true 1 encS ((l.take m).map (fmtA rs))))], 1⟩ : Nat → St) (fun m => m ≤ l.length) (fun m => l.length - m) 0 ⟨⟨rfl, ⟨rfl, ⟨rfl, ⟨rfl, ⟨rfl, ⟨rfl, trivial⟩⟩⟩⟩⟩⟩, ⟨(eqR rfl), trivial⟩, rfl⟩ (by exact Nat.zero_le _) ?_
  rintro m hI ih0
  try dsimp only at hI ih0
  have i1 := hI; have ml := mapT_len (f := fmtA rs) (fun a => fmtA_len a) l m [32]; (try simp only [List.length_cons, List.length_nil] at ml); have mm : ((l.take m).map (fmtA rs)).length ≤ l.length := (by rw [List.length_map, List.length_take]; omega)
  refine t_seq ?_
  refine t_region ?_
  refine r_op (o_bin rfl rfl rfl rfl) ?_
  refine r_end ?_
  refine t_seq ?_
  refine t_cond rfl (fun h1 => ?_) (fun h1 => ?_)
  ·
    have h1' := of_decide_eq_true h1
    refine t_skip ?_
    refine t_seq ?_
    refine t_block ?_
    refine t_seq ?_
    refine t_region ?_
    obtain ⟨z2, hz3, b4⟩ := at_get (xs := l) (n := (m : Int)) (by first | omega | assumption | exact hoa _ (List.mem_of_getElem? (by assumption)) | (have e1 := sz_at (f := (fun (x : Int × (List (Int))) => (x.2).length)) (l := l) (m := m) (by assumption); (try dsimp only at e1); omega) | exact Nat.le_trans (Nat.add_le_add ml (fmtA_len _)) (by omega) | (simp only [List.length_append, List.length_cons, List.length_nil]; omega) | (refine Nat.le_trans (Nat.add_le_add (Nat.le_of_eq (List.length_append ..)) (fmtA_len _)) ?_; simp only [List.length_cons, List.length_nil]; omega) | (rw [List.length_map]; omega) | (simp; omega)) (by first | omega | assumption | exact hoa _ (List.mem_of_getElem? (by assumption)) | (have e1 := sz_at (f := (fun (x : Int × (List (Int))) => (x.2).length)) (l := l) (m := m) (by assumption); (try dsimp only at e1); omega) | exact Nat.le_trans (Nat.add_le_add ml (fmtA_len _)) (by omega) | (simp only [List.length_append, List.length_cons, List.length_nil]; omega) | (refine Nat.le_trans (Nat.add_le_add (Nat.le_of_eq (List.length_append ..)) (fmtA_len _)) ?_; simp only [List.length_cons, List.length_nil]; omega) | (rw [List.length_map]; omega) | (simp; omega))
    refine r_op (o_index rfl (by kernel_rfl) rfl rfl b4 hz3) ?_
    refine r_op (o_loadA rfl (n := 2) (by kernel_rfl) (by kernel_rfl) rfl rfl) ?_
    refine r_op (o_alloc 1 (zs := [.int .i64 (0), .slice none 0 0]) rfl rfl (by kernel_rfl) rfl) ?_
    refine r_op (o_storeb (n := 2) (by kernel_rfl) rfl rfl rfl rfl rfl rfl) ?_
    refine r_end ?_
    refine t_region ?_
    refine r_op (o_move rfl rfl) ?_
    refine r_op (o_move rfl rfl) ?_
    refine r_op (o_loadAb rfl (n := 2) (by kernel_rfl) (by kernel_rfl) rfl rfl rfl) ?_
    refine r_op (o_call 2 2 false (Go.Proofs.enters_of Tryz.func118 (by kernel_rfl) rfl) (c_impl_FormatAtom (rs) (z2.1) (z2.2) (by first | omega | assumption | exact hoa _ (List.mem_of_getElem? (by assumption)) | (have e1 := sz_at (f := (fun (x : Int × (List (Int))) => (x.2).length)) (l := l) (m := m) (by assumption); (try dsimp only at e1); omega) | exact Nat.le_trans (Nat.add_le_add ml (fmtA_len _)) (by omega) | (simp only [List.length_append, List.length_cons, List.length_nil]; omega) | (refine Nat.le_trans (Nat.add_le_add (Nat.le_of_eq (List.length_append ..)) (fmtA_len _)) ?_; simp only [List.length_cons, List.length_nil]; omega) | (rw [List.length_map]; omega) | (simp; omega)) (by first | omega | assumption | exact hoa _ (List.mem_of_getElem? (by assumption)) | (have e1 := sz_at (f := (fun (x : Int × (List (Int))) => (x.2).length)) (l := l) (m := m) (by assumption); (try dsimp only at e1); omega) | exact Nat.le_trans (Nat.add_le_add ml (fmtA_len _)) (by omega) | (simp only [List.length_append, List.length_cons, List.length_nil]; omega) | (refine Nat.le_trans (Nat.add_le_add (Nat.le_of_eq (List.length_append ..)) (fmtA_len _)) ?_; simp only [List.length_cons, List.length_nil]; omega) | (rw [List.length_map]; omega) | (simp; omega)) (by first | omega | assumption | exact hoa _ (List.mem_of_getElem? (by assumption)) | (have e1 := sz_at (f := (fun (x : Int × (List (Int))) => (x.2).length)) (l := l) (m := m) (by assumption); (try dsimp only at e1); omega) | exact Nat.le_trans (Nat.add_le_add ml (fmtA_len _)) (by omega) | (simp only [List.length_append, List.length_cons, List.length_nil]; omega) | (refine Nat.le_trans (Nat.add_le_add (Nat.le_of_eq (List.length_append ..)) (fmtA_len _)) ?_; simp only [List.length_cons, List.length_nil]; omega) | (rw [List.length_map]; omega) | (simp; omega))) rfl (.cons rfl (.c .t0) (.cons rfl (.agg (.cons .t0 (.cons .t0 .nil))) .nil)) rfl rfl rfl) ?_
    refine r_op (o_litS 2 (e := 9) (sz := 1) (zs := [.string (mkS ([]))]) rfl rfl (by kernel_rfl) rfl rfl rfl rfl rfl) ?_
    refine r_op (o_append 0 (e := 9) (sz := 1) (by' := 16) (fmtA (rs) ((z2.1), (z2.2))) rfl (by kernel_rfl) rfl rfl rfl rfl rfl rfl (.cons .sc .nil) rfl (by first | omega | assumption | exact hoa _ (List.mem_of_getElem? (by assumption)) | (have e1 := sz_at (f := (fun (x : Int × (List (Int))) => (x.2).length)) (l := l) (m := m) (by assumption); (try dsimp only at e1); omega) | exact Nat.le_trans (Nat.add_le_add ml (fmtA_len _)) (by omega) | (simp only [List.length_append, List.length_cons, List.length_nil]; omega) | (refine Nat.le_trans (Nat.add_le_add (Nat.le_of_eq (List.length_append ..)) (fmtA_len _)) ?_; simp only [List.length_cons, List.length_nil]; omega) | (rw [List.length_map]; omega) | (simp; omega)) (by first | omega | assumption | exact hoa _ (List.mem_of_getElem? (by assumption)) | (have e1 := sz_at (f := (fun (x : Int × (List (Int))) => (x.2).length)) (l := l) (m := m) (by assumption); (try dsimp only at e1); omega) | exact Nat.le_trans (Nat.add_le_add ml (fmtA_len _)) (by omega) | (simp only [List.length_append, List.length_cons, List.length_nil]; omega) | (refine Nat.le_trans (Nat.add_le_add (Nat.le_of_eq (List.length_append ..)) (fmtA_len _)) ?_; simp only [List.length_cons, List.length_nil]; omega) | (rw [List.length_map]; omega) | (simp; omega))) ?_
    refine r_op (o_assign rfl rfl) ?_
    refine r_end ?_
    refine t_endblock ?_
    refine t_region ?_
    refine r_op (o_bin rfl rfl rfl rfl) ?_
    refine r_op (o_move rfl rfl) ?_
    refine r_end ?_
    refine t_le ?_ (ih0 (m + 1) (by (try dsimp only); omega) (by (try dsimp only); omega))
    exact ⟨⟨rfl, ⟨rfl, ⟨rfl, ⟨rfl, ⟨rfl, ⟨(eqI (wr64 (by omega) (by omega))), trivial⟩⟩⟩⟩⟩⟩, ⟨(eqR (mapT_step hz3)), trivial⟩, rfl⟩
  ·
    have h1' := of_decide_eq_false h1
    refine t_exit rfl ?_
    refine t_seq ?_
    refine t_region ?_
    refine r_op (o_move rfl rfl) ?_
    refine r_op (o_call 1 1 false (Go.Proofs.enters_of Tryz.func40 (by kernel_rfl) rfl) (c_strings_Join ((l.take m).map (fmtA rs)) (([32] : List UInt8)) (by first | omega | assumption | exact hoa _ (List.mem_of_getElem? (by assumption)) | (have e1 := sz_at (f := (fun (x : Int × (List (Int))) => (x.2).length)) (l := l) (m := m) (by assumption); (try dsimp only at e1); omega) | exact Nat.le_trans (Nat.add_le_add ml (fmtA_len _)) (by omega) | (simp only [List.length_append, List.length_cons, List.length_nil]; omega) | (refine Nat.le_trans (Nat.add_le_add (Nat.le_of_eq (List.length_append ..)) (fmtA_len _)) ?_; simp only [List.length_cons, List.length_nil]; omega) | (rw [List.length_map]; omega) | (simp; omega)) (by first | omega | assumption | exact hoa _ (List.mem_of_getElem? (by assumption)) | (have e1 := sz_at (f := (fun (x : Int × (List (Int))) => (x.2).length)) (l := l) (m := m) (by assumption); (try dsimp only at e1); omega) | exact Nat.le_trans (Nat.add_le_add ml (fmtA_len _)) (by omega) | (simp only [List.length_append, List.length_cons, List.length_nil]; omega) | (refine Nat.le_trans (Nat.add_le_add (Nat.le_of_eq (List.length_append ..)) (fmtA_len _)) ?_; simp only [List.length_cons, List.length_nil]; omega) | (rw [List.length_map]; omega) | (simp; omega))) rfl (.cons rfl (.c (.own rfl)) (.cons rfl (.c .t0) .nil)) rfl rfl rfl) ?_
    refine r_op (o_assign rfl rfl) ?_
    refine r_end ?_
    refine t_ret Tryz.func73 (.tmp rfl .nil) rfl fun E S w u hI hd => ?_
    refine post_mk hI hd ?_ trivial rfl rfl rfl <;> clear hI hd <;> (try clear ih0)
    all_goals first | rfl | (refine scS ?_; exact fmtAs_end (by omega))
set_option maxHeartbeats 1000000 in
set_option maxRecDepth 10000 in
theorem c_impl_FormatDependency (rs : Rels) (a0 : List (Int × (List (Int)))) (a1 : List (Int × (List (Int)))) (a2 : Bool) (a3 : Int) (a4 : Int) (hrs : rs.length ≤ 4611686018427387904) (hs : szS (fun (x : Int × (List (Int))) => (x.2).length) a0 + szS (fun (x : Int × (List (Int))) => (x.2).length) a1 ≤ 1048576) (hoa : ∀ z ∈ a0, ∀ x ∈ z.2, okI x) (hob : ∀ z ∈ a1, ∀ x ∈ z.2, okI x) (h3 : okI a3) (h4 : okI a4) : Pu Tryz.prog 39 [.c (.t none (.sl 3 (enS3 encS encI encB) (rs))), .agg [.t none (.sl 2 (enS2 encI (enSl 1 encI)) (a0)), .t none (.sl 2 (enS2 encI (enSl 1 encI)) (a1)), .t none (.v (.bool (a2))), .t none (.v (.int .i64 (a3))), .t none (.v (.int .i64 (a4)))]] [] 0 (.c (.t none (.v (.string (mkS (fmtD rs (a0, a1, a2, a3, a4))))))) := by
  refine pu_enter Tryz.func39 rfl (Nat.le_of_ble_eq_true rfl) fun w S => ?_
  have g0 := sz_len (f := (fun (x : Int × (List (Int))) => (x.2).length)) (l := a0); have g1 := sz_len (f := (fun (x : Int × (List (Int))) => (x.2).length)) (l := a1); have v0 := setI_len (varsL a0); have v1 := varsL_size a0; have k0 := fmtAs_len rs a0; have k1 := fmtAs_len rs a1; have k3 := fmtT_len a3; have k4 := fmtT_len a4
  refine t_seq ?_
  refine t_region ?_
  refine r_op (o_box 0 rfl rfl rfl rfl) ?_
  refine r_op (o_assign rfl rfl) ?_
  refine r_end ?_
  refine t_seq ?_
  refine t_region ?_
  refine r_op (o_loadAb rfl (n := 5) (by kernel_rfl) (by kernel_rfl) rfl rfl rfl) ?_
  refine r_op (o_alloc 1 (zs := [.slice none 0 0, .slice none 0 0, .bool (false), .int .i64 (0), .int .i64 (0)]) rfl rfl (by kernel_rfl) rfl) ?_
  refine r_op (o_storeb (n := 5) (by kernel_rfl) rfl rfl rfl rfl rfl rfl) ?_
  refine r_end ?_
  refine t_seq ?_
  refine t_block ?_
  refine t_seq ?_
  refine t_region ?_
  refine r_op (o_move rfl rfl) ?_
  refine r_op (o_loadAb rfl (n := 5) (by kernel_rfl) (by kernel_rfl) rfl rfl rfl) ?_
  refine r_op (o_call 2 2 false (Go.Proofs.enters_of Tryz.func65 (by kernel_rfl) rfl) (c_impl_IsValidDependency (rs) (a0) (a1) (a2) (a3) (a4) (by first | omega | assumption | (simp only [List.length_append, List.length_cons, List.length_nil]; omega)) (by first | omega | assumption | (simp only [List.length_append, List.length_cons, List.length_nil]; omega))) rfl (.cons rfl (.c .t0) (.cons rfl (.agg (.cons .t0 (.cons .t0 (.cons .t0 (.cons .t0 (.cons .t0 .nil)))))) .nil)) rfl rfl rfl) ?_
  refine r_op (o_not rfl rfl) ?_
  refine r_op (o_assign rfl rfl) ?_
  refine r_end ?_
  refine t_cond rfl (fun h1 => ?_) (fun h1 => ?_)
  ·
    have h1' := (bnt h1)
    refine t_seq ?_
    refine t_region ?_
    refine r_op (o_assign rfl rfl) ?_
    refine r_end ?_
    refine t_ret Tryz.func39 (.tmp rfl .nil) rfl fun E S w u hI hd => ?_
    refine post_mk hI hd ?_ trivial rfl rfl rfl <;> clear hI hd
    all_goals first | rfl | (refine scS ?_; first | exact fmtD_no (by assumption) | exact fmtD_egd (by assumption) (by assumption) | exact fmtD_tgd (by assumption) (by assumption))
  ·
    have h1' := (bnf h1)
    refine t_seq ?_
    refine t_region ?_
    refine r_op (o_fieldb rfl (off := 2) (by kernel_rfl) rfl) ?_
    refine r_op (o_load1b rfl (by kernel_rfl) rfl rfl rfl) ?_
    refine r_op (o_assign rfl rfl) ?_
    refine r_end ?_
    refine t_cond rfl (fun h2 => ?_) (fun h2 => ?_)
    ·
      have h2' := h2
      refine t_seq ?_
      refine t_draw (fun _ => true) (by kernel_rfl) ?_
      refine d_take 0 rfl rfl (by kernel_rfl) (by kernel_rfl) (by kernel_rfl) (p_move rfl) ?_
      refine d_take 1 rfl rfl (by kernel_rfl) (by kernel_rfl) (by kernel_rfl) (p_fieldb (off := 0) (by kernel_rfl) rfl) ?_
      refine d_take 2 rfl rfl (by kernel_rfl) (by kernel_rfl) (by kernel_rfl) (p_load1b (by kernel_rfl) rfl rfl rfl) ?_
      refine d_take 5 rfl rfl (by kernel_rfl) (by kernel_rfl) (by kernel_rfl) (p_fieldb (off := 3) (by kernel_rfl) rfl) ?_
      refine d_take 6 rfl rfl (by kernel_rfl) (by kernel_rfl) (by kernel_rfl) (p_load1b (by kernel_rfl) rfl rfl rfl) ?_
      refine d_take 9 rfl rfl (by kernel_rfl) (by kernel_rfl) (by kernel_rfl) (p_fieldb (off := 4) (by kernel_rfl) rfl) ?_
      refine d_take 10 rfl rfl (by kernel_rfl) (by kernel_rfl) (by kernel_rfl) (p_load1b (by kernel_rfl) rfl rfl rfl) ?_
      refine d_only 3 rfl (by kernel_rfl) rfl (o_call 2 2 false (Go.Proofs.enters_of Tryz.func73 (by kernel_rfl) rfl) (c_impl_formatAtoms (rs) (a0) (by first | omega | assumption | (simp only [List.length_append, List.length_cons, List.length_nil]; omega)) (by first | omega | assumption | (simp only [List.length_append, List.length_cons, List.length_nil]; omega)) (by first | omega | assumption | (simp only [List.length_append, List.length_cons, List.length_nil]; omega))) rfl (.cons rfl (.c .t0) (.cons rfl (.c .t0) .nil)) rfl rfl rfl) ?_
      refine d_take 4 rfl rfl (by kernel_rfl) (by kernel_rfl) (by kernel_rfl) (p_cat rfl rfl (by first | omega | assumption | (simp only [List.length_append, List.length_cons, List.length_nil]; omega))) ?_
      refine d_only 7 rfl (by kernel_rfl) rfl (o_call 2 2 false (Go.Proofs.enters_of Tryz.func74 (by kernel_rfl) rfl) (c_impl_FormatTerm (a3) (by first | omega | assumption | (simp only [List.length_append, List.length_cons, List.length_nil]; omega))) rfl (.cons rfl (.c .t0) .nil) rfl rfl rfl) ?_
      refine d_take 8 rfl rfl (by kernel_rfl) (by kernel_rfl) (by kernel_rfl) (p_cat rfl rfl (by first | omega | assumption | (simp only [List.length_append, List.length_cons, List.length_nil]; omega))) ?_
      refine d_only 11 rfl (by kernel_rfl) rfl (o_call 2 2 false (Go.Proofs.enters_of Tryz.func74 (by kernel_rfl) rfl) (c_impl_FormatTerm (a4) (by first | omega | assumption | (simp only [List.length_append, List.length_cons, List.length_nil]; omega))) rfl (.cons rfl (.c .t0) .nil) rfl rfl rfl) ?_
      refine d_take 12 rfl rfl (by kernel_rfl) (by kernel_rfl) (by kernel_rfl) (p_cat rfl rfl (by first | omega | assumption | (simp only [List.length_append, List.length_cons, List.length_nil]; omega))) ?_
      refine d_take 13 rfl rfl (by kernel_rfl) (by kernel_rfl) (by kernel_rfl) (p_assign rfl) ?_
      refine d_end (by kernel_rfl) ?_
      refine t_ret Tryz.func39 (.tmp rfl .nil) rfl fun E S w u hI hd => ?_
      refine post_mk hI hd ?_ trivial rfl rfl rfl <;> clear hI hd
      all_goals first | rfl | (refine scS ?_; first | exact fmtD_no (by assumption) | exact fmtD_egd (by assumption) (by assumption) | exact fmtD_tgd (by assumption) (by assumption))
    ·
      have h2' := h2
      refine t_skip ?_
      refine t_endblock ?_
      refine t_seq ?_
      refine t_draw (fun _ => true) (by kernel_rfl) ?_
      refine d_take 0 rfl rfl (by kernel_rfl) (by kernel_rfl) (by kernel_rfl) (p_move rfl) ?_
      refine d_take 1 rfl rfl (by kernel_rfl) (by kernel_rfl) (by kernel_rfl) (p_fieldb (off := 0) (by kernel_rfl) rfl) ?_
      refine d_take 2 rfl rfl (by kernel_rfl) (by kernel_rfl) (by kernel_rfl) (p_load1b (by kernel_rfl) rfl rfl rfl) ?_
      refine d_take 5 rfl rfl (by kernel_rfl) (by kernel_rfl) (by kernel_rfl) (p_move rfl) ?_
      refine d_take 6 rfl rfl (by kernel_rfl) (by kernel_rfl) (by kernel_rfl) (p_fieldb (off := 1) (by kernel_rfl) rfl) ?_
      refine d_take 7 rfl rfl (by kernel_rfl) (by kernel_rfl) (by kernel_rfl) (p_load1b (by kernel_rfl) rfl rfl rfl) ?_
      refine d_only 3 rfl (by kernel_rfl) rfl (o_call 2 2 false (Go.Proofs.enters_of Tryz.func73 (by kernel_rfl) rfl) (c_impl_formatAtoms (rs) (a0) (by first | omega | assumption | (simp only [List.length_append, List.length_cons, List.length_nil]; omega)) (by first | omega | assumption | (simp only [List.length_append, List.length_cons, List.length_nil]; omega)) (by first | omega | assumption | (simp only [List.length_append, List.length_cons, List.length_nil]; omega))) rfl (.cons rfl (.c .t0) (.cons rfl (.c .t0) .nil)) rfl rfl rfl) ?_
      refine d_take 4 rfl rfl (by kernel_rfl) (by kernel_rfl) (by kernel_rfl) (p_cat rfl rfl (by first | omega | assumption | (simp only [List.length_append, List.length_cons, List.length_nil]; omega))) ?_
      refine d_only 8 rfl (by kernel_rfl) rfl (o_call 2 2 false (Go.Proofs.enters_of Tryz.func73 (by kernel_rfl) rfl) (c_impl_formatAtoms (rs) (a1) (by first | omega | assumption | (simp only [List.length_append, List.length_cons, List.length_nil]; omega)) (by first | omega | assumption | (simp only [List.length_append, List.length_cons, List.length_nil]; omega)) (by first | omega | assumption | (simp only [List.length_append, List.length_cons, List.length_nil]; omega))) rfl (.cons rfl (.c .t0) (.cons rfl (.c .t0) .nil)) rfl rfl rfl) ?_
      refine d_take 9 rfl rfl (by kernel_rfl) (by kernel_rfl) (by kernel_rfl) (p_cat rfl rfl (by first | omega | assumption | (simp only [List.length_append, List.length_cons, List.length_nil]; omega))) ?_
      refine d_take 10 rfl rfl (by kernel_rfl) (by kernel_rfl) (by kernel_rfl) (p_assign rfl) ?_
      refine d_end (by kernel_rfl) ?_
      refine t_ret Tryz.func39 (.tmp rfl .nil) rfl fun E S w u hI hd => ?_
      refine post_mk hI hd ?_ trivial rfl rfl rfl <;> clear hI hd
      all_goals first | rfl | (refine scS ?_; first | exact fmtD_no (by assumption) | exact fmtD_egd (by assumption) (by assumption) | exact fmtD_tgd (by assumption) (by assumption))
set_option maxHeartbeats 1000000 in
set_option maxRecDepth 10000 in
theorem c_impl_FormatDependencies (rs : Rels) (ds : List Dep) (hrs : rs.length ≤ 4611686018427387904) (hs : szS (fun (x : (List (Int × (List (Int)))) × (List (Int × (List (Int)))) × Bool × Int × Int) => (szS (fun (x : Int × (List (Int))) => (x.2).length) (x.1)) + (szS (fun (x : Int × (List (Int))) => (x.2).length) (x.2.1))) ds ≤ 1048576) (hod : ∀ d ∈ ds, (∀ z ∈ d.1, ∀ x ∈ z.2, okI x) ∧ (∀ z ∈ d.2.1, ∀ x ∈ z.2, okI x) ∧ okI d.2.2.2.1 ∧ okI d.2.2.2.2) : Pu Tryz.prog 13 [.c (.t none (.sl 3 (enS3 encS encI encB) (rs))), .c (.t none (.sl 5 (enS5 (enSl 2 (enS2 encI (enSl 1 encI))) (enSl 2 (enS2 encI (enSl 1 encI))) encB encI encI) (ds)))] [] 0 (.c (.t none (.v (.string (mkS (fmtDs rs ds)))))) := by
  refine pu_enter Tryz.func13 rfl (Nat.le_of_ble_eq_true rfl) fun w S => ?_
  have gl := sz_len (f := (fun (x : (List (Int × (List (Int)))) × (List (Int × (List (Int)))) × Bool × Int × Int) => (szS (fun (x : Int × (List (Int))) => (x.2).length) (x.1)) + (szS (fun (x : Int × (List (Int))) => (x.2).length) (x.2.1)))) (l := ds)
  refine t_seq ?_
  refine t_region ?_
  refine r_op (o_assign rfl rfl) ?_
  refine r_end ?_
  refine t_seq ?_
  refine t_seq ?_
  refine t_region ?_
  refine r_op (o_move rfl rfl) ?_
  refine r_op (o_move rfl rfl) ?_
  refine r_op (o_call 0 0 false (Go.Proofs.enters_of Tryz.func31 (by kernel_rfl) rfl) (c_impl_AreValidDependencies (rs) (ds) (by first | omega | assumption | (have e1 := sz_at (f := (fun (x : (List (Int × (List (Int)))) × (List (Int × (List (Int)))) × Bool × Int × Int) => (szS (fun (x : Int × (List (Int))) => (x.2).length) (x.1)) + (szS (fun (x : Int × (List (Int))) => (x.2).length) (x.2.1)))) (l := ds) (m := m) (by assumption); (try dsimp only at e1); omega) | exact (hod _ (List.mem_of_getElem? (by assumption))).1 | exact (hod _ (List.mem_of_getElem? (by assumption))).2.1 | exact (hod _ (List.mem_of_getElem? (by assumption))).2.2.1 | exact (hod _ (List.mem_of_getElem? (by assumption))).2.2.2 | (refine Nat.le_trans (Nat.add_le_add ml (fmtD_len _)) ?_; omega) | (simp only [List.length_append, List.length_cons, List.length_nil]; omega) | (refine Nat.le_trans (Nat.add_le_add (Nat.le_of_eq (List.length_append ..)) (fmtD_len _)) ?_; simp only [List.length_cons, List.length_nil]; omega) | (rw [List.length_map]; omega) | (simp; omega)) (by first | omega | assumption | (have e1 := sz_at (f := (fun (x : (List (Int × (List (Int)))) × (List (Int × (List (Int)))) × Bool × Int × Int) => (szS (fun (x : Int × (List (Int))) => (x.2).length) (x.1)) + (szS (fun (x : Int × (List (Int))) => (x.2).length) (x.2.1)))) (l := ds) (m := m) (by assumption); (try dsimp only at e1); omega) | exact (hod _ (List.mem_of_getElem? (by assumption))).1 | exact (hod _ (List.mem_of_getElem? (by assumption))).2.1 | exact (hod _ (List.mem_of_getElem? (by assumption))).2.2.1 | exact (hod _ (List.mem_of_getElem? (by assumption))).2.2.2 | (refine Nat.le_trans (Nat.add_le_add ml (fmtD_len _)) ?_; omega) | (simp only [List.length_append, List.length_cons, List.length_nil]; omega) | (refine Nat.le_trans (Nat.add_le_add (Nat.le_of_eq (List.length_append ..)) (fmtD_len _)) ?_; simp only [List.length_cons, List.length_nil]; omega) | (rw [List.length_map]; omega) | (simp; omega))) rfl (.cons rfl (.c .t0) (.cons rfl (.c .t0) .nil)) rfl rfl rfl) ?_
  refine r_op (o_not rfl rfl) ?_
  refine r_end ?_
  refine t_cond rfl (fun h1 => ?_) (fun h1 => ?_)
  ·
    have h1' := (bnt h1)
    refine t_seq ?_
    refine t_region ?_
    refine r_op (o_assign rfl rfl) ?_
    refine r_end ?_
    refine t_ret Tryz.func13 (.tmp rfl .nil) rfl fun E S w u hI hd => ?_
    refine post_mk hI hd ?_ trivial rfl rfl rfl <;> clear hI hd <;> (try clear ih0)
    all_goals first | rfl | (refine scS ?_; first | exact fmtDs_no (by assumption) | exact fmtDs_yes (by assumption) (by omega))
  ·
    have h1' := (bnf h1)
    refine t_skip ?_
    refine t_seq ?_
    refine t_region ?_
    refine r_op (o_lit0 0 (e := 9) (sz := 1) (zs := [.string (mkS ([]))]) encS rfl rfl (by kernel_rfl) rfl) ?_
    refine r_op (o_assign rfl rfl) ?_
    refine r_end ?_
    refine t_seq ?_
    refine t_seq ?_
    refine t_region ?_
    refine r_op (o_move rfl rfl) ?_
    refine r_op (o_len rfl rfl rfl) ?_
    refine r_op (o_move rfl rfl) ?_
    refine r_end ?_
    refine t_block ?_
    refine t_loopL (fun m => ⟨[(0, some (.c (.t none (.sl 3 (enS3 encS encI encB) (rs))))), (4, some (.c (.t none (.v (.string (mkS (([] : List UInt8)))))))), (5, some (.c (.own 0))), (13, some (.c (.t none (.sl 5 (enS5 (enSl 2 (enS2 encI (enSl 1 encI))) (enSl 2 (enS2 encI (enSl 1 encI))) encB encI encI) (ds))))), (14, some (.c (.t none (.v (.int .i64 (((ds).length : Int))))))), (15, some (.c (.t none (.v (.int .i64 ((m : Int)))))))], [(0, some (.row none 9 true 1 encS ((ds.take m).map (fmtD rs))))], 1⟩ : Nat → St) (fun m => m ≤ ds.length) (fun m => ds.length - m) 0 ⟨⟨rfl, ⟨rfl, ⟨rfl, ⟨rfl, ⟨rfl, ⟨rfl, trivial⟩⟩⟩⟩⟩⟩, ⟨(eqR rfl), trivial⟩, rfl⟩ (by exact Nat.zero_le _) ?_
    rintro m hI ih0
    try dsimp only at hI ih0
    have i1 := hI; have ml := mapT_len (f := fmtD rs) (fun a => fmtD_len a) ds m [59]; (try simp only [List.length_cons, List.length_nil] at ml); have mm : ((ds.take m).map (fmtD rs)).length ≤ ds.length := (by rw [List.length_map, List.length_take]; omega)
    refine t_seq ?_
    refine t_region ?_
    refine r_op (o_bin rfl rfl rfl rfl) ?_
    refine r_end ?_
    refine t_seq ?_
    refine t_cond rfl (fun h2 => ?_) (fun h2 => ?_)
    ·
      have h2' := of_decide_eq_true h2
      refine t_skip ?_
      refine t_seq ?_
      refine t_block ?_
      refine t_seq ?_
      refine t_region ?_
      obtain ⟨z3, hz4, b5⟩ := at_get (xs := ds) (n := (m : Int)) (by first | omega | assumption | (have e1 := sz_at (f := (fun (x : (List (Int × (List (Int)))) × (List (Int × (List (Int)))) × Bool × Int × Int) => (szS (fun (x : Int × (List (Int))) => (x.2).length) (x.1)) + (szS (fun (x : Int × (List (Int))) => (x.2).length) (x.2.1)))) (l := ds) (m := m) (by assumption); (try dsimp only at e1); omega) | exact (hod _ (List.mem_of_getElem? (by assumption))).1 | exact (hod _ (List.mem_of_getElem? (by assumption))).2.1 | exact (hod _ (List.mem_of_getElem? (by assumption))).2.2.1 | exact (hod _ (List.mem_of_getElem? (by assumption))).2.2.2 | (refine Nat.le_trans (Nat.add_le_add ml (fmtD_len _)) ?_; omega) | (simp only [List.length_append, List.length_cons, List.length_nil]; omega) | (refine Nat.le_trans (Nat.add_le_add (Nat.le_of_eq (List.length_append ..)) (fmtD_len _)) ?_; simp only [List.length_cons, List.length_nil]; omega) | (rw [List.length_map]; omega) | (simp; omega)) (by first | omega | assumption | (have e1 := sz_at (f := (fun (x : (List (Int × (List (Int)))) × (List (Int × (List (Int)))) × Bool × Int × Int) => (szS (fun (x : Int × (List (Int))) => (x.2).length) (x.1)) + (szS (fun (x : Int × (List (Int))) => (x.2).length) (x.2.1)))) (l := ds) (m := m) (by assumption); (try dsimp only at e1); omega) | exact (hod _ (List.mem_of_getElem? (by assumption))).1 | exact (hod _ (List.mem_of_getElem? (by assumption))).2.1 | exact (hod _ (List.mem_of_getElem? (by assumption))).2.2.1 | exact (hod _ (List.mem_of_getElem? (by assumption))).2.2.2 | (refine Nat.le_trans (Nat.add_le_add ml (fmtD_len _)) ?_; omega) | (simp only [List.length_append, List.length_cons, List.length_nil]; omega) | (refine Nat.le_trans (Nat.add_le_add (Nat.le_of_eq (List.length_append ..)) (fmtD_len _)) ?_; simp only [List.length_cons, List.length_nil]; omega) | (rw [List.length_map]; omega) | (simp; omega))
      refine r_op (o_index rfl (by kernel_rfl) rfl rfl b5 hz4) ?_
      refine r_op (o_loadA rfl (n := 5) (by kernel_rfl) (by kernel_rfl) rfl rfl) ?_
      refine r_op (o_alloc 1 (zs := [.slice none 0 0, .slice none 0 0, .bool (false), .int .i64 (0), .int .i64 (0)]) rfl rfl (by kernel_rfl) rfl) ?_
      refine r_op (o_storeb (n := 5) (by kernel_rfl) rfl rfl rfl rfl rfl rfl) ?_
      refine r_end ?_
      refine t_region ?_
      refine r_op (o_move rfl rfl) ?_
      refine r_op (o_move rfl rfl) ?_
      refine r_op (o_loadAb rfl (n := 5) (by kernel_rfl) (by kernel_rfl) rfl rfl rfl) ?_
      refine r_op (o_call 2 2 false (Go.Proofs.enters_of Tryz.func39 (by kernel_rfl) rfl) (c_impl_FormatDependency (rs) (z3.1) (z3.2.1) (z3.2.2.1) (z3.2.2.2.1) (z3.2.2.2.2) (by first | omega | assumption | (have e1 := sz_at (f := (fun (x : (List (Int × (List (Int)))) × (List (Int × (List (Int)))) × Bool × Int × Int) => (szS (fun (x : Int × (List (Int))) => (x.2).length) (x.1)) + (szS (fun (x : Int × (List (Int))) => (x.2).length) (x.2.1)))) (l := ds) (m := m) (by assumption); (try dsimp only at e1); omega) | exact (hod _ (List.mem_of_getElem? (by assumption))).1 | exact (hod _ (List.mem_of_getElem? (by assumption))).2.1 | exact (hod _ (List.mem_of_getElem? (by assumption))).2.2.1 | exact (hod _ (List.mem_of_getElem? (by assumption))).2.2.2 | (refine Nat.le_trans (Nat.add_le_add ml (fmtD_len _)) ?_; omega) | (simp only [List.length_append, List.length_cons, List.length_nil]; omega) | (refine Nat.le_trans (Nat.add_le_add (Nat.le_of_eq (List.length_append ..)) (fmtD_len _)) ?_; simp only [List.length_cons, List.length_nil]; omega) | (rw [List.length_map]; omega) | (simp; omega)) (by first | omega | assumption | (have e1 := sz_at (f := (fun (x : (List (Int × (List (Int)))) × (List (Int × (List (Int)))) × Bool × Int × Int) => (szS (fun (x : Int × (List (Int))) => (x.2).length) (x.1)) + (szS (fun (x : Int × (List (Int))) => (x.2).length) (x.2.1)))) (l := ds) (m := m) (by assumption); (try dsimp only at e1); omega) | exact (hod _ (List.mem_of_getElem? (by assumption))).1 | exact (hod _ (List.mem_of_getElem? (by assumption))).2.1 | exact (hod _ (List.mem_of_getElem? (by assumption))).2.2.1 | exact (hod _ (List.mem_of_getElem? (by assumption))).2.2.2 | (refine Nat.le_trans (Nat.add_le_add ml (fmtD_len _)) ?_; omega) | (simp only [List.length_append, List.length_cons, List.length_nil]; omega) | (refine Nat.le_trans (Nat.add_le_add (Nat.le_of_eq (List.length_append ..)) (fmtD_len _)) ?_; simp only [List.length_cons, List.length_nil]; omega) | (rw [List.length_map]; omega) | (simp; omega)) (by first | omega | assumption | (have e1 := sz_at (f := (fun (x : (List (Int × (List (Int)))) × (List (Int × (List (Int)))) × Bool × Int × Int) => (szS (fun (x : Int × (List (Int))) => (x.2).length) (x.1)) + (szS (fun (x : Int × (List (Int))) => (x.2).length) (x.2.1)))) (l := ds) (m := m) (by assumption); (try dsimp only at e1); omega) | exact (hod _ (List.mem_of_getElem? (by assumption))).1 | exact (hod _ (List.mem_of_getElem? (by assumption))).2.1 | exact (hod _ (List.mem_of_getElem? (by assumption))).2.2.1 | exact (hod _ (List.mem_of_getElem? (by assumption))).2.2.2 | (refine Nat.le_trans (Nat.add_le_add ml (fmtD_len _)) ?_; omega) | (simp only [List.length_append, List.length_cons, List.length_nil]; omega) | (refine Nat.le_trans (Nat.add_le_add (Nat.le_of_eq (List.length_append ..)) (fmtD_len _)) ?_; simp only [List.length_cons, List.length_nil]; omega) | (rw [List.length_map]; omega) | (simp; omega)) (by first | omega | assumption | (have e1 := sz_at (f := (fun (x : (List (Int × (List (Int)))) × (List (Int × (List (Int)))) × Bool × Int × Int) => (szS (fun (x : Int × (List (Int))) => (x.2).length) (x.1)) + (szS (fun (x : Int × (List (Int))) => (x.2).length) (x.2.1)))) (l := ds) (m := m) (by assumption); (try dsimp only at e1); omega) | exact (hod _ (List.mem_of_getElem? (by assumption))).1 | exact (hod _ (List.mem_of_getElem? (by assumption))).2.1 | exact (hod _ (List.mem_of_getElem? (by assumption))).2.2.1 | exact (hod _ (List.mem_of_getElem? (by assumption))).2.2.2 | (refine Nat.le_trans (Nat.add_le_add ml (fmtD_len _)) ?_; omega) | (simp only [List.length_append, List.length_cons, List.length_nil]; omega) | (refine Nat.le_trans (Nat.add_le_add (Nat.le_of_eq (List.length_append ..)) (fmtD_len _)) ?_; simp only [List.length_cons, List.length_nil]; omega) | (rw [List.length_map]; omega) | (simp; omega)) (by first | omega | assumption | (have e1 := sz_at (f := (fun (x : (List (Int × (List (Int)))) × (List (Int × (List (Int)))) × Bool × Int × Int) => (szS (fun (x : Int × (List (Int))) => (x.2).length) (x.1)) + (szS (fun (x : Int × (List (Int))) => (x.2).length) (x.2.1)))) (l := ds) (m := m) (by assumption); (try dsimp only at e1); omega) | exact (hod _ (List.mem_of_getElem? (by assumption))).1 | exact (hod _ (List.mem_of_getElem? (by assumption))).2.1 | exact (hod _ (List.mem_of_getElem? (by assumption))).2.2.1 | exact (hod _ (List.mem_of_getElem? (by assumption))).2.2.2 | (refine Nat.le_trans (Nat.add_le_add ml (fmtD_len _)) ?_; omega) | (simp only [List.length_append, List.length_cons, List.length_nil]; omega) | (refine Nat.le_trans (Nat.add_le_add (Nat.le_of_eq (List.length_append ..)) (fmtD_len _)) ?_; simp only [List.length_cons, List.length_nil]; omega) | (rw [List.length_map]; omega) | (simp; omega)) (by first | omega | assumption | (have e1 := sz_at (f := (fun (x : (List (Int × (List (Int)))) × (List (Int × (List (Int)))) × Bool × Int × Int) => (szS (fun (x : Int × (List (Int))) => (x.2).length) (x.1)) + (szS (fun (x : Int × (List (Int))) => (x.2).length) (x.2.1)))) (l := ds) (m := m) (by assumption); (try dsimp only at e1); omega) | exact (hod _ (List.mem_of_getElem? (by assumption))).1 | exact (hod _ (List.mem_of_getElem? (by assumption))).2.1 | exact (hod _ (List.mem_of_getElem? (by assumption))).2.2.1 | exact (hod _ (List.mem_of_getElem? (by assumption))).2.2.2 | (refine Nat.le_trans (Nat.add_le_add ml (fmtD_len _)) ?_; omega) | (simp only [List.length_append, List.length_cons, List.length_nil]; omega) | (refine Nat.le_trans (Nat.add_le_add (Nat.le_of_eq (List.length_append ..)) (fmtD_len _)) ?_; simp only [List.length_cons, List.length_nil]; omega) | (rw [List.length_map]; omega) | (simp; omega))) rfl (.cons rfl (.c .t0) (.cons rfl (.agg (.cons .t0 (.cons .t0 (.cons .t0 (.cons .t0 (.cons .t0 .nil)))))) .nil)) rfl rfl rfl) ?_
      refine r_op (o_litS 2 (e := 9) (sz := 1) (zs := [.string (mkS ([]))]) rfl rfl (by kernel_rfl) rfl rfl rfl rfl rfl) ?_
      refine r_op (o_append 0 (e := 9) (sz := 1) (by' := 16) (fmtD (rs) ((z3.1), (z3.2.1), (z3.2.2.1), (z3.2.2.2.1), (z3.2.2.2.2))) rfl (by kernel_rfl) rfl rfl rfl rfl rfl rfl (.cons .sc .nil) rfl (by first | omega | assumption | (have e1 := sz_at (f := (fun (x : (List (Int × (List (Int)))) × (List (Int × (List (Int)))) × Bool × Int × Int) => (szS (fun (x : Int × (List (Int))) => (x.2).length) (x.1)) + (szS (fun (x : Int × (List (Int))) => (x.2).length) (x.2.1)))) (l := ds) (m := m) (by assumption); (try dsimp only at e1); omega) | exact (hod _ (List.mem_of_getElem? (by assumption))).1 | exact (hod _ (List.mem_of_getElem? (by assumption))).2.1 | exact (hod _ (List.mem_of_getElem? (by assumption))).2.2.1 | exact (hod _ (List.mem_of_getElem? (by assumption))).2.2.2 | (refine Nat.le_trans (Nat.add_le_add ml (fmtD_len _)) ?_; omega) | (simp only [List.length_append, List.length_cons, List.length_nil]; omega) | (refine Nat.le_trans (Nat.add_le_add (Nat.le_of_eq (List.length_append ..)) (fmtD_len _)) ?_; simp only [List.length_cons, List.length_nil]; omega) | (rw [List.length_map]; omega) | (simp; omega)) (by first | omega | assumption | (have e1 := sz_at (f := (fun (x : (List (Int × (List (Int)))) × (List (Int × (List (Int)))) × Bool × Int × Int) => (szS (fun (x : Int × (List (Int))) => (x.2).length) (x.1)) + (szS (fun (x : Int × (List (Int))) => (x.2).length) (x.2.1)))) (l := ds) (m := m) (by assumption); (try dsimp only at e1); omega) | exact (hod _ (List.mem_of_getElem? (by assumption))).1 | exact (hod _ (List.mem_of_getElem? (by assumption))).2.1 | exact (hod _ (List.mem_of_getElem? (by assumption))).2.2.1 | exact (hod _ (List.mem_of_getElem? (by assumption))).2.2.2 | (refine Nat.le_trans (Nat.add_le_add ml (fmtD_len _)) ?_; omega) | (simp only [List.length_append, List.length_cons, List.length_nil]; omega) | (refine Nat.le_trans (Nat.add_le_add (Nat.le_of_eq (List.length_append ..)) (fmtD_len _)) ?_; simp only [List.length_cons, List.length_nil]; omega) | (rw [List.length_map]; omega) | (simp; omega))) ?_
      refine r_op (o_assign rfl rfl) ?_
      refine r_end ?_
      refine t_endblock ?_
      refine t_region ?_
      refine r_op (o_bin rfl rfl rfl rfl) ?_
      refine r_op (o_move rfl rfl) ?_
      refine r_end ?_
      refine t_le ?_ (ih0 (m + 1) (by (try dsimp only); omega) (by (try dsimp only); omega))
      exact ⟨⟨rfl, ⟨rfl, ⟨rfl, ⟨rfl, ⟨rfl, ⟨(eqI (wr64 (by omega) (by omega))), trivial⟩⟩⟩⟩⟩⟩, ⟨(eqR (mapT_step (m := m) hz4)), trivial⟩, rfl⟩
    ·
      have h2' := of_decide_eq_false h2
      refine t_exit rfl ?_
      refine t_seq ?_
      refine t_region ?_
      refine r_op (o_move rfl rfl) ?_
      refine r_op (o_call 1 1 false (Go.Proofs.enters_of Tryz.func40 (by kernel_rfl) rfl) (c_strings_Join ((ds.take m).map (fmtD rs)) (([59] : List UInt8)) (by first | omega | assumption | (have e1 := sz_at (f := (fun (x : (List (Int × (List (Int)))) × (List (Int × (List (Int)))) × Bool × Int × Int) => (szS (fun (x : Int × (List (Int))) => (x.2).length) (x.1)) + (szS (fun (x : Int × (List (Int))) => (x.2).length) (x.2.1)))) (l := ds) (m := m) (by assumption); (try dsimp only at e1); omega) | exact (hod _ (List.mem_of_getElem? (by assumption))).1 | exact (hod _ (List.mem_of_getElem? (by assumption))).2.1 | exact (hod _ (List.mem_of_getElem? (by assumption))).2.2.1 | exact (hod _ (List.mem_of_getElem? (by assumption))).2.2.2 | (refine Nat.le_trans (Nat.add_le_add ml (fmtD_len _)) ?_; omega) | (simp only [List.length_append, List.length_cons, List.length_nil]; omega) | (refine Nat.le_trans (Nat.add_le_add (Nat.le_of_eq (List.length_append ..)) (fmtD_len _)) ?_; simp only [List.length_cons, List.length_nil]; omega) | (rw [List.length_map]; omega) | (simp; omega)) (by first | omega | assumption | (have e1 := sz_at (f := (fun (x : (List (Int × (List (Int)))) × (List (Int × (List (Int)))) × Bool × Int × Int) => (szS (fun (x : Int × (List (Int))) => (x.2).length) (x.1)) + (szS (fun (x : Int × (List (Int))) => (x.2).length) (x.2.1)))) (l := ds) (m := m) (by assumption); (try dsimp only at e1); omega) | exact (hod _ (List.mem_of_getElem? (by assumption))).1 | exact (hod _ (List.mem_of_getElem? (by assumption))).2.1 | exact (hod _ (List.mem_of_getElem? (by assumption))).2.2.1 | exact (hod _ (List.mem_of_getElem? (by assumption))).2.2.2 | (refine Nat.le_trans (Nat.add_le_add ml (fmtD_len _)) ?_; omega) | (simp only [List.length_append, List.length_cons, List.length_nil]; omega) | (refine Nat.le_trans (Nat.add_le_add (Nat.le_of_eq (List.length_append ..)) (fmtD_len _)) ?_; simp only [List.length_cons, List.length_nil]; omega) | (rw [List.length_map]; omega) | (simp; omega))) rfl (.cons rfl (.c (.own rfl)) (.cons rfl (.c .t0) .nil)) rfl rfl rfl) ?_
      refine r_op (o_assign rfl rfl) ?_
      refine r_end ?_
      refine t_ret Tryz.func13 (.tmp rfl .nil) rfl fun E S w u hI hd => ?_
      refine post_mk hI hd ?_ trivial rfl rfl rfl <;> clear hI hd <;> (try clear ih0)
      all_goals first | rfl | (refine scS ?_; first | exact fmtDs_no (by assumption) | exact fmtDs_yes (by assumption) (by omega))
set_option maxHeartbeats 1000000 in
set_option maxRecDepth 10000 in
theorem c_laws_eqRelation (a0 : List UInt8) (a1 : Int) (a2 : Bool) (b0 : List UInt8) (b1 : Int) (b2 : Bool) (hs : (a0).length ≤ 1048576) : Pu Tryz.prog 41 [.agg [.t none (.v (.string (mkS (a0)))), .t none (.v (.int .i64 (a1))), .t none (.v (.bool (a2)))], .agg [.t none (.v (.string (mkS (b0)))), .t none (.v (.int .i64 (b1))), .t none (.v (.bool (b2)))]] [] 0 (.c (.t none (.v (.bool (decide ((a0, a1, a2) = (b0, b1, b2))))))) := by
  refine pu_enter Tryz.func41 rfl (Nat.le_of_ble_eq_true rfl) fun w S => ?_
  refine t_seq ?_
  refine t_region ?_
  refine r_op (o_box 0 rfl rfl rfl rfl) ?_
  refine r_op (o_box 1 rfl rfl rfl rfl) ?_
  refine r_op (o_assign rfl rfl) ?_
  refine r_end ?_
  refine t_seq ?_
  refine t_seq ?_
  refine t_region ?_
  refine r_op (o_fieldb rfl (off := 0) (by kernel_rfl) rfl) ?_
  refine r_op (o_load1b rfl (by kernel_rfl) rfl rfl rfl) ?_
  refine r_op (o_fieldb rfl (off := 0) (by kernel_rfl) rfl) ?_
  refine r_op (o_load1b rfl (by kernel_rfl) rfl rfl rfl) ?_
  refine r_op (o_str rfl rfl rfl rfl) ?_
  refine r_end ?_
  refine t_cond rfl (fun h1 => ?_) (fun h1 => ?_)
  ·
    have h1' := of_decide_eq_true h1
    refine t_seq ?_
    refine t_region ?_
    refine r_op (o_assign rfl rfl) ?_
    refine r_end ?_
    refine t_ret Tryz.func41 (.tmp rfl .nil) rfl fun E S w u hI hd => ?_
    refine post_mk hI hd ?_ trivial rfl rfl rfl <;> clear hI hd
    all_goals first | rfl | (simp_all)
  ·
    have h1' := of_decide_eq_false h1
    refine t_skip ?_
    refine t_seq ?_
    refine t_seq ?_
    refine t_region ?_
    refine r_op (o_fieldb rfl (off := 1) (by kernel_rfl) rfl) ?_
    refine r_op (o_load1b rfl (by kernel_rfl) rfl rfl rfl) ?_
    refine r_op (o_fieldb rfl (off := 1) (by kernel_rfl) rfl) ?_
    refine r_op (o_load1b rfl (by kernel_rfl) rfl rfl rfl) ?_
    refine r_op (o_bin rfl rfl rfl rfl) ?_
    refine r_end ?_
    refine t_cond rfl (fun h2 => ?_) (fun h2 => ?_)
    ·
      have h2' := of_decide_eq_true h2
      refine t_seq ?_
      refine t_region ?_
      refine r_op (o_assign rfl rfl) ?_
      refine r_end ?_
      refine t_ret Tryz.func41 (.tmp rfl .nil) rfl fun E S w u hI hd => ?_
      refine post_mk hI hd ?_ trivial rfl rfl rfl <;> clear hI hd
      all_goals first | rfl | (simp_all)
    ·
      have h2' := of_decide_eq_false h2
      refine t_skip ?_
      refine t_seq ?_
      refine t_seq ?_
      refine t_region ?_
      refine r_op (o_fieldb rfl (off := 2) (by kernel_rfl) rfl) ?_
      refine r_op (o_load1b rfl (by kernel_rfl) rfl rfl rfl) ?_
      refine r_op (o_fieldb rfl (off := 2) (by kernel_rfl) rfl) ?_
      refine r_op (o_load1b rfl (by kernel_rfl) rfl rfl rfl) ?_
      refine r_op (o_neB rfl Tryz.underlying4 rfl rfl) ?_
      refine r_end ?_
      refine t_cond rfl (fun h3 => ?_) (fun h3 => ?_)
      ·
        have h3' := h3
        refine t_seq ?_
        refine t_region ?_
        refine r_op (o_assign rfl rfl) ?_
        refine r_end ?_
        refine t_ret Tryz.func41 (.tmp rfl .nil) rfl fun E S w u hI hd => ?_
        refine post_mk hI hd ?_ trivial rfl rfl rfl <;> clear hI hd
        all_goals first | rfl | (simp_all)
      ·
        have h3' := h3
        refine t_skip ?_
        refine t_seq ?_
        refine t_region ?_
        refine r_op (o_assign rfl rfl) ?_
        refine r_end ?_
        refine t_ret Tryz.func41 (.tmp rfl .nil) rfl fun E S w u hI hd => ?_
        refine post_mk hI hd ?_ trivial rfl rfl rfl <;> clear hI hd
        all_goals first | rfl | (simp_all)
set_option maxHeartbeats 1000000 in
set_option maxRecDepth 10000 in
theorem c_laws_eqRelationS (a b : List (List UInt8 × Int × Bool)) (hs : szS (fun (x : List UInt8 × Int × Bool) => (x.1).length) a ≤ 1048576) : Pu Tryz.prog 14 [.c (.t none (.sl 3 (enS3 encS encI encB) (a))), .c (.t none (.sl 3 (enS3 encS encI encB) (b)))] [] 0 (.c (.t none (.v (.bool (decide (a = b)))))) := by
  refine pu_enter Tryz.func14 rfl (Nat.le_of_ble_eq_true rfl) fun w S => ?_
  have gl := sz_len (f := (fun (x : List UInt8 × Int × Bool) => (x.1).length)) (l := a)
  refine t_seq ?_
  refine t_region ?_
  refine r_op (o_assign rfl rfl) ?_
  refine r_end ?_
  refine t_seq ?_
  refine t_seq ?_
  refine t_region ?_
  refine r_op (o_move rfl rfl) ?_
  refine r_op (o_len rfl rfl rfl) ?_
  refine r_op (o_move rfl rfl) ?_
  refine r_op (o_len rfl rfl rfl) ?_
  refine r_op (o_bin rfl rfl rfl rfl) ?_
  refine r_end ?_
  refine t_cond rfl (fun h1 => ?_) (fun h1 => ?_)
  ·
    have h1' := of_decide_eq_true h1
    refine t_seq ?_
    refine t_region ?_
    refine r_op (o_assign rfl rfl) ?_
    refine r_end ?_
    refine t_ret Tryz.func14 (.tmp rfl .nil) rfl fun E S w u hI hd => ?_
    refine post_mk hI hd ?_ trivial rfl rfl rfl <;> clear hI hd <;> (try clear ih0)
    all_goals first | rfl | ((have : a ≠ b := by rintro rfl; simp at *); simp [this])
  ·
    have h1' := of_decide_eq_false h1
    refine t_skip ?_
    refine t_seq ?_
    refine t_seq ?_
    refine t_region ?_
    refine r_op (o_assign rfl rfl) ?_
    refine r_end ?_
    refine t_block ?_
    refine t_loopL (fun m => ⟨[(0, some (.c (.t none (.sl 3 (enS3 encS encI encB) (a))))), (1, some (.c (.t none (.sl 3 (enS3 encS encI encB) (b))))), (5, some (.c (.t none (.v (.int .i64 ((m : Int)))))))], [], 0⟩ : Nat → St) (fun m => m ≤ a.length ∧ a.length = b.length ∧ a.take m = b.take m) (fun m => a.length - m) 0 ⟨⟨rfl, ⟨rfl, ⟨rfl, trivial⟩⟩⟩, trivial, rfl⟩ (by exact ⟨Nat.zero_le _, by omega, rfl⟩) ?_
    rintro m hI ih0
    try dsimp only at hI ih0
    obtain ⟨i1, i2, i3⟩ := hI
    refine t_seq ?_
    refine t_seq ?_
    refine t_region ?_
    refine r_op (o_move rfl rfl) ?_
    refine r_op (o_move rfl rfl) ?_
    refine r_op (o_len rfl rfl rfl) ?_
    refine r_op (o_bin rfl rfl rfl rfl) ?_
    refine r_end ?_
    refine t_cond rfl (fun h2 => ?_) (fun h2 => ?_)
    ·
      have h2' := of_decide_eq_true h2
      refine t_skip ?_
      refine t_seq ?_
      refine t_block ?_
      refine t_seq ?_
      refine t_draw (fun _ => true) (by kernel_rfl) ?_
      refine d_take 0 rfl rfl (by kernel_rfl) (by kernel_rfl) (by kernel_rfl) (p_move rfl) ?_
      refine d_take 1 rfl rfl (by kernel_rfl) (by kernel_rfl) (by kernel_rfl) (p_move rfl) ?_
      obtain ⟨z3, hz4, b5⟩ := at_get (xs := a) (n := (m : Int)) (by first | omega | (have e1 := sz_at (f := (fun (x : List UInt8 × Int × Bool) => (x.1).length)) (l := a) (m := m) (by assumption); (try dsimp only at e1); omega)) (by first | omega | (have e1 := sz_at (f := (fun (x : List UInt8 × Int × Bool) => (x.1).length)) (l := a) (m := m) (by assumption); (try dsimp only at e1); omega))
      refine d_take 2 rfl rfl (by kernel_rfl) (by kernel_rfl) (by kernel_rfl) (p_index (by kernel_rfl) rfl rfl b5 hz4) ?_
      refine d_take 3 rfl rfl (by kernel_rfl) (by kernel_rfl) (by kernel_rfl) (p_loadA (n := 3) (by kernel_rfl) (by kernel_rfl) rfl rfl) ?_
      refine d_take 4 rfl rfl (by kernel_rfl) (by kernel_rfl) (by kernel_rfl) (p_move rfl) ?_
      refine d_take 5 rfl rfl (by kernel_rfl) (by kernel_rfl) (by kernel_rfl) (p_move rfl) ?_
      obtain ⟨z6, hz7, b8⟩ := at_get (xs := b) (n := (m : Int)) (by first | omega | (have e1 := sz_at (f := (fun (x : List UInt8 × Int × Bool) => (x.1).length)) (l := a) (m := m) (by assumption); (try dsimp only at e1); omega)) (by first | omega | (have e1 := sz_at (f := (fun (x : List UInt8 × Int × Bool) => (x.1).length)) (l := a) (m := m) (by assumption); (try dsimp only at e1); omega))
      refine d_take 6 rfl rfl (by kernel_rfl) (by kernel_rfl) (by kernel_rfl) (p_index (by kernel_rfl) rfl rfl b8 hz7) ?_
      refine d_take 7 rfl rfl (by kernel_rfl) (by kernel_rfl) (by kernel_rfl) (p_loadA (n := 3) (by kernel_rfl) (by kernel_rfl) rfl rfl) ?_
      refine d_only 8 rfl (by kernel_rfl) rfl (o_call 0 0 false (Go.Proofs.enters_of Tryz.func41 (by kernel_rfl) rfl) (c_laws_eqRelation (z3.1) (z3.2.1) (z3.2.2) (z6.1) (z6.2.1) (z6.2.2) (by first | omega | (have e1 := sz_at (f := (fun (x : List UInt8 × Int × Bool) => (x.1).length)) (l := a) (m := m) (by assumption); (try dsimp only at e1); omega))) rfl (.cons rfl (.agg (.cons .t0 (.cons .t0 (.cons .t0 .nil)))) (.cons rfl (.agg (.cons .t0 (.cons .t0 (.cons .t0 .nil)))) .nil)) rfl rfl rfl) ?_
      refine d_take 9 rfl rfl (by kernel_rfl) (by kernel_rfl) (by kernel_rfl) (p_not rfl) ?_
      refine d_end (by kernel_rfl) ?_
      refine t_cond rfl (fun h9 => ?_) (fun h9 => ?_)
      ·
        have h9' := of_decide_eq_false (bnt h9)
        refine t_seq ?_
        refine t_region ?_
        refine r_op (o_assign rfl rfl) ?_
        refine r_end ?_
        refine t_ret Tryz.func14 (.tmp rfl .nil) rfl fun E S w u hI hd => ?_
        refine post_mk hI hd ?_ trivial rfl rfl rfl <;> clear hI hd <;> (try clear ih0)
        all_goals first | rfl | (have := ne_at (a := a) (b := b) (by assumption) (by assumption) (by assumption); simp_all)
      ·
        have h9' := of_decide_eq_true (bnf h9)
        refine t_skip ?_
        refine t_endblock ?_
        refine t_region ?_
        refine r_op (o_move rfl rfl) ?_
        refine r_op (o_bin rfl rfl rfl rfl) ?_
        refine r_op (o_assign rfl rfl) ?_
        refine r_end ?_
        refine t_le ?_ (ih0 (m + 1) (by (try dsimp only); omega) (by (try dsimp only); exact ⟨by omega, i2, take_same i3 (same_at (by assumption) (by assumption) (by assumption))⟩))
        exact ⟨⟨rfl, ⟨rfl, ⟨(eqI (wrS (by omega))), trivial⟩⟩⟩, trivial, rfl⟩
    ·
      have h2' := of_decide_eq_false h2
      refine t_exit rfl ?_
      refine t_seq ?_
      refine t_region ?_
      refine r_op (o_assign rfl rfl) ?_
      refine r_end ?_
      refine t_ret Tryz.func14 (.tmp rfl .nil) rfl fun E S w u hI hd => ?_
      refine post_mk hI hd ?_ trivial rfl rfl rfl <;> clear hI hd <;> (try clear ih0)
      all_goals first | rfl | ((obtain rfl : m = a.length := by omega); rw [List.take_length, i2, List.take_length] at i3; simp [i3])
set_option maxHeartbeats 1000000 in
set_option maxRecDepth 10000 in
theorem c_laws_eqIntS (a b : List Int) (ha : a.length < 4611686018427387904) : Pu Tryz.prog 135 [.c (.t none (.sl 1 encI (a))), .c (.t none (.sl 1 encI (b)))] [] 0 (.c (.t none (.v (.bool (decide (a = b)))))) := by
  refine pu_enter Tryz.func135 rfl (Nat.le_of_ble_eq_true rfl) fun w S => ?_
  refine t_seq ?_
  refine t_region ?_
  refine r_op (o_assign rfl rfl) ?_
  refine r_end ?_
  refine t_seq ?_
  refine t_seq ?_
  refine t_region ?_
  refine r_op (o_move rfl rfl) ?_
  refine r_op (o_len rfl rfl rfl) ?_
  refine r_op (o_move rfl rfl) ?_
  refine r_op (o_len rfl rfl rfl) ?_
  refine r_op (o_bin rfl rfl rfl rfl) ?_
  refine r_end ?_
  refine t_cond rfl (fun h1 => ?_) (fun h1 => ?_)
  ·
    have h1' := of_decide_eq_true h1
    refine t_seq ?_
    refine t_region ?_
    refine r_op (o_assign rfl rfl) ?_
    refine r_end ?_
    refine t_ret Tryz.func135 (.tmp rfl .nil) rfl fun E S w u hI hd => ?_
    refine post_mk hI hd ?_ trivial rfl rfl rfl <;> clear hI hd <;> (try clear ih0)
    all_goals first | rfl | ((have : a ≠ b := by rintro rfl; simp at *); simp [this])
  ·
    have h1' := of_decide_eq_false h1
    refine t_skip ?_
    refine t_seq ?_
    refine t_seq ?_
    refine t_region ?_
    refine r_op (o_assign rfl rfl) ?_
    refine r_end ?_
    refine t_block ?_
    refine t_loopL (fun m => ⟨[(0, some (.c (.t none (.sl 1 encI (a))))), (1, some (.c (.t none (.sl 1 encI (b))))), (5, some (.c (.t none (.v (.int .i64 ((m : Int)))))))], [], 0⟩ : Nat → St) (fun m => m ≤ a.length ∧ a.length = b.length ∧ a.take m = b.take m) (fun m => a.length - m) 0 ⟨⟨rfl, ⟨rfl, ⟨rfl, trivial⟩⟩⟩, trivial, rfl⟩ (by exact ⟨Nat.zero_le _, by omega, rfl⟩) ?_
    rintro m hI ih0
    try dsimp only at hI ih0
    obtain ⟨i1, i2, i3⟩ := hI
    refine t_seq ?_
    refine t_seq ?_
    refine t_region ?_
    refine r_op (o_move rfl rfl) ?_
    refine r_op (o_move rfl rfl) ?_
    refine r_op (o_len rfl rfl rfl) ?_
    refine r_op (o_bin rfl rfl rfl rfl) ?_
    refine r_end ?_
    refine t_cond rfl (fun h2 => ?_) (fun h2 => ?_)
    ·
      have h2' := of_decide_eq_true h2
      refine t_skip ?_
      refine t_seq ?_
      refine t_block ?_
      refine t_seq ?_
      refine t_draw (fun _ => true) (by kernel_rfl) ?_
      refine d_take 0 rfl rfl (by kernel_rfl) (by kernel_rfl) (by kernel_rfl) (p_move rfl) ?_
      refine d_take 1 rfl rfl (by kernel_rfl) (by kernel_rfl) (by kernel_rfl) (p_move rfl) ?_
      obtain ⟨z3, hz4, b5⟩ := at_get (xs := a) (n := (m : Int)) (by first | omega | (simp; omega)) (by first | omega | (simp; omega))
      refine d_take 2 rfl rfl (by kernel_rfl) (by kernel_rfl) (by kernel_rfl) (p_index (by kernel_rfl) rfl rfl b5 hz4) ?_
      refine d_take 3 rfl rfl (by kernel_rfl) (by kernel_rfl) (by kernel_rfl) (p_load1 (by kernel_rfl) rfl rfl) ?_
      refine d_take 4 rfl rfl (by kernel_rfl) (by kernel_rfl) (by kernel_rfl) (p_move rfl) ?_
      refine d_take 5 rfl rfl (by kernel_rfl) (by kernel_rfl) (by kernel_rfl) (p_move rfl) ?_
      obtain ⟨z6, hz7, b8⟩ := at_get (xs := b) (n := (m : Int)) (by first | omega | (simp; omega)) (by first | omega | (simp; omega))
      refine d_take 6 rfl rfl (by kernel_rfl) (by kernel_rfl) (by kernel_rfl) (p_index (by kernel_rfl) rfl rfl b8 hz7) ?_
      refine d_take 7 rfl rfl (by kernel_rfl) (by kernel_rfl) (by kernel_rfl) (p_load1 (by kernel_rfl) rfl rfl) ?_
      refine d_take 8 rfl rfl (by kernel_rfl) (by kernel_rfl) (by kernel_rfl) (p_bin rfl rfl rfl) ?_
      refine d_end (by kernel_rfl) ?_
      refine t_cond rfl (fun h9 => ?_) (fun h9 => ?_)
      ·
        have h9' := of_decide_eq_true h9
        refine t_seq ?_
        refine t_region ?_
        refine r_op (o_assign rfl rfl) ?_
        refine r_end ?_
        refine t_ret Tryz.func135 (.tmp rfl .nil) rfl fun E S w u hI hd => ?_
        refine post_mk hI hd ?_ trivial rfl rfl rfl <;> clear hI hd <;> (try clear ih0)
        all_goals first | rfl | (have := ne_at (a := a) (b := b) (by assumption) (by assumption) (by assumption); simp_all)
      ·
        have h9' := of_decide_eq_false h9
        refine t_skip ?_
        refine t_endblock ?_
        refine t_region ?_
        refine r_op (o_move rfl rfl) ?_
        refine r_op (o_bin rfl rfl rfl rfl) ?_
        refine r_op (o_assign rfl rfl) ?_
        refine r_end ?_
        refine t_le ?_ (ih0 (m + 1) (by (try dsimp only); omega) (by (try dsimp only); refine ⟨by omega, i2, take_same i3 ?_⟩; simp_all))
        exact ⟨⟨rfl, ⟨rfl, ⟨(eqI (wrS (by omega))), trivial⟩⟩⟩, trivial, rfl⟩
    ·
      have h2' := of_decide_eq_false h2
      refine t_exit rfl ?_
      refine t_seq ?_
      refine t_region ?_
      refine r_op (o_assign rfl rfl) ?_
      refine r_end ?_
      refine t_ret Tryz.func135 (.tmp rfl .nil) rfl fun E S w u hI hd => ?_
      refine post_mk hI hd ?_ trivial rfl rfl rfl <;> clear hI hd <;> (try clear ih0)
      all_goals first | rfl | ((obtain rfl : m = a.length := by omega); rw [List.take_length, i2, List.take_length] at i3; simp [i3])
set_option maxHeartbeats 1000000 in
set_option maxRecDepth 10000 in
theorem c_laws_eqAtom (a0 : Int) (a1 : List (Int)) (b0 : Int) (b1 : List (Int)) (hs : (a1).length ≤ 1048576) : Pu Tryz.prog 92 [.agg [.t none (.v (.int .i64 (a0))), .t none (.sl 1 encI (a1))], .agg [.t none (.v (.int .i64 (b0))), .t none (.sl 1 encI (b1))]] [] 0 (.c (.t none (.v (.bool (decide ((a0, a1) = (b0, b1))))))) := by
  refine pu_enter Tryz.func92 rfl (Nat.le_of_ble_eq_true rfl) fun w S => ?_
  refine t_seq ?_
  refine t_region ?_
  refine r_op (o_box 0 rfl rfl rfl rfl) ?_
  refine r_op (o_box 1 rfl rfl rfl rfl) ?_
  refine r_op (o_assign rfl rfl) ?_
  refine r_end ?_
  refine t_seq ?_
  refine t_seq ?_
  refine t_region ?_
  refine r_op (o_fieldb rfl (off := 0) (by kernel_rfl) rfl) ?_
  refine r_op (o_load1b rfl (by kernel_rfl) rfl rfl rfl) ?_
  refine r_op (o_fieldb rfl (off := 0) (by kernel_rfl) rfl) ?_
  refine r_op (o_load1b rfl (by kernel_rfl) rfl rfl rfl) ?_
  refine r_op (o_bin rfl rfl rfl rfl) ?_
  refine r_end ?_
  refine t_cond rfl (fun h1 => ?_) (fun h1 => ?_)
  ·
    have h1' := of_decide_eq_true h1
    refine t_seq ?_
    refine t_region ?_
    refine r_op (o_assign rfl rfl) ?_
    refine r_end ?_
    refine t_ret Tryz.func92 (.tmp rfl .nil) rfl fun E S w u hI hd => ?_
    refine post_mk hI hd ?_ trivial rfl rfl rfl <;> clear hI hd
    all_goals first | rfl | (simp_all)
  ·
    have h1' := of_decide_eq_false h1
    refine t_skip ?_
    refine t_seq ?_
    refine t_seq ?_
    refine t_region ?_
    refine r_op (o_fieldb rfl (off := 1) (by kernel_rfl) rfl) ?_
    refine r_op (o_load1b rfl (by kernel_rfl) rfl rfl rfl) ?_
    refine r_op (o_fieldb rfl (off := 1) (by kernel_rfl) rfl) ?_
    refine r_op (o_load1b rfl (by kernel_rfl) rfl rfl rfl) ?_
    refine r_op (o_call 2 2 false (Go.Proofs.enters_of Tryz.func135 (by kernel_rfl) rfl) (c_laws_eqIntS (a1) (b1) (by first | omega | (simp; omega))) rfl (.cons rfl (.c .t0) (.cons rfl (.c .t0) .nil)) rfl rfl rfl) ?_
    refine r_op (o_not rfl rfl) ?_
    refine r_end ?_
    refine t_cond rfl (fun h2 => ?_) (fun h2 => ?_)
    ·
      have h2' := of_decide_eq_false (bnt h2)
      refine t_seq ?_
      refine t_region ?_
      refine r_op (o_assign rfl rfl) ?_
      refine r_end ?_
      refine t_ret Tryz.func92 (.tmp rfl .nil) rfl fun E S w u hI hd => ?_
      refine post_mk hI hd ?_ trivial rfl rfl rfl <;> clear hI hd
      all_goals first | rfl | (simp_all)
    ·
      have h2' := of_decide_eq_true (bnf h2)
      refine t_skip ?_
      refine t_seq ?_
      refine t_region ?_
      refine r_op (o_assign rfl rfl) ?_
      refine r_end ?_
      refine t_ret Tryz.func92 (.tmp rfl .nil) rfl fun E S w u hI hd => ?_
      refine post_mk hI hd ?_ trivial rfl rfl rfl <;> clear hI hd
      all_goals first | rfl | (simp_all)
set_option maxHeartbeats 1000000 in
set_option maxRecDepth 10000 in
theorem c_laws_eqAtomS (a b : List (Int × (List (Int)))) (hs : szS (fun (x : Int × (List (Int))) => (x.2).length) a ≤ 1048576) : Pu Tryz.prog 52 [.c (.t none (.sl 2 (enS2 encI (enSl 1 encI)) (a))), .c (.t none (.sl 2 (enS2 encI (enSl 1 encI)) (b)))] [] 0 (.c (.t none (.v (.bool (decide (a = b)))))) := by
  refine pu_enter Tryz.func52 rfl (Nat.le_of_ble_eq_true rfl) fun w S => ?_
  have gl := sz_len (f := (fun (x : Int × (List (Int))) => (x.2).length)) (l := a)
  refine t_seq ?_
  refine t_region ?_
  refine r_op (o_assign rfl rfl) ?_
  refine r_end ?_
  refine t_seq ?_
  refine t_seq ?_
  refine t_region ?_
  refine r_op (o_move rfl rfl) ?_
  refine r_op (o_len rfl rfl rfl) ?_
  refine r_op (o_move rfl rfl) ?_
  refine r_op (o_len rfl rfl rfl) ?_
  refine r_op (o_bin rfl rfl rfl rfl) ?_
  refine r_end ?_
  refine t_cond rfl (fun h1 => ?_) (fun h1 => ?_)
  ·
    have h1' := of_decide_eq_true h1
    refine t_seq ?_
    refine t_region ?_
    refine r_op (o_assign rfl rfl) ?_
    refine r_end ?_
    refine t_ret Tryz.func52 (.tmp rfl .nil) rfl fun E S w u hI hd => ?_
    refine post_mk hI hd ?_ trivial rfl rfl rfl <;> clear hI hd <;> (try clear ih0)
    all_goals first | rfl | ((have : a ≠ b := by rintro rfl; simp at *); simp [this])
  ·
    have h1' := of_decide_eq_false h1
    refine t_skip ?_
    refine t_seq ?_
    refine t_seq ?_
    refine t_region ?_
    refine r_op (o_assign rfl rfl) ?_
    refine r_end ?_
    refine t_block ?_
    refine t_loopL (fun m => ⟨[(0, some (.c (.t none (.sl 2 (enS2 encI (enSl 1 encI)) (a))))), (1, some (.c (.t none (.sl 2 (enS2 encI (enSl 1 encI)) (b))))), (5, some (.c (.t none (.v (.int .i64 ((m : Int)))))))], [], 0⟩ : Nat → St) (fun m => m ≤ a.length ∧ a.length = b.length ∧ a.take m = b.take m) (fun m => a.length - m) 0 ⟨⟨rfl, ⟨rfl, ⟨rfl, trivial⟩⟩⟩, trivial, rfl⟩ (by exact ⟨Nat.zero_le _, by omega, rfl⟩) ?_
    rintro m hI ih0
    try dsimp only at hI ih0
    obtain ⟨i1, i2, i3⟩ := hI
    refine t_seq ?_
    refine t_seq ?_
    refine t_region ?_
    refine r_op (o_move rfl rfl) ?_
    refine r_op (o_move rfl rfl) ?_
    refine r_op (o_len rfl rfl rfl) ?_
    refine r_op (o_bin rfl rfl rfl rfl) ?_
    refine r_end ?_
    refine t_cond rfl (fun h2 => ?_) (fun h2 => ?_)
    ·
      have h2' := of_decide_eq_true h2
      refine t_skip ?_
      refine t_seq ?_
      refine t_block ?_
      refine t_seq ?_
      refine t_draw (fun _ => true) (by kernel_rfl) ?_
      refine d_take 0 rfl rfl (by kernel_rfl) (by kernel_rfl) (by kernel_rfl) (p_move rfl) ?_
      refine d_take 1 rfl rfl (by kernel_rfl) (by kernel_rfl) (by kernel_rfl) (p_move rfl) ?_
      obtain ⟨z3, hz4, b5⟩ := at_get (xs := a) (n := (m : Int)) (by first | omega | (have e1 := sz_at (f := (fun (x : Int × (List (Int))) => (x.2).length)) (l := a) (m := m) (by assumption); (try dsimp only at e1); omega)) (by first | omega | (have e1 := sz_at (f := (fun (x : Int × (List (Int))) => (x.2).length)) (l := a) (m := m) (by assumption); (try dsimp only at e1); omega))
      refine d_take 2 rfl rfl (by kernel_rfl) (by kernel_rfl) (by kernel_rfl) (p_index (by kernel_rfl) rfl rfl b5 hz4) ?_
      refine d_take 3 rfl rfl (by kernel_rfl) (by kernel_rfl) (by kernel_rfl) (p_loadA (n := 2) (by kernel_rfl) (by kernel_rfl) rfl rfl) ?_
      refine d_take 4 rfl rfl (by kernel_rfl) (by kernel_rfl) (by kernel_rfl) (p_move rfl) ?_
      refine d_take 5 rfl rfl (by kernel_rfl) (by kernel_rfl) (by kernel_rfl) (p_move rfl) ?_
      obtain ⟨z6, hz7, b8⟩ := at_get (xs := b) (n := (m : Int)) (by first | omega | (have e1 := sz_at (f := (fun (x : Int × (List (Int))) => (x.2).length)) (l := a) (m := m) (by assumption); (try dsimp only at e1); omega)) (by first | omega | (have e1 := sz_at (f := (fun (x : Int × (List (Int))) => (x.2).length)) (l := a) (m := m) (by assumption); (try dsimp only at e1); omega))
      refine d_take 6 rfl rfl (by kernel_rfl) (by kernel_rfl) (by kernel_rfl) (p_index (by kernel_rfl) rfl rfl b8 hz7) ?_
      refine d_take 7 rfl rfl (by kernel_rfl) (by kernel_rfl) (by kernel_rfl) (p_loadA (n := 2) (by kernel_rfl) (by kernel_rfl) rfl rfl) ?_
      refine d_only 8 rfl (by kernel_rfl) rfl (o_call 0 0 false (Go.Proofs.enters_of Tryz.func92 (by kernel_rfl) rfl) (c_laws_eqAtom (z3.1) (z3.2) (z6.1) (z6.2) (by first | omega | (have e1 := sz_at (f := (fun (x : Int × (List (Int))) => (x.2).length)) (l := a) (m := m) (by assumption); (try dsimp only at e1); omega))) rfl (.cons rfl (.agg (.cons .t0 (.cons .t0 .nil))) (.cons rfl (.agg (.cons .t0 (.cons .t0 .nil))) .nil)) rfl rfl rfl) ?_
      refine d_take 9 rfl rfl (by kernel_rfl) (by kernel_rfl) (by kernel_rfl) (p_not rfl) ?_
      refine d_end (by kernel_rfl) ?_
      refine t_cond rfl (fun h9 => ?_) (fun h9 => ?_)
      ·
        have h9' := of_decide_eq_false (bnt h9)
        refine t_seq ?_
        refine t_region ?_
        refine r_op (o_assign rfl rfl) ?_
        refine r_end ?_
        refine t_ret Tryz.func52 (.tmp rfl .nil) rfl fun E S w u hI hd => ?_
        refine post_mk hI hd ?_ trivial rfl rfl rfl <;> clear hI hd <;> (try clear ih0)
        all_goals first | rfl | (have := ne_at (a := a) (b := b) (by assumption) (by assumption) (by assumption); simp_all)
      ·
        have h9' := of_decide_eq_true (bnf h9)
        refine t_skip ?_
        refine t_endblock ?_
        refine t_region ?_
        refine r_op (o_move rfl rfl) ?_
        refine r_op (o_bin rfl rfl rfl rfl) ?_
        refine r_op (o_assign rfl rfl) ?_
        refine r_end ?_
        refine t_le ?_ (ih0 (m + 1) (by (try dsimp only); omega) (by (try dsimp only); exact ⟨by omega, i2, take_same i3 (same_at (by assumption) (by assumption) (by assumption))⟩))
        exact ⟨⟨rfl, ⟨rfl, ⟨(eqI (wrS (by omega))), trivial⟩⟩⟩, trivial, rfl⟩
    ·
      have h2' := of_decide_eq_false h2
      refine t_exit rfl ?_
      refine t_seq ?_
      refine t_region ?_
      refine r_op (o_assign rfl rfl) ?_
      refine r_end ?_
      refine t_ret Tryz.func52 (.tmp rfl .nil) rfl fun E S w u hI hd => ?_
      refine post_mk hI hd ?_ trivial rfl rfl rfl <;> clear hI hd <;> (try clear ih0)
      all_goals first | rfl | ((obtain rfl : m = a.length := by omega); rw [List.take_length, i2, List.take_length] at i3; simp [i3])
set_option maxHeartbeats 1000000 in
set_option maxRecDepth 10000 in
theorem c_laws_eqDependency (a0 : List (Int × (List (Int)))) (a1 : List (Int × (List (Int)))) (a2 : Bool) (a3 : Int) (a4 : Int) (b0 : List (Int × (List (Int)))) (b1 : List (Int × (List (Int)))) (b2 : Bool) (b3 : Int) (b4 : Int) (hs : (szS (fun (x : Int × (List (Int))) => (x.2).length) (a0)) + (szS (fun (x : Int × (List (Int))) => (x.2).length) (a1)) ≤ 1048576) : Pu Tryz.prog 20 [.agg [.t none (.sl 2 (enS2 encI (enSl 1 encI)) (a0)), .t none (.sl 2 (enS2 encI (enSl 1 encI)) (a1)), .t none (.v (.bool (a2))), .t none (.v (.int .i64 (a3))), .t none (.v (.int .i64 (a4)))], .agg [.t none (.sl 2 (enS2 encI (enSl 1 encI)) (b0)), .t none (.sl 2 (enS2 encI (enSl 1 encI)) (b1)), .t none (.v (.bool (b2))), .t none (.v (.int .i64 (b3))), .t none (.v (.int .i64 (b4)))]] [] 0 (.c (.t none (.v (.bool (decide ((a0, a1, a2, a3, a4) = (b0, b1, b2, b3, b4))))))) := by
  refine pu_enter Tryz.func20 rfl (Nat.le_of_ble_eq_true rfl) fun w S => ?_
  refine t_seq ?_
  refine t_region ?_
  refine r_op (o_box 0 rfl rfl rfl rfl) ?_
  refine r_op (o_box 1 rfl rfl rfl rfl) ?_
  refine r_op (o_assign rfl rfl) ?_
  refine r_end ?_
  refine t_seq ?_
  refine t_seq ?_
  refine t_region ?_
  refine r_op (o_fieldb rfl (off := 0) (by kernel_rfl) rfl) ?_
  refine r_op (o_load1b rfl (by kernel_rfl) rfl rfl rfl) ?_
  refine r_op (o_fieldb rfl (off := 0) (by kernel_rfl) rfl) ?_
  refine r_op (o_load1b rfl (by kernel_rfl) rfl rfl rfl) ?_
  refine r_op (o_call 2 2 false (Go.Proofs.enters_of Tryz.func52 (by kernel_rfl) rfl) (c_laws_eqAtomS (a0) (b0) (by first | omega | (simp; omega))) rfl (.cons rfl (.c .t0) (.cons rfl (.c .t0) .nil)) rfl rfl rfl) ?_
  refine r_op (o_not rfl rfl) ?_
  refine r_end ?_
  refine t_cond rfl (fun h1 => ?_) (fun h1 => ?_)
  ·
    have h1' := of_decide_eq_false (bnt h1)
    refine t_seq ?_
    refine t_region ?_
    refine r_op (o_assign rfl rfl) ?_
    refine r_end ?_
    refine t_ret Tryz.func20 (.tmp rfl .nil) rfl fun E S w u hI hd => ?_
    refine post_mk hI hd ?_ trivial rfl rfl rfl <;> clear hI hd
    all_goals first | rfl | (simp_all)
  ·
    have h1' := of_decide_eq_true (bnf h1)
    refine t_skip ?_
    refine t_seq ?_
    refine t_seq ?_
    refine t_region ?_
    refine r_op (o_fieldb rfl (off := 1) (by kernel_rfl) rfl) ?_
    refine r_op (o_load1b rfl (by kernel_rfl) rfl rfl rfl) ?_
    refine r_op (o_fieldb rfl (off := 1) (by kernel_rfl) rfl) ?_
    refine r_op (o_load1b rfl (by kernel_rfl) rfl rfl rfl) ?_
    refine r_op (o_call 2 2 false (Go.Proofs.enters_of Tryz.func52 (by kernel_rfl) rfl) (c_laws_eqAtomS (a1) (b1) (by first | omega | (simp; omega))) rfl (.cons rfl (.c .t0) (.cons rfl (.c .t0) .nil)) rfl rfl rfl) ?_
    refine r_op (o_not rfl rfl) ?_
    refine r_end ?_
    refine t_cond rfl (fun h2 => ?_) (fun h2 => ?_)
    ·
      have h2' := of_decide_eq_false (bnt h2)
      refine t_seq ?_
      refine t_region ?_
      refine r_op (o_assign rfl rfl) ?_
      refine r_end ?_
      refine t_ret Tryz.func20 (.tmp rfl .nil) rfl fun E S w u hI hd => ?_
      refine post_mk hI hd ?_ trivial rfl rfl rfl <;> clear hI hd
      all_goals first | rfl | (simp_all)
    ·
      have h2' := of_decide_eq_true (bnf h2)
      refine t_skip ?_
      refine t_seq ?_
      refine t_seq ?_
      refine t_region ?_
      refine r_op (o_fieldb rfl (off := 2) (by kernel_rfl) rfl) ?_
      refine r_op (o_load1b rfl (by kernel_rfl) rfl rfl rfl) ?_
      refine r_op (o_fieldb rfl (off := 2) (by kernel_rfl) rfl) ?_
      refine r_op (o_load1b rfl (by kernel_rfl) rfl rfl rfl) ?_
      refine r_op (o_neB rfl Tryz.underlying4 rfl rfl) ?_
      refine r_end ?_
      refine t_cond rfl (fun h3 => ?_) (fun h3 => ?_)
      ·
        have h3' := h3
        refine t_seq ?_
        refine t_region ?_
        refine r_op (o_assign rfl rfl) ?_
        refine r_end ?_
        refine t_ret Tryz.func20 (.tmp rfl .nil) rfl fun E S w u hI hd => ?_
        refine post_mk hI hd ?_ trivial rfl rfl rfl <;> clear hI hd
        all_goals first | rfl | (simp_all)
      ·
        have h3' := h3
        refine t_skip ?_
        refine t_seq ?_
        refine t_seq ?_
        refine t_region ?_
        refine r_op (o_fieldb rfl (off := 3) (by kernel_rfl) rfl) ?_
        refine r_op (o_load1b rfl (by kernel_rfl) rfl rfl rfl) ?_
        refine r_op (o_fieldb rfl (off := 3) (by kernel_rfl) rfl) ?_
        refine r_op (o_load1b rfl (by kernel_rfl) rfl rfl rfl) ?_
        refine r_op (o_bin rfl rfl rfl rfl) ?_
        refine r_end ?_
        refine t_cond rfl (fun h4 => ?_) (fun h4 => ?_)
        ·
          have h4' := of_decide_eq_true h4
          refine t_seq ?_
          refine t_region ?_
          refine r_op (o_assign rfl rfl) ?_
          refine r_end ?_
          refine t_ret Tryz.func20 (.tmp rfl .nil) rfl fun E S w u hI hd => ?_
          refine post_mk hI hd ?_ trivial rfl rfl rfl <;> clear hI hd
          all_goals first | rfl | (simp_all)
        ·
          have h4' := of_decide_eq_false h4
          refine t_skip ?_
          refine t_seq ?_
          refine t_seq ?_
          refine t_region ?_
          refine r_op (o_fieldb rfl (off := 4) (by kernel_rfl) rfl) ?_
          refine r_op (o_load1b rfl (by kernel_rfl) rfl rfl rfl) ?_
          refine r_op (o_fieldb rfl (off := 4) (by kernel_rfl) rfl) ?_
          refine r_op (o_load1b rfl (by kernel_rfl) rfl rfl rfl) ?_
          refine r_op (o_bin rfl rfl rfl rfl) ?_
          refine r_end ?_
          refine t_cond rfl (fun h5 => ?_) (fun h5 => ?_)
          ·
            have h5' := of_decide_eq_true h5
            refine t_seq ?_
            refine t_region ?_
            refine r_op (o_assign rfl rfl) ?_
            refine r_end ?_
            refine t_ret Tryz.func20 (.tmp rfl .nil) rfl fun E S w u hI hd => ?_
            refine post_mk hI hd ?_ trivial rfl rfl rfl <;> clear hI hd
            all_goals first | rfl | (simp_all)
          ·
            have h5' := of_decide_eq_false h5
            refine t_skip ?_
            refine t_seq ?_
            refine t_region ?_
            refine r_op (o_assign rfl rfl) ?_
            refine r_end ?_
            refine t_ret Tryz.func20 (.tmp rfl .nil) rfl fun E S w u hI hd => ?_
            refine post_mk hI hd ?_ trivial rfl rfl rfl <;> clear hI hd
            all_goals first | rfl | (simp_all)
set_option maxHeartbeats 1000000 in
set_option maxRecDepth 10000 in
theorem c_laws_eqDependencyS (a b : List ((List (Int × (List (Int)))) × (List (Int × (List (Int)))) × Bool × Int × Int)) (hs : szS (fun (x : (List (Int × (List (Int)))) × (List (Int × (List (Int)))) × Bool × Int × Int) => (szS (fun (x : Int × (List (Int))) => (x.2).length) (x.1)) + (szS (fun (x : Int × (List (Int))) => (x.2).length) (x.2.1))) a ≤ 1048576) : Pu Tryz.prog 15 [.c (.t none (.sl 5 (enS5 (enSl 2 (enS2 encI (enSl 1 encI))) (enSl 2 (enS2 encI (enSl 1 encI))) encB encI encI) (a))), .c (.t none (.sl 5 (enS5 (enSl 2 (enS2 encI (enSl 1 encI))) (enSl 2 (enS2 encI (enSl 1 encI))) encB encI encI) (b)))] [] 0 (.c (.t none (.v (.bool (decide (a = b)))))) := by
  refine pu_enter Tryz.func15 rfl (Nat.le_of_ble_eq_true rfl) fun w S => ?_
  have gl := sz_len (f := (fun (x : (List (Int × (List (Int)))) × (List (Int × (List (Int)))) × Bool × Int × Int) => (szS (fun (x : Int × (List (Int))) => (x.2).length) (x.1)) + (szS (fun (x : Int × (List (Int))) => (x.2).length) (x.2.1)))) (l := a)
  refine t_seq ?_
  refine t_region ?_
  refine r_op (o_assign rfl rfl) ?_
  refine r_end ?_
  refine t_seq ?_
  refine t_seq ?_
  refine t_region ?_
  refine r_op (o_move rfl rfl) ?_
  refine r_op (o_len rfl rfl rfl) ?_
  refine r_op (o_move rfl rfl) ?_
  refine r_op (o_len rfl rfl rfl) ?_
  refine r_op (o_bin rfl rfl rfl rfl) ?_
  refine r_end ?_
  refine t_cond rfl (fun h1 => ?_) (fun h1 => ?_)
  ·
    have h1' := of_decide_eq_true h1
    refine t_seq ?_
    refine t_region ?_
    refine r_op (o_assign rfl rfl) ?_
    refine r_end ?_
    refine t_ret Tryz.func15 (.tmp rfl .nil) rfl fun E S w u hI hd => ?_
    refine post_mk hI hd ?_ trivial rfl rfl rfl <;> clear hI hd <;> (try clear ih0)
    all_goals first | rfl | ((have : a ≠ b := by rintro rfl; simp at *); simp [this])
  ·
    have h1' := of_decide_eq_false h1
    refine t_skip ?_
    refine t_seq ?_
    refine t_seq ?_
    refine t_region ?_
    refine r_op (o_assign rfl rfl) ?_
    refine r_end ?_
    refine t_block ?_
    refine t_loopL (fun m => ⟨[(0, some (.c (.t none (.sl 5 (enS5 (enSl 2 (enS2 encI (enSl 1 encI))) (enSl 2 (enS2 encI (enSl 1 encI))) encB encI encI) (a))))), (1, some (.c (.t none (.sl 5 (enS5 (enSl 2 (enS2 encI (enSl 1 encI))) (enSl 2 (enS2 encI (enSl 1 encI))) encB encI encI) (b))))), (5, some (.c (.t none (.v (.int .i64 ((m : Int)))))))], [], 0⟩ : Nat → St) (fun m => m ≤ a.length ∧ a.length = b.length ∧ a.take m = b.take m) (fun m => a.length - m) 0 ⟨⟨rfl, ⟨rfl, ⟨rfl, trivial⟩⟩⟩, trivial, rfl⟩ (by exact ⟨Nat.zero_le _, by omega, rfl⟩) ?_
    rintro m hI ih0
    try dsimp only at hI ih0
    obtain ⟨i1, i2, i3⟩ := hI
    refine t_seq ?_
    refine t_seq ?_
    refine t_region ?_
    refine r_op (o_move rfl rfl) ?_
    refine r_op (o_move rfl rfl) ?_
    refine r_op (o_len rfl rfl rfl) ?_
    refine r_op (o_bin rfl rfl rfl rfl) ?_
    refine r_end ?_
    refine t_cond rfl (fun h2 => ?_) (fun h2 => ?_)
    ·
      have h2' := of_decide_eq_true h2
      refine t_skip ?_
      refine t_seq ?_
      refine t_block ?_
      refine t_seq ?_
      refine t_draw (fun _ => true) (by kernel_rfl) ?_
      refine d_take 0 rfl rfl (by kernel_rfl) (by kernel_rfl) (by kernel_rfl) (p_move rfl) ?_
      refine d_take 1 rfl rfl (by kernel_rfl) (by kernel_rfl) (by kernel_rfl) (p_move rfl) ?_
      obtain ⟨z3, hz4, b5⟩ := at_get (xs := a) (n := (m : Int)) (by first | omega | (have e1 := sz_at (f := (fun (x : (List (Int × (List (Int)))) × (List (Int × (List (Int)))) × Bool × Int × Int) => (szS (fun (x : Int × (List (Int))) => (x.2).length) (x.1)) + (szS (fun (x : Int × (List (Int))) => (x.2).length) (x.2.1)))) (l := a) (m := m) (by assumption); (try dsimp only at e1); omega)) (by first | omega | (have e1 := sz_at (f := (fun (x : (List (Int × (List (Int)))) × (List (Int × (List (Int)))) × Bool × Int × Int) => (szS (fun (x : Int × (List (Int))) => (x.2).length) (x.1)) + (szS (fun (x : Int × (List (Int))) => (x.2).length) (x.2.1)))) (l := a) (m := m) (by assumption); (try dsimp only at e1); omega))
      refine d_take 2 rfl rfl (by kernel_rfl) (by kernel_rfl) (by kernel_rfl) (p_index (by kernel_rfl) rfl rfl b5 hz4) ?_
      refine d_take 3 rfl rfl (by kernel_rfl) (by kernel_rfl) (by kernel_rfl) (p_loadA (n := 5) (by kernel_rfl) (by kernel_rfl) rfl rfl) ?_
      refine d_take 4 rfl rfl (by kernel_rfl) (by kernel_rfl) (by kernel_rfl) (p_move rfl) ?_
      refine d_take 5 rfl rfl (by kernel_rfl) (by kernel_rfl) (by kernel_rfl) (p_move rfl) ?_
      obtain ⟨z6, hz7, b8⟩ := at_get (xs := b) (n := (m : Int)) (by first | omega | (have e1 := sz_at (f := (fun (x : (List (Int × (List (Int)))) × (List (Int × (List (Int)))) × Bool × Int × Int) => (szS (fun (x : Int × (List (Int))) => (x.2).length) (x.1)) + (szS (fun (x : Int × (List (Int))) => (x.2).length) (x.2.1)))) (l := a) (m := m) (by assumption); (try dsimp only at e1); omega)) (by first | omega | (have e1 := sz_at (f := (fun (x : (List (Int × (List (Int)))) × (List (Int × (List (Int)))) × Bool × Int × Int) => (szS (fun (x : Int × (List (Int))) => (x.2).length) (x.1)) + (szS (fun (x : Int × (List (Int))) => (x.2).length) (x.2.1)))) (l := a) (m := m) (by assumption); (try dsimp only at e1); omega))
      refine d_take 6 rfl rfl (by kernel_rfl) (by kernel_rfl) (by kernel_rfl) (p_index (by kernel_rfl) rfl rfl b8 hz7) ?_
      refine d_take 7 rfl rfl (by kernel_rfl) (by kernel_rfl) (by kernel_rfl) (p_loadA (n := 5) (by kernel_rfl) (by kernel_rfl) rfl rfl) ?_
      refine d_only 8 rfl (by kernel_rfl) rfl (o_call 0 0 false (Go.Proofs.enters_of Tryz.func20 (by kernel_rfl) rfl) (c_laws_eqDependency (z3.1) (z3.2.1) (z3.2.2.1) (z3.2.2.2.1) (z3.2.2.2.2) (z6.1) (z6.2.1) (z6.2.2.1) (z6.2.2.2.1) (z6.2.2.2.2) (by first | omega | (have e1 := sz_at (f := (fun (x : (List (Int × (List (Int)))) × (List (Int × (List (Int)))) × Bool × Int × Int) => (szS (fun (x : Int × (List (Int))) => (x.2).length) (x.1)) + (szS (fun (x : Int × (List (Int))) => (x.2).length) (x.2.1)))) (l := a) (m := m) (by assumption); (try dsimp only at e1); omega))) rfl (.cons rfl (.agg (.cons .t0 (.cons .t0 (.cons .t0 (.cons .t0 (.cons .t0 .nil)))))) (.cons rfl (.agg (.cons .t0 (.cons .t0 (.cons .t0 (.cons .t0 (.cons .t0 .nil)))))) .nil)) rfl rfl rfl) ?_
      refine d_take 9 rfl rfl (by kernel_rfl) (by kernel_rfl) (by kernel_rfl) (p_not rfl) ?_
      refine d_end (by kernel_rfl) ?_
      refine t_cond rfl (fun h9 => ?_) (fun h9 => ?_)
      ·
        have h9' := of_decide_eq_false (bnt h9)
        refine t_seq ?_
        refine t_region ?_
        refine r_op (o_assign rfl rfl) ?_
        refine r_end ?_
        refine t_ret Tryz.func15 (.tmp rfl .nil) rfl fun E S w u hI hd => ?_
        refine post_mk hI hd ?_ trivial rfl rfl rfl <;> clear hI hd <;> (try clear ih0)
        all_goals first | rfl | (have := ne_at (a := a) (b := b) (by assumption) (by assumption) (by assumption); simp_all)
      ·
        have h9' := of_decide_eq_true (bnf h9)
        refine t_skip ?_
        refine t_endblock ?_
        refine t_region ?_
        refine r_op (o_move rfl rfl) ?_
        refine r_op (o_bin rfl rfl rfl rfl) ?_
        refine r_op (o_assign rfl rfl) ?_
        refine r_end ?_
        refine t_le ?_ (ih0 (m + 1) (by (try dsimp only); omega) (by (try dsimp only); exact ⟨by omega, i2, take_same i3 (same_at (by assumption) (by assumption) (by assumption))⟩))
        exact ⟨⟨rfl, ⟨rfl, ⟨(eqI (wrS (by omega))), trivial⟩⟩⟩, trivial, rfl⟩
    ·
      have h2' := of_decide_eq_false h2
      refine t_exit rfl ?_
      refine t_seq ?_
      refine t_region ?_
      refine r_op (o_assign rfl rfl) ?_
      refine r_end ?_
      refine t_ret Tryz.func15 (.tmp rfl .nil) rfl fun E S w u hI hd => ?_
      refine post_mk hI hd ?_ trivial rfl rfl rfl <;> clear hI hd <;> (try clear ih0)
      all_goals first | rfl | ((obtain rfl : m = a.length := by omega); rw [List.take_length, i2, List.take_length] at i3; simp [i3])
end Go.Eng
