/- What the functions that FnDependencyListFormat reaches answer. -/
import Derived.Test.YthcggkagkihamaaGreatDoorFnsFnDependencyListFormatp0
import Derived.Test.YthcggkagkihamaaGreatDoorEngZJ
import Derived.Test.YthcggkagkihamaaGreatDoorChecked
set_option linter.unusedVariables false
set_option linter.unusedSimpArgs false
namespace Go.Eng
open Go Go.RowKit Go.Proofs
set_option maxHeartbeats 1000000 in
set_option maxRecDepth 10000 in
theorem c_impl_IsValidDependency (rs : Rels) (a0 : List (Int × (List (Int)))) (a1 : List (Int × (List (Int)))) (a2 : Bool) (a3 : Int) (a4 : Int) (hrs : rs.length ≤ 4611686018427387904) (hs : szS (fun (x : Int × (List (Int))) => (x.2).length) a0 + szS (fun (x : Int × (List (Int))) => (x.2).length) a1 ≤ 1048600) : Pu Tryz.prog 64 [.c (.t none (.sl 3 (enS3 encS encI encB) (rs))), .agg [.t none (.sl 2 (enS2 encI (enSl 1 encI)) (a0)), .t none (.sl 2 (enS2 encI (enSl 1 encI)) (a1)), .t none (.v (.bool (a2))), .t none (.v (.int .i64 (a3))), .t none (.v (.int .i64 (a4)))]] [] 0 (.c (.t none (.v (.bool (depOk rs a0 a1 a2 a3 a4))))) := by
 refine pu_enter Tryz.func64 rfl (Nat.le_of_ble_eq_true rfl) fun w S => ?_
 have g0 := sz_len (f := (fun (x : Int × (List (Int))) => (x.2).length)) (l := a0); have g1 := sz_len (f := (fun (x : Int × (List (Int))) => (x.2).length)) (l := a1); have v0 := setI_len (varsL a0); have v1 := varsL_size a0
 refine tsr ?_
 refine r_op (o_box 0 rfl rfl rfl rfl) ?_
 refine r_op (o_box 1 rfl rfl rfl rfl) ?_
 refine r_op oA ?_
 refine etr ?_
 refine r_op (oC 5) ?_
 refine r_op (o_alloc 2 (zs := [.slice none 0 0, .slice none 0 0, .bool (false), .int .i64 (0), .int .i64 (0)]) rfl rfl (by kernel_rfl) rfl) ?_
 refine r_op (oS 5) ?_
 refine r_end ?_
 refine t_seq ?_
 refine tsr ?_
 refine r_op oL ?_
 refine r_op (oF 0) ?_
 refine r_op oL ?_
 refine r_op (o_call 3 3 false (Go.Proofs.enters_of Tryz.func122 (by kernel_rfl) rfl) (c_impl_areAtoms (rs) (a0) (2) (by omega) (by omega)) rfl (.cons rfl (.c .t0) (.cons rfl (.c .t0) (.cons rfl (.c .t0) .nil))) rfl rfl rfl) ?_
 refine r_op (o_not rfl rfl) ?_
 refine r_end ?_
 refine t_cond rfl (fun h1 => ?_) (fun h1 => ?_)
 ·
  have h1' := (bnt h1)
  refine tsr ?_
  refine r_op oA ?_
  refine r_end ?_
  refine t_ret Tryz.func64 (.tmp rfl .nil) rfl fun E S w u hI hd => ?_
  refine post_mk hI hd ?_ trivial rfl rfl rfl <;> clear hI hd
  all_goals (refine scB ?_; clear hs g0 g1 v0 v1; unfold depOk; grind)
 ·
  have h1' := (bnf h1)
  refine t_skip ?_
  refine t_seq ?_
  refine tsr ?_
  refine r_op (oF 2) ?_
  refine r_op oL ?_
  refine r_end ?_
  refine t_cond rfl (fun h2 => ?_) (fun h2 => ?_)
  ·
   have h2' := h2
   refine tsr ?_
   refine r_op (oF 0) ?_
   refine r_op oL ?_
   refine r_op (o_call 3 4 false (Go.Proofs.enters_of Tryz.func123 (by kernel_rfl) rfl) (c_impl_Variables (a0) (by omega)) rfl (.cons rfl (.c .t0) .nil) rfl rfl rfl) ?_
   refine r_op oA ?_
   refine etr ?_
   refine r_op (oF 1) ?_
   refine r_op oL ?_
   refine r_op (o_len rfl rfl rfl) ?_
   refine r_op oB ?_
   refine r_op oM ?_
   refine r_guard rfl rfl rfl (fun g3 => ?_) (fun g3 => ?_)
   ·
    have g3' := of_decide_eq_true g3
    refine r_op (oF 3) ?_
    refine r_guard rfl rfl rfl (fun _ => ?_) (nc g3)
    refine r_op oL ?_
    refine r_guard rfl rfl rfl (fun _ => ?_) (nc g3)
    refine r_op (oF 4) ?_
    refine r_guard rfl rfl rfl (fun _ => ?_) (nc g3)
    refine r_op oL ?_
    refine r_guard rfl rfl rfl (fun _ => ?_) (nc g3)
    refine r_op oB ?_
    refine r_op (o_pickT rfl rfl g3 rfl) ?_
    refine r_op oM ?_
    refine r_guard rfl rfl rfl (fun g4 => ?_) (fun g4 => ?_)
    ·
     have g4' := of_decide_eq_true g4
     refine r_op oM ?_
     refine r_guard rfl rfl rfl (fun _ => ?_) (nc g4)
     refine r_op (oF 3) ?_
     refine r_guard rfl rfl rfl (fun _ => ?_) (nc g4)
     refine r_op oL ?_
     refine r_guard rfl rfl rfl (fun _ => ?_) (nc g4)
     refine r_op (o_call 4 4 false (Go.Proofs.enters_of Tryz.func124 (by kernel_rfl) rfl) (c_slices_Contains___int_int_ (setI (varsL (a0))) (a3) (by omega)) rfl (.cons rfl (.c (.own rfl)) (.cons rfl (.c .t0) .nil)) rfl rfl rfl) ?_
     refine r_op (o_pickT rfl rfl g4 rfl) ?_
     refine r_op oM ?_
     refine r_guard rfl rfl rfl (fun g5 => ?_) (fun g5 => ?_)
     ·
      have g5' := g5
      refine r_op oM ?_
      refine r_guard rfl rfl rfl (fun _ => ?_) (nc g5)
      refine r_op (oF 4) ?_
      refine r_guard rfl rfl rfl (fun _ => ?_) (nc g5)
      refine r_op oL ?_
      refine r_guard rfl rfl rfl (fun _ => ?_) (nc g5)
      refine r_op (o_call 4 4 false (Go.Proofs.enters_of Tryz.func124 (by kernel_rfl) rfl) (c_slices_Contains___int_int_ (setI (varsL (a0))) (a4) (by omega)) rfl (.cons rfl (.c (.own rfl)) (.cons rfl (.c .t0) .nil)) rfl rfl rfl) ?_
      refine r_op (o_pickT rfl rfl g5 rfl) ?_
      refine r_op oA ?_
      refine r_end ?_
      refine t_ret Tryz.func64 (.tmp rfl .nil) rfl fun E S w u hI hd => ?_
      refine post_mk hI hd ?_ trivial rfl rfl rfl <;> clear hI hd
      all_goals (refine scB ?_; clear hs g0 g1 v0 v1; unfold depOk; grind)
     ·
      have g5' := g5
      refine r_guard rfl rfl rfl (ncf g5) (fun _ => ?_)
      refine r_guard rfl rfl rfl (ncf g5) (fun _ => ?_)
      refine r_guard rfl rfl rfl (ncf g5) (fun _ => ?_)
      refine r_op (o_pickF rfl rfl g5 rfl) ?_
      refine r_op oA ?_
      refine r_end ?_
      refine t_ret Tryz.func64 (.tmp rfl .nil) rfl fun E S w u hI hd => ?_
      refine post_mk hI hd ?_ trivial rfl rfl rfl <;> clear hI hd
      all_goals (refine scB ?_; clear hs g0 g1 v0 v1; unfold depOk; grind)
    ·
     have g4' := of_decide_eq_false g4
     refine r_guard rfl rfl rfl (ncf g4) (fun _ => ?_)
     refine r_guard rfl rfl rfl (ncf g4) (fun _ => ?_)
     refine r_guard rfl rfl rfl (ncf g4) (fun _ => ?_)
     refine r_op (o_pickF rfl rfl g4 rfl) ?_
     refine r_op oM ?_
     refine r_guard rfl rfl rfl (ncf rfl) (fun _ => ?_)
     refine r_guard rfl rfl rfl (ncf rfl) (fun _ => ?_)
     refine r_guard rfl rfl rfl (ncf rfl) (fun _ => ?_)
     refine r_guard rfl rfl rfl (ncf rfl) (fun _ => ?_)
     refine r_op (o_pickF rfl rfl rfl rfl) ?_
     refine r_op oA ?_
     refine r_end ?_
     refine t_ret Tryz.func64 (.tmp rfl .nil) rfl fun E S w u hI hd => ?_
     refine post_mk hI hd ?_ trivial rfl rfl rfl <;> clear hI hd
     all_goals (refine scB ?_; clear hs g0 g1 v0 v1; unfold depOk; grind)
   ·
    have g3' := of_decide_eq_false g3
    refine r_guard rfl rfl rfl (ncf g3) (fun _ => ?_)
    refine r_guard rfl rfl rfl (ncf g3) (fun _ => ?_)
    refine r_guard rfl rfl rfl (ncf g3) (fun _ => ?_)
    refine r_guard rfl rfl rfl (ncf g3) (fun _ => ?_)
    refine r_op (o_pickF rfl rfl g3 rfl) ?_
    refine r_op oM ?_
    refine r_guard rfl rfl rfl (ncf rfl) (fun _ => ?_)
    refine r_guard rfl rfl rfl (ncf rfl) (fun _ => ?_)
    refine r_guard rfl rfl rfl (ncf rfl) (fun _ => ?_)
    refine r_guard rfl rfl rfl (ncf rfl) (fun _ => ?_)
    refine r_op (o_pickF rfl rfl rfl rfl) ?_
    refine r_op oM ?_
    refine r_guard rfl rfl rfl (ncf rfl) (fun _ => ?_)
    refine r_guard rfl rfl rfl (ncf rfl) (fun _ => ?_)
    refine r_guard rfl rfl rfl (ncf rfl) (fun _ => ?_)
    refine r_guard rfl rfl rfl (ncf rfl) (fun _ => ?_)
    refine r_op (o_pickF rfl rfl rfl rfl) ?_
    refine r_op oA ?_
    refine r_end ?_
    refine t_ret Tryz.func64 (.tmp rfl .nil) rfl fun E S w u hI hd => ?_
    refine post_mk hI hd ?_ trivial rfl rfl rfl <;> clear hI hd
    all_goals (refine scB ?_; clear hs g0 g1 v0 v1; unfold depOk; grind)
  ·
   have h2' := h2
   refine t_skip ?_
   refine tsr ?_
   refine r_op oL ?_
   refine r_op (oF 1) ?_
   refine r_op oL ?_
   refine r_op (o_call 3 3 false (Go.Proofs.enters_of Tryz.func122 (by kernel_rfl) rfl) (c_impl_areAtoms (rs) (a1) (2) (by omega) (by omega)) rfl (.cons rfl (.c .t0) (.cons rfl (.c .t0) (.cons rfl (.c .t0) .nil))) rfl rfl rfl) ?_
   refine r_op oM ?_
   refine r_guard rfl rfl rfl (fun g6 => ?_) (fun g6 => ?_)
   ·
    have g6' := g6
    refine r_op (oF 3) ?_
    refine r_guard rfl rfl rfl (fun _ => ?_) (nc g6)
    refine r_op oL ?_
    refine r_guard rfl rfl rfl (fun _ => ?_) (nc g6)
    refine r_op oB ?_
    refine r_op (o_pickT rfl rfl g6 rfl) ?_
    refine r_op oM ?_
    refine r_guard rfl rfl rfl (fun g7 => ?_) (fun g7 => ?_)
    ·
     have g7' := of_decide_eq_true g7
     refine r_op (oF 4) ?_
     refine r_guard rfl rfl rfl (fun _ => ?_) (nc g7)
     refine r_op oL ?_
     refine r_guard rfl rfl rfl (fun _ => ?_) (nc g7)
     refine r_op oB ?_
     refine r_op (o_pickT rfl rfl g7 rfl) ?_
     refine r_op oM ?_
     refine r_guard rfl rfl rfl (fun g8 => ?_) (fun g8 => ?_)
     ·
      have g8' := of_decide_eq_true g8
      refine r_op (oF 1) ?_
      refine r_guard rfl rfl rfl (fun _ => ?_) (nc g8)
      refine r_op oL ?_
      refine r_guard rfl rfl rfl (fun _ => ?_) (nc g8)
      refine r_op (o_makeFunc rfl (.cons rfl .nil)) ?_
      refine r_guard rfl rfl rfl (fun _ => ?_) (nc g8)
      refine r_op (o_call 3 3 false (Go.Proofs.enters_of Tryz.func125 (by kernel_rfl) rfl) (c_slices_ContainsFunc___impl_Atom_impl_Atom_ (a1) (126) ([((enSl 3 (enS3 encS encI encB)) (rs), 1)]) (fun (x0 : Int × (List (Int))) => srcA (rs) ((x0.1), (x0.2))) (by omega) (fun x0 mx0 => ⟨Go.Proofs.enters_of Tryz.func126 (by kernel_rfl) rfl, c_impl_IsValidDependency_1 (x0.1) (x0.2) (rs) (by exact atoms_at (by assumption) (by assumption))⟩)) rfl (.cons rfl (.c .t0) (.cons rfl (.c (.clo (.cons rfl rfl rfl (.cons .t .nil) .nil))) .nil)) rfl rfl rfl) ?_
      refine r_guard rfl rfl rfl (fun _ => ?_) (nc g8)
      refine r_op (o_not rfl rfl) ?_
      refine r_op (o_pickT rfl rfl g8 rfl) ?_
      refine r_op oA ?_
      refine r_end ?_
      refine t_ret Tryz.func64 (.tmp rfl .nil) rfl fun E S w u hI hd => ?_
      refine post_mk hI hd ?_ trivial rfl rfl rfl <;> clear hI hd
      all_goals (refine scB ?_; clear hs g0 g1 v0 v1; unfold depOk; grind)
     ·
      have g8' := of_decide_eq_false g8
      refine r_guard rfl rfl rfl (ncf g8) (fun _ => ?_)
      refine r_guard rfl rfl rfl (ncf g8) (fun _ => ?_)
      refine r_guard rfl rfl rfl (ncf g8) (fun _ => ?_)
      refine r_guard rfl rfl rfl (ncf g8) (fun _ => ?_)
      refine r_op (o_pickF rfl rfl g8 rfl) ?_
      refine r_op oA ?_
      refine r_end ?_
      refine t_ret Tryz.func64 (.tmp rfl .nil) rfl fun E S w u hI hd => ?_
      refine post_mk hI hd ?_ trivial rfl rfl rfl <;> clear hI hd
      all_goals (refine scB ?_; clear hs g0 g1 v0 v1; unfold depOk; grind)
    ·
     have g7' := of_decide_eq_false g7
     refine r_guard rfl rfl rfl (ncf g7) (fun _ => ?_)
     refine r_guard rfl rfl rfl (ncf g7) (fun _ => ?_)
     refine r_op (o_pickF rfl rfl g7 rfl) ?_
     refine r_op oM ?_
     refine r_guard rfl rfl rfl (ncf rfl) (fun _ => ?_)
     refine r_guard rfl rfl rfl (ncf rfl) (fun _ => ?_)
     refine r_guard rfl rfl rfl (ncf rfl) (fun _ => ?_)
     refine r_guard rfl rfl rfl (ncf rfl) (fun _ => ?_)
     refine r_guard rfl rfl rfl (ncf rfl) (fun _ => ?_)
     refine r_op (o_pickF rfl rfl rfl rfl) ?_
     refine r_op oA ?_
     refine r_end ?_
     refine t_ret Tryz.func64 (.tmp rfl .nil) rfl fun E S w u hI hd => ?_
     refine post_mk hI hd ?_ trivial rfl rfl rfl <;> clear hI hd
     all_goals (refine scB ?_; clear hs g0 g1 v0 v1; unfold depOk; grind)
   ·
    have g6' := g6
    refine r_guard rfl rfl rfl (ncf g6) (fun _ => ?_)
    refine r_guard rfl rfl rfl (ncf g6) (fun _ => ?_)
    refine r_op (o_pickF rfl rfl g6 rfl) ?_
    refine r_op oM ?_
    refine r_guard rfl rfl rfl (ncf rfl) (fun _ => ?_)
    refine r_guard rfl rfl rfl (ncf rfl) (fun _ => ?_)
    refine r_guard rfl rfl rfl (ncf rfl) (fun _ => ?_)
    refine r_op (o_pickF rfl rfl rfl rfl) ?_
    refine r_op oM ?_
    refine r_guard rfl rfl rfl (ncf rfl) (fun _ => ?_)
    refine r_guard rfl rfl rfl (ncf rfl) (fun _ => ?_)
    refine r_guard rfl rfl rfl (ncf rfl) (fun _ => ?_)
    refine r_guard rfl rfl rfl (ncf rfl) (fun _ => ?_)
    refine r_guard rfl rfl rfl (ncf rfl) (fun _ => ?_)
    refine r_op (o_pickF rfl rfl rfl rfl) ?_
    refine r_op oA ?_
    refine r_end ?_
    refine t_ret Tryz.func64 (.tmp rfl .nil) rfl fun E S w u hI hd => ?_
    refine post_mk hI hd ?_ trivial rfl rfl rfl <;> clear hI hd
    all_goals (refine scB ?_; clear hs g0 g1 v0 v1; unfold depOk; grind)
set_option maxHeartbeats 1000000 in
set_option maxRecDepth 10000 in
theorem c_impl_AreValidDependencies_1 (a0 : List (Int × (List (Int)))) (a1 : List (Int × (List (Int)))) (a2 : Bool) (a3 : Int) (a4 : Int) (rs : Rels) (hrs : rs.length ≤ 4611686018427387904) (hs : szS (fun (x : Int × (List (Int))) => (x.2).length) a0 + szS (fun (x : Int × (List (Int))) => (x.2).length) a1 ≤ 1048600) : Pu Tryz.prog 63 [.agg [.t none (.sl 2 (enS2 encI (enSl 1 encI)) (a0)), .t none (.sl 2 (enS2 encI (enSl 1 encI)) (a1)), .t none (.v (.bool (a2))), .t none (.v (.int .i64 (a3))), .t none (.v (.int .i64 (a4)))], .c (.pel none ((enSl 3 (enS3 encS encI encB)) (rs)) 1)] [] 0 (.c (.t none (.v (.bool (badD rs (a0, a1, a2, a3, a4)))))) := by
 refine pu_enter Tryz.func63 rfl (Nat.le_of_ble_eq_true rfl) fun w S => ?_
 refine tsr ?_
 refine r_op (o_box 0 rfl rfl rfl rfl) ?_
 refine r_op oA ?_
 refine etr ?_
 refine r_op (o_load1 rfl (by kernel_rfl) rfl rfl) ?_
 refine r_op (oC 5) ?_
 refine r_op (o_call 1 1 false (Go.Proofs.enters_of Tryz.func64 (by kernel_rfl) rfl) (c_impl_IsValidDependency (rs) (a0) (a1) (a2) (a3) (a4) (by omega) (by omega)) rfl (.cons rfl (.c .t0) (.cons rfl (.agg (.cons .t0 (.cons .t0 (.cons .t0 (.cons .t0 (.cons .t0 .nil)))))) .nil)) rfl rfl rfl) ?_
 refine r_op (o_not rfl rfl) ?_
 refine r_op oA ?_
 refine r_end ?_
 refine t_ret Tryz.func63 (.tmp rfl .nil) rfl fun E S w u hI hd => ?_
 refine post_mk hI hd ?_ trivial rfl rfl rfl <;> clear hI hd
 all_goals (rfl)
set_option maxHeartbeats 1000000 in
set_option maxRecDepth 10000 in
theorem c_slices_IndexFunc___impl_Dependency_impl_Dependency_ (l : List ((List (Int × (List (Int)))) × (List (Int × (List (Int)))) × Bool × Int × Int)) (f : Nat) (cs : List ((Nat → T) × Nat)) (p : (List (Int × (List (Int)))) × (List (Int × (List (Int)))) × Bool × Int × Int → Bool) (hl : l.length ≤ 9223372036854775807) (hf : ∀ x ∈ l, Fu Tryz.prog f ([.agg [.t none (.sl 2 (enS2 encI (enSl 1 encI)) (x.1)), .t none (.sl 2 (enS2 encI (enSl 1 encI)) (x.2.1)), .t none (.v (.bool (x.2.2.1))), .t none (.v (.int .i64 (x.2.2.2.1))), .t none (.v (.int .i64 (x.2.2.2.2)))]] ++ pels cs) (.c (.t none (.v (.bool (p x)))))) : Pu Tryz.prog 121 [.c (.t none (.sl 5 (enS5 (enSl 2 (enS2 encI (enSl 1 encI))) (enSl 2 (enS2 encI (enSl 1 encI))) encB encI encI) (l))), .c (.fv f cs)] [] 0 (.c (.t none (.v (.int .i64 (idxI p l))))) := by
 refine pu_enter Tryz.func121 rfl (Nat.le_of_ble_eq_true rfl) fun w S => ?_
 refine tsr ?_
 refine r_op oA ?_
 refine r_end ?_
 refine t_seq ?_
 refine tsr ?_
 refine r_op oM ?_
 refine r_op (o_len rfl rfl rfl) ?_
 refine r_op oM ?_
 refine r_end ?_
 refine t_block ?_
 refine t_loopL (fun m => ⟨[(0, some (.c (.t none (.sl 5 (enS5 (enSl 2 (enS2 encI (enSl 1 encI))) (enSl 2 (enS2 encI (enSl 1 encI))) encB encI encI) (l))))), (1, some (.c (.fv f cs))), (7, some (.c (.t none (.v (.int .i64 (((l).length : Int))))))), (8, some (.c (.t none (.v (.int .i64 ((m : Int)))))))], [], 0⟩ : Nat → St) (fun m => m ≤ l.length ∧ ∀ j z, j < m → l[j]? = some z → p z = false) (fun m => l.length - m) 0 ⟨⟨rfl, ⟨rfl, ⟨rfl, ⟨rfl, trivial⟩⟩⟩⟩, trivial, rfl⟩ (by exact ⟨Nat.zero_le _, fun j z h => by omega⟩) ?_
 rintro m hI ih0
 try dsimp only at hI ih0
 obtain ⟨i1, i2⟩ := hI
 refine tsr ?_
 refine r_op oB ?_
 refine r_end ?_
 refine t_seq ?_
 refine t_cond rfl (fun h1 => ?_) (fun h1 => ?_)
 ·
  have h1' := of_decide_eq_true h1
  refine t_skip ?_
  refine t_seq ?_
  refine t_block ?_
  refine tsr ?_
  refine r_op oM ?_
  refine r_op oA ?_
  refine etr ?_
  refine r_op oM ?_
  refine r_op oM ?_
  refine r_op oM ?_
  obtain ⟨z2, hz3, b4⟩ := at_get (xs := l) (n := (m : Int)) (by omega) (by omega)
  refine r_op (o_index rfl (by kernel_rfl) rfl rfl b4 hz3) ?_
  refine r_op (o_loadA rfl (n := 5) (by kernel_rfl) (by kernel_rfl) rfl rfl) ?_
  refine r_op (o_callv 0 0 false (hf z2 (List.mem_of_getElem? (by assumption))).1 (hf z2 (List.mem_of_getElem? (by assumption))).2 rfl rfl (.c .fv) (.cons rfl (.agg (.cons .t0 (.cons .t0 (.cons .t0 (.cons .t0 (.cons .t0 .nil)))))) .nil) rfl rfl rfl) ?_
  refine r_end ?_
  refine t_cond rfl (fun h5 => ?_) (fun h5 => ?_)
  ·
   have h5' := h5
   refine tsr ?_
   refine r_op oM ?_
   refine r_op oA ?_
   refine r_end ?_
   refine t_ret Tryz.func121 (.tmp rfl .nil) rfl fun E S w u hI hd => ?_
   refine post_mk hI hd ?_ trivial rfl rfl rfl <;> clear hI hd <;> (try clear ih0)
   all_goals (rw [idx_hit i2 (by assumption) (by assumption)])
  ·
   have h5' := h5
   refine t_skip ?_
   refine t_endblock ?_
   refine t_region ?_
   refine r_op oB ?_
   refine r_op oM ?_
   refine r_end ?_
   refine t_le ?_ (ih0 (m + 1) (by (try dsimp only); omega) (by (try dsimp only); exact ⟨by omega, no_step i2 (by assumption) rfl (by assumption)⟩))
   exact ⟨⟨rfl, ⟨rfl, ⟨rfl, ⟨(eqI (wr64 (by omega) (by omega))), trivial⟩⟩⟩⟩, trivial, rfl⟩
 ·
  have h1' := of_decide_eq_false h1
  refine t_exit rfl ?_
  refine tsr ?_
  refine r_op oA ?_
  refine r_end ?_
  refine t_ret Tryz.func121 (.tmp rfl .nil) rfl fun E S w u hI hd => ?_
  refine post_mk hI hd ?_ trivial rfl rfl rfl <;> clear hI hd <;> (try clear ih0)
  all_goals (rw [idx_none i2 (by omega)])
set_option maxHeartbeats 1000000 in
set_option maxRecDepth 10000 in
theorem c_slices_ContainsFunc___impl_Dependency_impl_Dependency_ (l : List ((List (Int × (List (Int)))) × (List (Int × (List (Int)))) × Bool × Int × Int)) (f : Nat) (cs : List ((Nat → T) × Nat)) (p : (List (Int × (List (Int)))) × (List (Int × (List (Int)))) × Bool × Int × Int → Bool) (hl : l.length ≤ 9223372036854775807) (hf : ∀ x ∈ l, Fu Tryz.prog f ([.agg [.t none (.sl 2 (enS2 encI (enSl 1 encI)) (x.1)), .t none (.sl 2 (enS2 encI (enSl 1 encI)) (x.2.1)), .t none (.v (.bool (x.2.2.1))), .t none (.v (.int .i64 (x.2.2.2.1))), .t none (.v (.int .i64 (x.2.2.2.2)))]] ++ pels cs) (.c (.t none (.v (.bool (p x)))))) : Pu Tryz.prog 62 [.c (.t none (.sl 5 (enS5 (enSl 2 (enS2 encI (enSl 1 encI))) (enSl 2 (enS2 encI (enSl 1 encI))) encB encI encI) (l))), .c (.fv f cs)] [] 0 (.c (.t none (.v (.bool (l.any p))))) := by
 refine pu_enter Tryz.func62 rfl (Nat.le_of_ble_eq_true rfl) fun w S => ?_
 refine tsr ?_
 refine r_op oA ?_
 refine etr ?_
 refine r_op oM ?_
 refine r_op oM ?_
 refine r_op (o_call 0 0 false (Go.Proofs.enters_of Tryz.func121 (by kernel_rfl) rfl) (c_slices_IndexFunc___impl_Dependency_impl_Dependency_ (l) (f) (cs) (p) (by omega) (hf)) rfl (.cons rfl (.c .t0) (.cons rfl (.c .fv) .nil)) rfl rfl rfl) ?_
 refine r_op oB ?_
 refine r_op oA ?_
 refine r_end ?_
 refine t_ret Tryz.func62 (.tmp rfl .nil) rfl fun E S w u hI hd => ?_
 refine post_mk hI hd ?_ trivial rfl rfl rfl <;> clear hI hd
 all_goals (exact scB idx_any)
set_option maxHeartbeats 1000000 in
set_option maxRecDepth 10000 in
theorem c_impl_AreValidDependencies (rs : Rels) (l : List Dep) (hrs : rs.length ≤ 4611686018427387904) (hs : szS (fun (x : (List (Int × (List (Int)))) × (List (Int × (List (Int)))) × Bool × Int × Int) => (szS (fun (x : Int × (List (Int))) => (x.2).length) (x.1)) + (szS (fun (x : Int × (List (Int))) => (x.2).length) (x.2.1))) l ≤ 1048600) : Pu Tryz.prog 26 [.c (.t none (.sl 3 (enS3 encS encI encB) (rs))), .c (.t none (.sl 5 (enS5 (enSl 2 (enS2 encI (enSl 1 encI))) (enSl 2 (enS2 encI (enSl 1 encI))) encB encI encI) (l)))] [] 0 (.c (.t none (.v (.bool (depsOk rs l))))) := by
 refine pu_enter Tryz.func26 rfl (Nat.le_of_ble_eq_true rfl) fun w S => ?_
 have gl := sz_len (f := (fun (x : (List (Int × (List (Int)))) × (List (Int × (List (Int)))) × Bool × Int × Int) => (szS (fun (x : Int × (List (Int))) => (x.2).length) (x.1)) + (szS (fun (x : Int × (List (Int))) => (x.2).length) (x.2.1)))) (l := l)
 refine tsr ?_
 refine r_op (o_box 0 rfl rfl rfl rfl) ?_
 refine r_op oA ?_
 refine etr ?_
 refine r_op oL ?_
 refine r_op (o_call 1 1 false (Go.Proofs.enters_of Tryz.func52 (by kernel_rfl) rfl) (c_impl_AreValidRelations (rs) (by omega)) rfl (.cons rfl (.c .t0) .nil) rfl rfl rfl) ?_
 refine r_op oM ?_
 refine r_guard rfl rfl rfl (fun g1 => ?_) (fun g1 => ?_)
 ·
  have g1' := g1
  refine r_op oM ?_
  refine r_guard rfl rfl rfl (fun _ => ?_) (nc g1)
  refine r_op (o_len rfl rfl rfl) ?_
  refine r_guard rfl rfl rfl (fun _ => ?_) (nc g1)
  refine r_op oB ?_
  refine r_op (o_pickT rfl rfl g1 rfl) ?_
  refine r_op oM ?_
  refine r_guard rfl rfl rfl (fun g2 => ?_) (fun g2 => ?_)
  ·
   have g2' := of_decide_eq_true g2
   refine r_op oM ?_
   refine r_guard rfl rfl rfl (fun _ => ?_) (nc g2)
   refine r_op (o_makeFunc rfl (.cons rfl .nil)) ?_
   refine r_guard rfl rfl rfl (fun _ => ?_) (nc g2)
   refine r_op (o_call 1 1 false (Go.Proofs.enters_of Tryz.func62 (by kernel_rfl) rfl) (c_slices_ContainsFunc___impl_Dependency_impl_Dependency_ (l) (63) ([((enSl 3 (enS3 encS encI encB)) (rs), 1)]) (fun (x0 : (List (Int × (List (Int)))) × (List (Int × (List (Int)))) × Bool × Int × Int) => badD (rs) ((x0.1), (x0.2.1), (x0.2.2.1), (x0.2.2.2.1), (x0.2.2.2.2))) (by omega) (fun x0 mx0 => ⟨Go.Proofs.enters_of Tryz.func63 (by kernel_rfl) rfl, c_impl_AreValidDependencies_1 (x0.1) (x0.2.1) (x0.2.2.1) (x0.2.2.2.1) (x0.2.2.2.2) (rs) (by omega) (by (have e1 := sz_mem (f := (fun (x : (List (Int × (List (Int)))) × (List (Int × (List (Int)))) × Bool × Int × Int) => (szS (fun (x : Int × (List (Int))) => (x.2).length) (x.1)) + (szS (fun (x : Int × (List (Int))) => (x.2).length) (x.2.1)))) (l := l) (by assumption); (try dsimp only at e1); omega))⟩)) rfl (.cons rfl (.c .t0) (.cons rfl (.c (.clo (.cons rfl rfl rfl (.cons .t .nil) .nil))) .nil)) rfl rfl rfl) ?_
   refine r_guard rfl rfl rfl (fun _ => ?_) (nc g2)
   refine r_op (o_not rfl rfl) ?_
   refine r_op (o_pickT rfl rfl g2 rfl) ?_
   refine r_op oA ?_
   refine r_end ?_
   refine t_ret Tryz.func26 (.tmp rfl .nil) rfl fun E S w u hI hd => ?_
   refine post_mk hI hd ?_ trivial rfl rfl rfl <;> clear hI hd
   all_goals (refine scB ?_; clear hs gl; unfold depsOk; grind)
  ·
   have g2' := of_decide_eq_false g2
   refine r_guard rfl rfl rfl (ncf g2) (fun _ => ?_)
   refine r_guard rfl rfl rfl (ncf g2) (fun _ => ?_)
   refine r_guard rfl rfl rfl (ncf g2) (fun _ => ?_)
   refine r_op (o_pickF rfl rfl g2 rfl) ?_
   refine r_op oA ?_
   refine r_end ?_
   refine t_ret Tryz.func26 (.tmp rfl .nil) rfl fun E S w u hI hd => ?_
   refine post_mk hI hd ?_ trivial rfl rfl rfl <;> clear hI hd
   all_goals (refine scB ?_; clear hs gl; unfold depsOk; grind)
 ·
  have g1' := g1
  refine r_guard rfl rfl rfl (ncf g1) (fun _ => ?_)
  refine r_guard rfl rfl rfl (ncf g1) (fun _ => ?_)
  refine r_op (o_pickF rfl rfl g1 rfl) ?_
  refine r_op oM ?_
  refine r_guard rfl rfl rfl (ncf rfl) (fun _ => ?_)
  refine r_guard rfl rfl rfl (ncf rfl) (fun _ => ?_)
  refine r_guard rfl rfl rfl (ncf rfl) (fun _ => ?_)
  refine r_guard rfl rfl rfl (ncf rfl) (fun _ => ?_)
  refine r_op (o_pickF rfl rfl rfl rfl) ?_
  refine r_op oA ?_
  refine r_end ?_
  refine t_ret Tryz.func26 (.tmp rfl .nil) rfl fun E S w u hI hd => ?_
  refine post_mk hI hd ?_ trivial rfl rfl rfl <;> clear hI hd
  all_goals (refine scB ?_; clear hs gl; unfold depsOk; grind)
def Tryz.laysI_ren : Go.Shelf.Ren := ⟨fun | 171 => 101 | 243 => 158 | 246 => 197 | 283 => 230 | 284 => 231 | 285 => 232 | 286 => 233 | 129 => 229 | 317 => 256 | 318 => 257 | 319 => 258 | 320 => 259 | 337 => 267 | 338 => 268 | n => n, fun | 3 => 3 | 9 => 9 | 2 => 2 | 4 => 4 | 171 => 219 | 0 => 0 | 53 => 218 | 37 => 22 | 5 => 5 | 173 => 221 | 212 => 240 | 51 => 216 | 20 => 20 | 213 => 241 | 46 => 170 | 232 => 257 | 233 => 258 | n => n, fun | 17 => 1 | 18 => 4 | 19 => 5 | n => n⟩
theorem Tryz.laysI : Go.Proofs.Lays.n171 Tryz.prog Tryz.laysI_ren := {
 mixed := by kernel_rfl
 f129 := Tryz.func229.trans (congrArg some (by kernel_rfl))
 f171 := Tryz.func101.trans (congrArg some (by kernel_rfl))
 f243 := Tryz.func158.trans (congrArg some (by kernel_rfl))
 f246 := Tryz.func197.trans (congrArg some (by kernel_rfl))
 f283 := Tryz.func230.trans (congrArg some (by kernel_rfl))
 f284 := Tryz.func231.trans (congrArg some (by kernel_rfl))
 f285 := Tryz.func232.trans (congrArg some (by kernel_rfl))
 f286 := Tryz.func233.trans (congrArg some (by kernel_rfl))
 f317 := Tryz.func256.trans (congrArg some (by kernel_rfl))
 f318 := Tryz.func257.trans (congrArg some (by kernel_rfl))
 f319 := Tryz.func258.trans (congrArg some (by kernel_rfl))
 f320 := Tryz.func259.trans (congrArg some (by kernel_rfl))
 f337 := Tryz.func267.trans (congrArg some (by kernel_rfl))
 f338 := Tryz.func268.trans (congrArg some (by kernel_rfl))
 t0 := Tryz.underlying0
 a0 := Tryz.isAgg0
 z0 := Tryz.sizeOf0
 v0 := Tryz.zeroValue0
 t2 := Tryz.underlying2
 a2 := Tryz.isAgg2
 z2 := Tryz.sizeOf2
 v2 := Tryz.zeroValue2
 t3 := Tryz.underlying3
 a3 := Tryz.isAgg3
 z3 := Tryz.sizeOf3
 v3 := Tryz.zeroValue3
 t4 := Tryz.underlying4
 a4 := Tryz.isAgg4
 z4 := Tryz.sizeOf4
 v4 := Tryz.zeroValue4
 t5 := Tryz.underlying5
 a5 := Tryz.isAgg5
 z5 := Tryz.sizeOf5
 v5 := Tryz.zeroValue5
 t9 := Tryz.underlying9
 a9 := Tryz.isAgg9
 z9 := Tryz.sizeOf9
 v9 := Tryz.zeroValue9
 t20 := Tryz.underlying20
 a20 := Tryz.isAgg20
 z20 := Tryz.sizeOf20
 v20 := Tryz.zeroValue20
 t37 := Tryz.underlying22
 a37 := Tryz.isAgg22
 z37 := Tryz.sizeOf22
 v37 := Tryz.zeroValue22
 t46 := Tryz.underlying170
 a46 := Tryz.isAgg170
 z46 := Tryz.sizeOf170
 v46 := Tryz.zeroValue170
 t51 := Tryz.underlying216
 a51 := Tryz.isAgg216
 z51 := Tryz.sizeOf216
 v51 := Tryz.zeroValue216
 t53 := Tryz.underlying218
 a53 := Tryz.isAgg218
 z53 := Tryz.sizeOf218
 v53 := Tryz.zeroValue218
 t171 := Tryz.underlying219
 a171 := Tryz.isAgg219
 z171 := Tryz.sizeOf219
 v171 := Tryz.zeroValue219
 t173 := Tryz.underlying221
 a173 := Tryz.isAgg221
 z173 := Tryz.sizeOf221
 v173 := Tryz.zeroValue221
 t212 := Tryz.underlying240
 a212 := Tryz.isAgg240
 z212 := Tryz.sizeOf240
 v212 := Tryz.zeroValue240
 t213 := Tryz.underlying241
 a213 := Tryz.isAgg241
 z213 := Tryz.sizeOf241
 t232 := Tryz.underlying257
 a232 := Tryz.isAgg257
 z232 := Tryz.sizeOf257
 v232 := Tryz.zeroValue257
 t233 := Tryz.underlying258
 a233 := Tryz.isAgg258
 z233 := Tryz.sizeOf258
 v233 := Tryz.zeroValue258
 g17 := by kernel_rfl
 g18 := by kernel_rfl
 g19 := by kernel_rfl }
set_option maxHeartbeats 1000000 in
set_option maxRecDepth 10000 in
theorem c_strconv_Itoa (i : Int) (hi : 0 ≤ i ∧ i < 100) : Pu Tryz.prog 101 [.c (.t none (.v (.int .i64 (i))))] [] 0 (.c (.t none (.v (.string (mkS (fmtN i)))))) := by
 exact (fmtN_dec (n := i) hi.1) ▸ itoa_pu Tryz.laysI i hi
set_option maxHeartbeats 1000000 in
set_option maxRecDepth 10000 in
theorem c_impl_FormatInt (i : Int) (hi : 0 ≤ i ∧ i < 100) : Pu Tryz.prog 44 [.c (.t none (.v (.int .i64 (i))))] [] 0 (.c (.t none (.v (.string (mkS (fmtN i)))))) := by
 refine pu_enter Tryz.func44 rfl (Nat.le_of_ble_eq_true rfl) fun w S => ?_
 refine tsr ?_
 refine r_op oA ?_
 refine etr ?_
 refine r_op oM ?_
 refine r_op (o_call 0 0 false (Go.Proofs.enters_of Tryz.func101 (by kernel_rfl) rfl) (c_strconv_Itoa (i) (by omega)) rfl (.cons rfl (.c .t0) .nil) rfl rfl rfl) ?_
 refine r_op oA ?_
 refine r_end ?_
 refine t_ret Tryz.func44 (.tmp rfl .nil) rfl fun E S w u hI hd => ?_
 refine post_mk hI hd ?_ trivial rfl rfl rfl <;> clear hI hd
 all_goals (rfl)
set_option maxHeartbeats 1000000 in
set_option maxRecDepth 10000 in
theorem c_impl_FormatTerm (t : Int) (ht : okI t) : Pu Tryz.prog 116 [.c (.t none (.v (.int .i64 (t))))] [] 0 (.c (.t none (.v (.string (mkS (fmtT t)))))) := by
 refine pu_enter Tryz.func116 rfl (Nat.le_of_ble_eq_true rfl) fun w S => ?_
 have h1 := ht.1; have h2 := ht.2
 refine tsr ?_
 refine r_op oA ?_
 refine r_end ?_
 refine t_seq ?_
 refine t_block ?_
 refine tsr ?_
 refine r_op oM ?_
 refine r_op (o_call 0 0 false (Go.Proofs.enters_of Tryz.func157 (by kernel_rfl) rfl) (c_impl_within (t) (0) (4)) rfl (.cons rfl (.c .t0) (.cons rfl (.c .t0) (.cons rfl (.c .t0) .nil))) rfl rfl rfl) ?_
 refine r_op oA ?_
 refine r_end ?_
 refine t_cond rfl (fun h1 => ?_) (fun h1 => ?_)
 ·
  have h1' := of_decide_eq_true h1
  refine tsr ?_
  refine r_op oM ?_
  refine r_op oM ?_
  refine r_op oB ?_
  refine r_op (o_subS rfl Tryz.underlying9 rfl rfl rfl (by omega) (by (rw [wr64 (by omega) (by omega)]; omega)) (by (rw [wr64 (by omega) (by omega)]; simp; omega))) ?_
  refine r_op oA ?_
  refine r_end ?_
  refine t_ret Tryz.func116 (.tmp rfl .nil) rfl fun E S w u hI hd => ?_
  refine post_mk hI hd ?_ trivial rfl rfl rfl <;> clear hI hd
  all_goals (refine scS ?_; (exact fmtT_var (by omega)))
 ·
  have h1' := of_decide_eq_false h1
  refine tsr ?_
  refine r_op oM ?_
  refine r_op (o_call 0 0 false (Go.Proofs.enters_of Tryz.func157 (by kernel_rfl) rfl) (c_impl_within (t) (-10) (-1)) rfl (.cons rfl (.c .t0) (.cons rfl (.c .t0) (.cons rfl (.c .t0) .nil))) rfl rfl rfl) ?_
  refine r_op oA ?_
  refine r_end ?_
  refine t_cond rfl (fun h2 => ?_) (fun h2 => ?_)
  ·
   have h2' := of_decide_eq_true h2
   refine tsr ?_
   refine r_op oM ?_
   refine r_op oB ?_
   refine r_op (o_call 0 0 false (Go.Proofs.enters_of Tryz.func44 (by kernel_rfl) rfl) (c_impl_FormatInt (IntKind.i64.wrap ((-1) - t)) (by (rw [wr64 (by omega) (by omega)]; omega))) rfl (.cons rfl (.c .t0) .nil) rfl rfl rfl) ?_
   refine r_op oA ?_
   refine r_end ?_
   refine t_ret Tryz.func116 (.tmp rfl .nil) rfl fun E S w u hI hd => ?_
   refine post_mk hI hd ?_ trivial rfl rfl rfl <;> clear hI hd
   all_goals (refine scS ?_; (exact fmtT_con (by omega)))
  ·
   have h2' := of_decide_eq_false h2
   refine t_skip ?_
   refine t_endblock ?_
   refine tsr ?_
   refine r_op oA ?_
   refine r_end ?_
   refine t_ret Tryz.func116 (.tmp rfl .nil) rfl fun E S w u hI hd => ?_
   refine post_mk hI hd ?_ trivial rfl rfl rfl <;> clear hI hd
   all_goals (refine scS ?_; (exact fmtT_no (by omega) (by omega)))
set_option maxHeartbeats 1000000 in
set_option maxRecDepth 10000 in
theorem c_impl_FormatAtom (rs : List (List UInt8 × Int × Bool)) (r : Int) (ts : List Int) (hrs : rs.length ≤ 4611686018427387904) (hts : ts.length ≤ 4611686018427387904) (ho : ∀ x ∈ ts, okI x) : Pu Tryz.prog 170 [.c (.t none (.sl 3 (enS3 encS encI encB) (rs))), .agg [.t none (.v (.int .i64 (r))), .t none (.sl 1 encI (ts))]] [] 0 (.c (.t none (.v (.string (mkS (fmtA rs (r, ts))))))) := by
 refine pu_enter Tryz.func170 rfl (Nat.le_of_ble_eq_true rfl) fun w S => ?_
 have ar := @atomOk_rels rs r ts
 refine tsr ?_
 refine r_op (o_box 0 rfl rfl rfl rfl) ?_
 refine r_op oA ?_
 refine r_end ?_
 refine t_seq ?_
 refine tsr ?_
 refine r_op oM ?_
 refine r_op (oC 2) ?_
 refine r_op (o_call 1 1 false (Go.Proofs.enters_of Tryz.func175 (by kernel_rfl) rfl) (c_impl_IsValidAtom (rs) (r) (ts) (by omega) (by omega)) rfl (.cons rfl (.c .t0) (.cons rfl (.agg (.cons .t0 (.cons .t0 .nil))) .nil)) rfl rfl rfl) ?_
 refine r_op (o_not rfl rfl) ?_
 refine r_end ?_
 refine t_cond rfl (fun h1 => ?_) (fun h1 => ?_)
 ·
  have h1' := (bnt h1)
  refine tsr ?_
  refine r_op oA ?_
  refine r_end ?_
  refine t_ret Tryz.func170 (.tmp rfl .nil) rfl fun E S w u hI hd => ?_
  refine post_mk hI hd ?_ trivial rfl rfl rfl <;> clear hI hd <;> (try clear ih0)
  all_goals (refine scS ?_; (exact fmtA_no (by assumption)))
 ·
  have h1' := (bnf h1)
  refine t_skip ?_
  refine tsr ?_
  refine r_op oM ?_
  refine r_op (oF 0) ?_
  refine r_op oL ?_
  obtain ⟨z2, hz3, b4⟩ := at_get (xs := rs) (n := r) (by (have q := ar (by assumption); omega)) (by (have q := ar (by assumption); omega))
  refine r_op (o_index rfl (by kernel_rfl) rfl rfl b4 hz3) ?_
  refine r_op (o_field rfl (off := 0) (by kernel_rfl) rfl) ?_
  refine r_op (o_load1 rfl (by kernel_rfl) rfl rfl) ?_
  refine r_op oA ?_
  refine r_end ?_
  refine t_seq ?_
  refine tsr ?_
  refine r_op (oF 1) ?_
  refine r_op oL ?_
  refine r_op (o_len rfl rfl rfl) ?_
  refine r_op oM ?_
  refine r_end ?_
  refine t_block ?_
  refine t_loopL (fun m => ⟨[(4, some (.c (.t none (.v (.string (mkS (([] : List UInt8)))))))), (5, some (.c (.t none (.v (.string (mkS (z2.1 ++ (ts.take m).flatMap fmtT))))))), (19, some (.c (.t none (.sl 1 encI (ts))))), (20, some (.c (.t none (.v (.int .i64 (((ts).length : Int))))))), (21, some (.c (.t none (.v (.int .i64 ((m : Int)))))))], [(0, some (.box [.t none (.v (.int .i64 (r))), .t none (.sl 1 encI (ts))]))], 1⟩ : Nat → St) (fun m => m ≤ ts.length) (fun m => ts.length - m) 0 ⟨⟨rfl, ⟨(eqS (by simp)), ⟨rfl, ⟨rfl, ⟨rfl, trivial⟩⟩⟩⟩⟩, ⟨rfl, trivial⟩, rfl⟩ (by exact Nat.zero_le _) ?_
  rintro m hI ih0
  try dsimp only at hI ih0
  have i1 := hI; have a1 := ar (by assumption); have nl := name_len a1.1 hz3; have fl := flatT_len (ts.take m); have tl : (ts.take m).length ≤ 3 := (by rw [List.length_take]; omega); have cl : (z2.1 ++ (ts.take m).flatMap fmtT).length ≤ 7 := (by rw [List.length_append]; omega)
  refine tsr ?_
  refine r_op oB ?_
  refine r_end ?_
  refine t_seq ?_
  refine t_cond rfl (fun h5 => ?_) (fun h5 => ?_)
  ·
   have h5' := of_decide_eq_true h5
   refine t_skip ?_
   refine t_seq ?_
   refine t_block ?_
   refine tsr ?_
   obtain ⟨z6, hz7, b8⟩ := at_get (xs := ts) (n := (m : Int)) (by omega) (by omega)
   refine r_op (o_index rfl (by kernel_rfl) rfl rfl b8 hz7) ?_
   refine r_op (o_load1 rfl (by kernel_rfl) rfl rfl) ?_
   refine r_op oA ?_
   refine rtr ?_
   refine r_op oM ?_
   refine r_op oM ?_
   refine r_op (o_call 1 1 false (Go.Proofs.enters_of Tryz.func116 (by kernel_rfl) rfl) (c_impl_FormatTerm (z6) (by exact ho _ (List.mem_of_getElem? (by assumption)))) rfl (.cons rfl (.c .t0) .nil) rfl rfl rfl) ?_
   refine r_op (o_cat rfl rfl rfl (by exact Nat.le_trans (Nat.add_le_add cl (fmtT_len _)) (by decide))) ?_
   refine r_op oA ?_
   refine r_end ?_
   refine t_endblock ?_
   refine t_region ?_
   refine r_op oB ?_
   refine r_op oM ?_
   refine r_end ?_
   refine t_le ?_ (ih0 (m + 1) (by (try dsimp only); omega) (by (try dsimp only); omega))
   exact ⟨⟨rfl, ⟨(eqS (by rw [List.append_assoc, fmtF_step (m := m) hz7])), ⟨rfl, ⟨rfl, ⟨(eqI (wr64 (by omega) (by omega))), trivial⟩⟩⟩⟩⟩, ⟨rfl, trivial⟩, rfl⟩
  ·
   have h5' := of_decide_eq_false h5
   refine t_exit rfl ?_
   refine tsr ?_
   refine r_op oM ?_
   refine r_op oA ?_
   refine r_end ?_
   refine t_ret Tryz.func170 (.tmp rfl .nil) rfl fun E S w u hI hd => ?_
   refine post_mk hI hd ?_ trivial rfl rfl rfl <;> clear hI hd <;> (try clear ih0)
   all_goals (refine scS ?_; (exact fmtA_yes (by assumption) (by assumption) (by omega)))
def Tryz.laysJ_ren : Go.Shelf.Ren := ⟨fun | 156 => 45 | 165 => 102 | 166 => 103 | 169 => 104 | 240 => 159 | 241 => 160 | 276 => 198 | 277 => 199 | n => n, fun | 31 => 74 | 9 => 9 | 3 => 3 | 4 => 4 | 0 => 0 | 20 => 20 | 72 => 131 | 76 => 135 | 70 => 129 | 37 => 22 | 75 => 134 | 127 => 172 | 164 => 195 | 5 => 5 | 80 => 137 | n => n, fun | n => n⟩
theorem Tryz.laysJ : Go.Proofs.Lays.n156 Tryz.prog Tryz.laysJ_ren := {
 mixed := by kernel_rfl
 f156 := Tryz.func45.trans (congrArg some (by kernel_rfl))
 f165 := Tryz.func102.trans (congrArg some (by kernel_rfl))
 f166 := Tryz.func103.trans (congrArg some (by kernel_rfl))
 f169 := Tryz.func104.trans (congrArg some (by kernel_rfl))
 f240 := Tryz.func159.trans (congrArg some (by kernel_rfl))
 f241 := Tryz.func160.trans (congrArg some (by kernel_rfl))
 f276 := Tryz.func198.trans (congrArg some (by kernel_rfl))
 f277 := Tryz.func199.trans (congrArg some (by kernel_rfl))
 t0 := Tryz.underlying0
 a0 := Tryz.isAgg0
 z0 := Tryz.sizeOf0
 v0 := Tryz.zeroValue0
 t3 := Tryz.underlying3
 a3 := Tryz.isAgg3
 z3 := Tryz.sizeOf3
 v3 := Tryz.zeroValue3
 t4 := Tryz.underlying4
 a4 := Tryz.isAgg4
 z4 := Tryz.sizeOf4
 v4 := Tryz.zeroValue4
 t9 := Tryz.underlying9
 a9 := Tryz.isAgg9
 z9 := Tryz.sizeOf9
 v9 := Tryz.zeroValue9
 t20 := Tryz.underlying20
 a20 := Tryz.isAgg20
 z20 := Tryz.sizeOf20
 v20 := Tryz.zeroValue20
 t31 := Tryz.underlying74
 a31 := Tryz.isAgg74
 z31 := Tryz.sizeOf74
 v31 := Tryz.zeroValue74
 t37 := Tryz.underlying22
 a37 := Tryz.isAgg22
 z37 := Tryz.sizeOf22
 v37 := Tryz.zeroValue22
 t70 := Tryz.underlying129
 a70 := Tryz.isAgg129
 z70 := Tryz.sizeOf129
 v70 := Tryz.zeroValue129
 t72 := Tryz.underlying131
 a72 := Tryz.isAgg131
 z72 := Tryz.sizeOf131
 v72 := Tryz.zeroValue131
 t75 := Tryz.underlying134
 a75 := Tryz.isAgg134
 z75 := Tryz.sizeOf134
 v75 := Tryz.zeroValue134
 t76 := Tryz.underlying135
 a76 := Tryz.isAgg135
 z76 := Tryz.sizeOf135
 v76 := Tryz.zeroValue135
 t127 := Tryz.underlying172
 a127 := Tryz.isAgg172
 z127 := Tryz.sizeOf172
 v127 := Tryz.zeroValue172
 t164 := Tryz.underlying195
 a164 := Tryz.isAgg195
 z164 := Tryz.sizeOf195
 v164 := Tryz.zeroValue195 }
theorem Tryz.extraJ : Go.Proofs.Builder.Extra Tryz.prog Tryz.laysJ_ren where
 sizeBuilder := by kernel_rfl
 liesBuilder := by kernel_rfl
 t5 := by kernel_rfl
 a5 := fun _ => by kernel_rfl
 z5 := fun _ => by kernel_rfl
 v5 := fun _ => by kernel_rfl
 infoByte := by kernel_rfl
 cellsByte := by kernel_rfl
 sizeByte := by kernel_rfl
 neB5 := by decide
set_option maxHeartbeats 1000000 in
set_option maxRecDepth 10000 in
theorem c_strings_Join (xs : List (List UInt8)) (sep : List UInt8) (h1 : xs.length ≤ 140737488355328) (h2 : (Lib.join xs sep).length ≤ 140737488355328) : Pu Tryz.prog 45 [.c (.t none (.sl 1 encS (xs))), .c (.t none (.v (.string (mkS (sep)))))] [] 0 (.c (.t none (.v (.string (mkS (Lib.join xs sep)))))) := by
 exact join_pu Tryz.laysJ Tryz.extraJ xs sep h1 h2
set_option maxHeartbeats 1000000 in
set_option maxRecDepth 10000 in
theorem c_impl_formatAtoms (rs : Rels) (l : Atoms) (hrs : rs.length ≤ 4611686018427387904) (hs : szS (fun (x : Int × (List (Int))) => (x.2).length) l ≤ 1048600) (hoa : ∀ z ∈ l, ∀ x ∈ z.2, okI x) : Pu Tryz.prog 115 [.c (.t none (.sl 3 (enS3 encS encI encB) (rs))), .c (.t none (.sl 2 (enS2 encI (enSl 1 encI)) (l)))] [] 0 (.c (.t none (.v (.string (mkS (fmtAs rs l)))))) := by
 refine pu_enter Tryz.func115 rfl (Nat.le_of_ble_eq_true rfl) fun w S => ?_
 have gl := sz_len (f := (fun (x : Int × (List (Int))) => (x.2).length)) (l := l)
 refine tsr ?_
 refine r_op oA ?_
 refine etr ?_
 refine r_op (o_lit0 0 (e := 9) (sz := 1) (zs := [.string (mkS ([]))]) encS rfl rfl (by kernel_rfl) rfl) ?_
 refine r_op oA ?_
 refine r_end ?_
 refine t_seq ?_
 refine tsr ?_
 refine r_op oM ?_
 refine r_op (o_len rfl rfl rfl) ?_
 refine r_op oM ?_
 refine r_end ?_
 refine t_block ?_
 refine t_loopL (fun m => ⟨[(0, some (.c (.t none (.sl 3 (enS3 encS encI encB) (rs))))), (4, some (.c (.t none (.v (.string (mkS (([] : List UInt8)))))))), (5, some (.c (.own 0))), (9, some (.c (.t none (.sl 2 (enS2 encI (enSl 1 encI)) (l))))), (10, some (.c (.t none (.v (.int .i64 (((l).length : Int))))))), (11, some (.c (.t none (.v (.int .i64 ((m : Int)))))))], [(0, some (.row none 9 true 1 encS ((l.take m).map (fmtA rs))))], 1⟩ : Nat → St) (fun m => m ≤ l.length) (fun m => l.length - m) 0 ⟨⟨rfl, ⟨rfl, ⟨rfl, ⟨rfl, ⟨rfl, ⟨rfl, trivial⟩⟩⟩⟩⟩⟩, ⟨(eqR rfl), trivial⟩, rfl⟩ (by exact Nat.zero_le _) ?_
 rintro m hI ih0
 try dsimp only at hI ih0
 have i1 := hI; have ml := mapT_len (f := fmtA rs) (fun a => fmtA_len a) l m [32]; (try simp only [List.length_cons, List.length_nil] at ml); have mm : ((l.take m).map (fmtA rs)).length ≤ l.length := (by rw [List.length_map, List.length_take]; omega)
 refine tsr ?_
 refine r_op oB ?_
 refine r_end ?_
 refine t_seq ?_
 refine t_cond rfl (fun h1 => ?_) (fun h1 => ?_)
 ·
  have h1' := of_decide_eq_true h1
  refine t_skip ?_
  refine t_seq ?_
  refine t_block ?_
  refine tsr ?_
  obtain ⟨z2, hz3, b4⟩ := at_get (xs := l) (n := (m : Int)) (by omega) (by omega)
  refine r_op (o_index rfl (by kernel_rfl) rfl rfl b4 hz3) ?_
  refine r_op (o_loadA rfl (n := 2) (by kernel_rfl) (by kernel_rfl) rfl rfl) ?_
  refine r_op (o_alloc 1 (zs := [.int .i64 (0), .slice none 0 0]) rfl rfl (by kernel_rfl) rfl) ?_
  refine r_op (oS 2) ?_
  refine rtr ?_
  refine r_op oM ?_
  refine r_op oM ?_
  refine r_op (oC 2) ?_
  refine r_op (o_call 2 2 false (Go.Proofs.enters_of Tryz.func170 (by kernel_rfl) rfl) (c_impl_FormatAtom (rs) (z2.1) (z2.2) (by omega) (by (have e1 := sz_at (f := (fun (x : Int × (List (Int))) => (x.2).length)) (l := l) (m := m) (by assumption); (try dsimp only at e1); omega)) (by exact hoa _ (List.mem_of_getElem? (by assumption)))) rfl (.cons rfl (.c .t0) (.cons rfl (.agg (.cons .t0 (.cons .t0 .nil))) .nil)) rfl rfl rfl) ?_
  refine r_op (o_litS 2 (e := 9) (sz := 1) (zs := [.string (mkS ([]))]) rfl rfl (by kernel_rfl) rfl rfl rfl rfl rfl) ?_
  refine r_op (o_append 0 (e := 9) (sz := 1) (by' := 16) (fmtA (rs) ((z2.1), (z2.2))) rfl (by kernel_rfl) rfl rfl rfl rfl rfl rfl (.cons .sc .nil) rfl (by omega) (by omega)) ?_
  refine r_op oA ?_
  refine r_end ?_
  refine t_endblock ?_
  refine t_region ?_
  refine r_op oB ?_
  refine r_op oM ?_
  refine r_end ?_
  refine t_le ?_ (ih0 (m + 1) (by (try dsimp only); omega) (by (try dsimp only); omega))
  exact ⟨⟨rfl, ⟨rfl, ⟨rfl, ⟨rfl, ⟨rfl, ⟨(eqI (wr64 (by omega) (by omega))), trivial⟩⟩⟩⟩⟩⟩, ⟨(eqR (mapT_step hz3)), trivial⟩, rfl⟩
 ·
  have h1' := of_decide_eq_false h1
  refine t_exit rfl ?_
  refine tsr ?_
  refine r_op oM ?_
  refine r_op (o_call 1 1 false (Go.Proofs.enters_of Tryz.func45 (by kernel_rfl) rfl) (c_strings_Join ((l.take m).map (fmtA rs)) (([32] : List UInt8)) (by omega) (by omega)) rfl (.cons rfl (.c (.own rfl)) (.cons rfl (.c .t0) .nil)) rfl rfl rfl) ?_
  refine r_op oA ?_
  refine r_end ?_
  refine t_ret Tryz.func115 (.tmp rfl .nil) rfl fun E S w u hI hd => ?_
  refine post_mk hI hd ?_ trivial rfl rfl rfl <;> clear hI hd <;> (try clear ih0)
  all_goals (refine scS ?_; exact fmtAs_end (by omega))
set_option maxHeartbeats 1000000 in
set_option maxRecDepth 10000 in
theorem c_impl_FormatDependency (rs : Rels) (a0 : List (Int × (List (Int)))) (a1 : List (Int × (List (Int)))) (a2 : Bool) (a3 : Int) (a4 : Int) (hrs : rs.length ≤ 4611686018427387904) (hs : szS (fun (x : Int × (List (Int))) => (x.2).length) a0 + szS (fun (x : Int × (List (Int))) => (x.2).length) a1 ≤ 1048600) (hoa : ∀ z ∈ a0, ∀ x ∈ z.2, okI x) (hob : ∀ z ∈ a1, ∀ x ∈ z.2, okI x) (h3 : okI a3) (h4 : okI a4) : Pu Tryz.prog 55 [.c (.t none (.sl 3 (enS3 encS encI encB) (rs))), .agg [.t none (.sl 2 (enS2 encI (enSl 1 encI)) (a0)), .t none (.sl 2 (enS2 encI (enSl 1 encI)) (a1)), .t none (.v (.bool (a2))), .t none (.v (.int .i64 (a3))), .t none (.v (.int .i64 (a4)))]] [] 0 (.c (.t none (.v (.string (mkS (fmtD rs (a0, a1, a2, a3, a4))))))) := by
 refine pu_enter Tryz.func55 rfl (Nat.le_of_ble_eq_true rfl) fun w S => ?_
 have g0 := sz_len (f := (fun (x : Int × (List (Int))) => (x.2).length)) (l := a0); have g1 := sz_len (f := (fun (x : Int × (List (Int))) => (x.2).length)) (l := a1); have v0 := setI_len (varsL a0); have v1 := varsL_size a0; have k0 := fmtAs_len rs a0; have k1 := fmtAs_len rs a1; have k3 := fmtT_len a3; have k4 := fmtT_len a4
 refine tsr ?_
 refine r_op (o_box 0 rfl rfl rfl rfl) ?_
 refine r_op oA ?_
 refine etr ?_
 refine r_op (oC 5) ?_
 refine r_op (o_alloc 1 (zs := [.slice none 0 0, .slice none 0 0, .bool (false), .int .i64 (0), .int .i64 (0)]) rfl rfl (by kernel_rfl) rfl) ?_
 refine r_op (oS 5) ?_
 refine r_end ?_
 refine t_seq ?_
 refine t_block ?_
 refine tsr ?_
 refine r_op oM ?_
 refine r_op (oC 5) ?_
 refine r_op (o_call 2 2 false (Go.Proofs.enters_of Tryz.func64 (by kernel_rfl) rfl) (c_impl_IsValidDependency (rs) (a0) (a1) (a2) (a3) (a4) (by omega) (by omega)) rfl (.cons rfl (.c .t0) (.cons rfl (.agg (.cons .t0 (.cons .t0 (.cons .t0 (.cons .t0 (.cons .t0 .nil)))))) .nil)) rfl rfl rfl) ?_
 refine r_op (o_not rfl rfl) ?_
 refine r_op oA ?_
 refine r_end ?_
 refine t_cond rfl (fun h1 => ?_) (fun h1 => ?_)
 ·
  have h1' := (bnt h1)
  refine tsr ?_
  refine r_op oA ?_
  refine r_end ?_
  refine t_ret Tryz.func55 (.tmp rfl .nil) rfl fun E S w u hI hd => ?_
  refine post_mk hI hd ?_ trivial rfl rfl rfl <;> clear hI hd
  all_goals (refine scS ?_; (exact fmtD_no (by assumption)))
 ·
  have h1' := (bnf h1)
  refine tsr ?_
  refine r_op (oF 2) ?_
  refine r_op oL ?_
  refine r_op oA ?_
  refine r_end ?_
  refine t_cond rfl (fun h2 => ?_) (fun h2 => ?_)
  ·
   have h2' := h2
   refine t_seq ?_
   refine t_draw (fun _ => true) (by kernel_rfl) ?_
   refine dT 0 rfl pM ?_
   refine dT 1 rfl (pF 0) ?_
   refine dT 2 rfl pL ?_
   refine dT 5 rfl (pF 3) ?_
   refine dT 6 rfl pL ?_
   refine dT 9 rfl (pF 4) ?_
   refine dT 10 rfl pL ?_
   refine dO 3 rfl (o_call 2 2 false (Go.Proofs.enters_of Tryz.func115 (by kernel_rfl) rfl) (c_impl_formatAtoms (rs) (a0) (by omega) (by omega) (by omega)) rfl (.cons rfl (.c .t0) (.cons rfl (.c .t0) .nil)) rfl rfl rfl) ?_
   refine dT 4 rfl (p_cat rfl rfl (by (simp only [List.length_append, List.length_cons, List.length_nil]; omega))) ?_
   refine dO 7 rfl (o_call 2 2 false (Go.Proofs.enters_of Tryz.func116 (by kernel_rfl) rfl) (c_impl_FormatTerm (a3) (by omega)) rfl (.cons rfl (.c .t0) .nil) rfl rfl rfl) ?_
   refine dT 8 rfl (p_cat rfl rfl (by (simp only [List.length_append, List.length_cons, List.length_nil]; omega))) ?_
   refine dO 11 rfl (o_call 2 2 false (Go.Proofs.enters_of Tryz.func116 (by kernel_rfl) rfl) (c_impl_FormatTerm (a4) (by omega)) rfl (.cons rfl (.c .t0) .nil) rfl rfl rfl) ?_
   refine dT 12 rfl (p_cat rfl rfl (by (simp only [List.length_append, List.length_cons, List.length_nil]; omega))) ?_
   refine dT 13 rfl pA ?_
   refine d_end (by kernel_rfl) ?_
   refine t_ret Tryz.func55 (.tmp rfl .nil) rfl fun E S w u hI hd => ?_
   refine post_mk hI hd ?_ trivial rfl rfl rfl <;> clear hI hd
   all_goals (refine scS ?_; (exact fmtD_egd (by assumption) (by assumption)))
  ·
   have h2' := h2
   refine t_skip ?_
   refine t_endblock ?_
   refine t_seq ?_
   refine t_draw (fun _ => true) (by kernel_rfl) ?_
   refine dT 0 rfl pM ?_
   refine dT 1 rfl (pF 0) ?_
   refine dT 2 rfl pL ?_
   refine dT 5 rfl pM ?_
   refine dT 6 rfl (pF 1) ?_
   refine dT 7 rfl pL ?_
   refine dO 3 rfl (o_call 2 2 false (Go.Proofs.enters_of Tryz.func115 (by kernel_rfl) rfl) (c_impl_formatAtoms (rs) (a0) (by omega) (by omega) (by omega)) rfl (.cons rfl (.c .t0) (.cons rfl (.c .t0) .nil)) rfl rfl rfl) ?_
   refine dT 4 rfl (p_cat rfl rfl (by (simp only [List.length_append, List.length_cons, List.length_nil]; omega))) ?_
   refine dO 8 rfl (o_call 2 2 false (Go.Proofs.enters_of Tryz.func115 (by kernel_rfl) rfl) (c_impl_formatAtoms (rs) (a1) (by omega) (by omega) (by omega)) rfl (.cons rfl (.c .t0) (.cons rfl (.c .t0) .nil)) rfl rfl rfl) ?_
   refine dT 9 rfl (p_cat rfl rfl (by (simp only [List.length_append, List.length_cons, List.length_nil]; omega))) ?_
   refine dT 10 rfl pA ?_
   refine d_end (by kernel_rfl) ?_
   refine t_ret Tryz.func55 (.tmp rfl .nil) rfl fun E S w u hI hd => ?_
   refine post_mk hI hd ?_ trivial rfl rfl rfl <;> clear hI hd
   all_goals (refine scS ?_; (exact fmtD_tgd (by assumption) (by assumption)))
set_option maxHeartbeats 1000000 in
set_option maxRecDepth 10000 in
theorem c_impl_FormatDependencies (rs : Rels) (ds : List Dep) (hrs : rs.length ≤ 4611686018427387904) (hs : szS (fun (x : (List (Int × (List (Int)))) × (List (Int × (List (Int)))) × Bool × Int × Int) => (szS (fun (x : Int × (List (Int))) => (x.2).length) (x.1)) + (szS (fun (x : Int × (List (Int))) => (x.2).length) (x.2.1))) ds ≤ 1048600) (hod : ∀ d ∈ ds, (∀ z ∈ d.1, ∀ x ∈ z.2, okI x) ∧ (∀ z ∈ d.2.1, ∀ x ∈ z.2, okI x) ∧ okI d.2.2.2.1 ∧ okI d.2.2.2.2) : Pu Tryz.prog 23 [.c (.t none (.sl 3 (enS3 encS encI encB) (rs))), .c (.t none (.sl 5 (enS5 (enSl 2 (enS2 encI (enSl 1 encI))) (enSl 2 (enS2 encI (enSl 1 encI))) encB encI encI) (ds)))] [] 0 (.c (.t none (.v (.string (mkS (fmtDs rs ds)))))) := by
 refine pu_enter Tryz.func23 rfl (Nat.le_of_ble_eq_true rfl) fun w S => ?_
 have gl := sz_len (f := (fun (x : (List (Int × (List (Int)))) × (List (Int × (List (Int)))) × Bool × Int × Int) => (szS (fun (x : Int × (List (Int))) => (x.2).length) (x.1)) + (szS (fun (x : Int × (List (Int))) => (x.2).length) (x.2.1)))) (l := ds)
 refine tsr ?_
 refine r_op oA ?_
 refine r_end ?_
 refine t_seq ?_
 refine tsr ?_
 refine r_op oM ?_
 refine r_op oM ?_
 refine r_op (o_call 0 0 false (Go.Proofs.enters_of Tryz.func26 (by kernel_rfl) rfl) (c_impl_AreValidDependencies (rs) (ds) (by omega) (by omega)) rfl (.cons rfl (.c .t0) (.cons rfl (.c .t0) .nil)) rfl rfl rfl) ?_
 refine r_op (o_not rfl rfl) ?_
 refine r_end ?_
 refine t_cond rfl (fun h1 => ?_) (fun h1 => ?_)
 ·
  have h1' := (bnt h1)
  refine tsr ?_
  refine r_op oA ?_
  refine r_end ?_
  refine t_ret Tryz.func23 (.tmp rfl .nil) rfl fun E S w u hI hd => ?_
  refine post_mk hI hd ?_ trivial rfl rfl rfl <;> clear hI hd <;> (try clear ih0)
  all_goals (refine scS ?_; (exact fmtDs_no (by assumption)))
 ·
  have h1' := (bnf h1)
  refine t_skip ?_
  refine tsr ?_
  refine r_op (o_lit0 0 (e := 9) (sz := 1) (zs := [.string (mkS ([]))]) encS rfl rfl (by kernel_rfl) rfl) ?_
  refine r_op oA ?_
  refine r_end ?_
  refine t_seq ?_
  refine tsr ?_
  refine r_op oM ?_
  refine r_op (o_len rfl rfl rfl) ?_
  refine r_op oM ?_
  refine r_end ?_
  refine t_block ?_
  refine t_loopL (fun m => ⟨[(0, some (.c (.t none (.sl 3 (enS3 encS encI encB) (rs))))), (4, some (.c (.t none (.v (.string (mkS (([] : List UInt8)))))))), (5, some (.c (.own 0))), (13, some (.c (.t none (.sl 5 (enS5 (enSl 2 (enS2 encI (enSl 1 encI))) (enSl 2 (enS2 encI (enSl 1 encI))) encB encI encI) (ds))))), (14, some (.c (.t none (.v (.int .i64 (((ds).length : Int))))))), (15, some (.c (.t none (.v (.int .i64 ((m : Int)))))))], [(0, some (.row none 9 true 1 encS ((ds.take m).map (fmtD rs))))], 1⟩ : Nat → St) (fun m => m ≤ ds.length) (fun m => ds.length - m) 0 ⟨⟨rfl, ⟨rfl, ⟨rfl, ⟨rfl, ⟨rfl, ⟨rfl, trivial⟩⟩⟩⟩⟩⟩, ⟨(eqR rfl), trivial⟩, rfl⟩ (by exact Nat.zero_le _) ?_
  rintro m hI ih0
  try dsimp only at hI ih0
  have i1 := hI; have ml := mapT_len (f := fmtD rs) (fun a => fmtD_len a) ds m [59]; (try simp only [List.length_cons, List.length_nil] at ml); have mm : ((ds.take m).map (fmtD rs)).length ≤ ds.length := (by rw [List.length_map, List.length_take]; omega)
  refine tsr ?_
  refine r_op oB ?_
  refine r_end ?_
  refine t_seq ?_
  refine t_cond rfl (fun h2 => ?_) (fun h2 => ?_)
  ·
   have h2' := of_decide_eq_true h2
   refine t_skip ?_
   refine t_seq ?_
   refine t_block ?_
   refine tsr ?_
   obtain ⟨z3, hz4, b5⟩ := at_get (xs := ds) (n := (m : Int)) (by omega) (by omega)
   refine r_op (o_index rfl (by kernel_rfl) rfl rfl b5 hz4) ?_
   refine r_op (o_loadA rfl (n := 5) (by kernel_rfl) (by kernel_rfl) rfl rfl) ?_
   refine r_op (o_alloc 1 (zs := [.slice none 0 0, .slice none 0 0, .bool (false), .int .i64 (0), .int .i64 (0)]) rfl rfl (by kernel_rfl) rfl) ?_
   refine r_op (oS 5) ?_
   refine rtr ?_
   refine r_op oM ?_
   refine r_op oM ?_
   refine r_op (oC 5) ?_
   refine r_op (o_call 2 2 false (Go.Proofs.enters_of Tryz.func55 (by kernel_rfl) rfl) (c_impl_FormatDependency (rs) (z3.1) (z3.2.1) (z3.2.2.1) (z3.2.2.2.1) (z3.2.2.2.2) (by omega) (by (have e1 := sz_at (f := (fun (x : (List (Int × (List (Int)))) × (List (Int × (List (Int)))) × Bool × Int × Int) => (szS (fun (x : Int × (List (Int))) => (x.2).length) (x.1)) + (szS (fun (x : Int × (List (Int))) => (x.2).length) (x.2.1)))) (l := ds) (m := m) (by assumption); (try dsimp only at e1); omega)) (by exact (hod _ (List.mem_of_getElem? (by assumption))).1) (by exact (hod _ (List.mem_of_getElem? (by assumption))).2.1) (by exact (hod _ (List.mem_of_getElem? (by assumption))).2.2.1) (by exact (hod _ (List.mem_of_getElem? (by assumption))).2.2.2)) rfl (.cons rfl (.c .t0) (.cons rfl (.agg (.cons .t0 (.cons .t0 (.cons .t0 (.cons .t0 (.cons .t0 .nil)))))) .nil)) rfl rfl rfl) ?_
   refine r_op (o_litS 2 (e := 9) (sz := 1) (zs := [.string (mkS ([]))]) rfl rfl (by kernel_rfl) rfl rfl rfl rfl rfl) ?_
   refine r_op (o_append 0 (e := 9) (sz := 1) (by' := 16) (fmtD (rs) ((z3.1), (z3.2.1), (z3.2.2.1), (z3.2.2.2.1), (z3.2.2.2.2))) rfl (by kernel_rfl) rfl rfl rfl rfl rfl rfl (.cons .sc .nil) rfl (by omega) (by omega)) ?_
   refine r_op oA ?_
   refine r_end ?_
   refine t_endblock ?_
   refine t_region ?_
   refine r_op oB ?_
   refine r_op oM ?_
   refine r_end ?_
   refine t_le ?_ (ih0 (m + 1) (by (try dsimp only); omega) (by (try dsimp only); omega))
   exact ⟨⟨rfl, ⟨rfl, ⟨rfl, ⟨rfl, ⟨rfl, ⟨(eqI (wr64 (by omega) (by omega))), trivial⟩⟩⟩⟩⟩⟩, ⟨(eqR (mapT_step (m := m) hz4)), trivial⟩, rfl⟩
  ·
   have h2' := of_decide_eq_false h2
   refine t_exit rfl ?_
   refine tsr ?_
   refine r_op oM ?_
   refine r_op (o_call 1 1 false (Go.Proofs.enters_of Tryz.func45 (by kernel_rfl) rfl) (c_strings_Join ((ds.take m).map (fmtD rs)) (([59] : List UInt8)) (by omega) (by omega)) rfl (.cons rfl (.c (.own rfl)) (.cons rfl (.c .t0) .nil)) rfl rfl rfl) ?_
   refine r_op oA ?_
   refine r_end ?_
   refine t_ret Tryz.func23 (.tmp rfl .nil) rfl fun E S w u hI hd => ?_
   refine post_mk hI hd ?_ trivial rfl rfl rfl <;> clear hI hd <;> (try clear ih0)
   all_goals (refine scS ?_; (exact fmtDs_yes (by assumption) (by omega)))
def Tryz.laysS_ren : Go.Shelf.Ren := ⟨fun | 146 => 53 | 221 => 111 | 268 => 164 | 138 => 165 | 143 => 166 | 195 => 201 | 197 => 202 | 218 => 203 | 219 => 204 | 260 => 243 | 217 => 207 | 225 => 244 | 224 => 245 | 267 => 246 | 266 => 247 | 314 => 263 | n => n, fun | 9 => 9 | 31 => 74 | 3 => 3 | 4 => 4 | 0 => 0 | 105 => 199 | 21 => 21 | 5 => 5 | 46 => 170 | 119 => 244 | 139 => 247 | 138 => 246 | 146 => 248 | 51 => 216 | n => n, fun | 1 => 0 | 3 => 2 | 4 => 3 | n => n⟩
theorem Tryz.laysS : Go.Proofs.Lays.n146 Tryz.prog Tryz.laysS_ren := {
 mixed := by kernel_rfl
 f138 := Tryz.func165.trans (congrArg some (by kernel_rfl))
 f143 := Tryz.func166.trans (congrArg some (by kernel_rfl))
 f146 := Tryz.func53.trans (congrArg some (by kernel_rfl))
 f195 := Tryz.func201.trans (congrArg some (by kernel_rfl))
 f197 := Tryz.func202.trans (congrArg some (by kernel_rfl))
 f217 := Tryz.func207.trans (congrArg some (by kernel_rfl))
 f218 := Tryz.func203.trans (congrArg some (by kernel_rfl))
 f219 := Tryz.func204.trans (congrArg some (by kernel_rfl))
 f221 := Tryz.func111.trans (congrArg some (by kernel_rfl))
 f224 := Tryz.func245.trans (congrArg some (by kernel_rfl))
 f225 := Tryz.func244.trans (congrArg some (by kernel_rfl))
 f260 := Tryz.func243.trans (congrArg some (by kernel_rfl))
 f266 := Tryz.func247.trans (congrArg some (by kernel_rfl))
 f267 := Tryz.func246.trans (congrArg some (by kernel_rfl))
 f268 := Tryz.func164.trans (congrArg some (by kernel_rfl))
 f314 := Tryz.func263.trans (congrArg some (by kernel_rfl))
 t0 := Tryz.underlying0
 a0 := Tryz.isAgg0
 z0 := Tryz.sizeOf0
 v0 := Tryz.zeroValue0
 t3 := Tryz.underlying3
 a3 := Tryz.isAgg3
 z3 := Tryz.sizeOf3
 v3 := Tryz.zeroValue3
 t4 := Tryz.underlying4
 a4 := Tryz.isAgg4
 z4 := Tryz.sizeOf4
 v4 := Tryz.zeroValue4
 t5 := Tryz.underlying5
 a5 := Tryz.isAgg5
 z5 := Tryz.sizeOf5
 v5 := Tryz.zeroValue5
 t9 := Tryz.underlying9
 a9 := Tryz.isAgg9
 z9 := Tryz.sizeOf9
 v9 := Tryz.zeroValue9
 t21 := Tryz.underlying21
 a21 := Tryz.isAgg21
 z21 := Tryz.sizeOf21
 v21 := Tryz.zeroValue21
 t31 := Tryz.underlying74
 a31 := Tryz.isAgg74
 z31 := Tryz.sizeOf74
 v31 := Tryz.zeroValue74
 t46 := Tryz.underlying170
 a46 := Tryz.isAgg170
 z46 := Tryz.sizeOf170
 v46 := Tryz.zeroValue170
 t51 := Tryz.underlying216
 a51 := Tryz.isAgg216
 z51 := Tryz.sizeOf216
 v51 := Tryz.zeroValue216
 t105 := Tryz.underlying199
 a105 := Tryz.isAgg199
 z105 := Tryz.sizeOf199
 v105 := Tryz.zeroValue199
 t119 := Tryz.underlying244
 a119 := Tryz.isAgg244
 z119 := Tryz.sizeOf244
 t138 := Tryz.underlying246
 a138 := Tryz.isAgg246
 z138 := Tryz.sizeOf246
 v138 := Tryz.zeroValue246
 t139 := Tryz.underlying247
 a139 := Tryz.isAgg247
 z139 := Tryz.sizeOf247
 v139 := Tryz.zeroValue247
 t146 := Tryz.underlying248
 a146 := Tryz.isAgg248
 z146 := Tryz.sizeOf248
 v146 := Tryz.zeroValue248
 g1 := by kernel_rfl
 g3 := by kernel_rfl
 g4 := by kernel_rfl }
set_option maxHeartbeats 1000000 in
set_option maxRecDepth 10000 in
theorem c_strings_Split (s p : List UInt8) (hp : p.length = 1) (hs : s.length ≤ 1048576) : PuX (mxX 0) Tryz.prog 53 [.c (.t none (.v (.string (mkS (s))))), .c (.t none (.v (.string (mkS (p)))))] [(0, some (.row none 9 true 1 encS (splP p s)))] 1 (.c (.own 0)) := by
 exact split_pux3 Tryz.laysS (by kernel_rfl) s p hp (by omega)
def Tryz.laysC_ren : Go.Shelf.Ren := ⟨fun | 145 => 112 | 220 => 167 | 219 => 204 | 217 => 207 | 225 => 244 | 224 => 245 | 267 => 246 | 266 => 247 | 314 => 263 | n => n, fun | 9 => 9 | 4 => 4 | 59 => 144 | 3 => 3 | 5 => 5 | 46 => 170 | 146 => 248 | 51 => 216 | n => n, fun | 1 => 0 | n => n⟩
theorem Tryz.laysC : Go.Proofs.Lays.n145 Tryz.prog Tryz.laysC_ren := {
 mixed := by kernel_rfl
 f145 := Tryz.func112.trans (congrArg some (by kernel_rfl))
 f217 := Tryz.func207.trans (congrArg some (by kernel_rfl))
 f219 := Tryz.func204.trans (congrArg some (by kernel_rfl))
 f220 := Tryz.func167.trans (congrArg some (by kernel_rfl))
 f224 := Tryz.func245.trans (congrArg some (by kernel_rfl))
 f225 := Tryz.func244.trans (congrArg some (by kernel_rfl))
 f266 := Tryz.func247.trans (congrArg some (by kernel_rfl))
 f267 := Tryz.func246.trans (congrArg some (by kernel_rfl))
 f314 := Tryz.func263.trans (congrArg some (by kernel_rfl))
 t3 := Tryz.underlying3
 a3 := Tryz.isAgg3
 z3 := Tryz.sizeOf3
 v3 := Tryz.zeroValue3
 t4 := Tryz.underlying4
 a4 := Tryz.isAgg4
 z4 := Tryz.sizeOf4
 v4 := Tryz.zeroValue4
 t5 := Tryz.underlying5
 a5 := Tryz.isAgg5
 z5 := Tryz.sizeOf5
 v5 := Tryz.zeroValue5
 t9 := Tryz.underlying9
 a9 := Tryz.isAgg9
 z9 := Tryz.sizeOf9
 v9 := Tryz.zeroValue9
 t46 := Tryz.underlying170
 a46 := Tryz.isAgg170
 z46 := Tryz.sizeOf170
 v46 := Tryz.zeroValue170
 t51 := Tryz.underlying216
 a51 := Tryz.isAgg216
 z51 := Tryz.sizeOf216
 v51 := Tryz.zeroValue216
 t59 := Tryz.underlying144
 a59 := Tryz.isAgg144
 z59 := Tryz.sizeOf144
 v59 := Tryz.zeroValue144
 t146 := Tryz.underlying248
 a146 := Tryz.isAgg248
 z146 := Tryz.sizeOf248
 v146 := Tryz.zeroValue248
 g1 := by kernel_rfl }
set_option maxHeartbeats 1000000 in
set_option maxRecDepth 10000 in
theorem c_strings_Cut (s p : List UInt8) (hs : s.length ≤ 1048576) : PuX (mxX 0) Tryz.prog 112 [.c (.t none (.v (.string (mkS (s))))), .c (.t none (.v (.string (mkS (p)))))] [] 0 (.tup [(false, [.t none (.v (.string (mkS ((Lib.cut s p).1))))]), (false, [.t none (.v (.string (mkS ((Lib.cut s p).2.1))))]), (false, [.t none (.v (.bool ((Lib.cut s p).2.2)))])]) := by
 exact cut_pux Tryz.laysC s p (by omega)
set_option maxHeartbeats 1000000 in
set_option maxRecDepth 10000 in
theorem c_impl_RelationIndex_1 (a : List UInt8) (b : Int) (e : Bool) (n : List UInt8) : Pu Tryz.prog 206 [.agg [.t none (.v (.string (mkS (a)))), .t none (.v (.int .i64 (b))), .t none (.v (.bool (e)))], .c (.pel none (encS (n)) 1)] [] 0 (.c (.t none (.v (.bool (decide (a = n)))))) := by
 refine pu_enter Tryz.func206 rfl (Nat.le_of_ble_eq_true rfl) fun w S => ?_
 refine tsr ?_
 refine r_op (o_box 0 rfl rfl rfl rfl) ?_
 refine r_op oA ?_
 refine etr ?_
 refine r_op (oF 0) ?_
 refine r_op oL ?_
 refine r_op (o_load1 rfl (by kernel_rfl) rfl rfl) ?_
 refine r_op (o_str rfl rfl rfl rfl) ?_
 refine r_op oA ?_
 refine r_end ?_
 refine t_ret Tryz.func206 (.tmp rfl .nil) rfl fun E S w u hI hd => ?_
 refine post_mk hI hd ?_ trivial rfl rfl rfl <;> clear hI hd
 all_goals (rfl)
set_option maxHeartbeats 1000000 in
set_option maxRecDepth 10000 in
theorem c_slices_IndexFunc___impl_Relation_impl_Relation_ (l : List (List UInt8 × Int × Bool)) (f : Nat) (cs : List ((Nat → T) × Nat)) (p : List UInt8 × Int × Bool → Bool) (hl : l.length ≤ 9223372036854775807) (hf : ∀ x ∈ l, Fu Tryz.prog f ([.agg [.t none (.v (.string (mkS (x.1)))), .t none (.v (.int .i64 (x.2.1))), .t none (.v (.bool (x.2.2)))]] ++ pels cs) (.c (.t none (.v (.bool (p x)))))) : Pu Tryz.prog 205 [.c (.t none (.sl 3 (enS3 encS encI encB) (l))), .c (.fv f cs)] [] 0 (.c (.t none (.v (.int .i64 (idxI p l))))) := by
 refine pu_enter Tryz.func205 rfl (Nat.le_of_ble_eq_true rfl) fun w S => ?_
 refine tsr ?_
 refine r_op oA ?_
 refine r_end ?_
 refine t_seq ?_
 refine tsr ?_
 refine r_op oM ?_
 refine r_op (o_len rfl rfl rfl) ?_
 refine r_op oM ?_
 refine r_end ?_
 refine t_block ?_
 refine t_loopL (fun m => ⟨[(0, some (.c (.t none (.sl 3 (enS3 encS encI encB) (l))))), (1, some (.c (.fv f cs))), (7, some (.c (.t none (.v (.int .i64 (((l).length : Int))))))), (8, some (.c (.t none (.v (.int .i64 ((m : Int)))))))], [], 0⟩ : Nat → St) (fun m => m ≤ l.length ∧ ∀ j z, j < m → l[j]? = some z → p z = false) (fun m => l.length - m) 0 ⟨⟨rfl, ⟨rfl, ⟨rfl, ⟨rfl, trivial⟩⟩⟩⟩, trivial, rfl⟩ (by exact ⟨Nat.zero_le _, fun j z h => by omega⟩) ?_
 rintro m hI ih0
 try dsimp only at hI ih0
 obtain ⟨i1, i2⟩ := hI
 refine tsr ?_
 refine r_op oB ?_
 refine r_end ?_
 refine t_seq ?_
 refine t_cond rfl (fun h1 => ?_) (fun h1 => ?_)
 ·
  have h1' := of_decide_eq_true h1
  refine t_skip ?_
  refine t_seq ?_
  refine t_block ?_
  refine tsr ?_
  refine r_op oM ?_
  refine r_op oA ?_
  refine etr ?_
  refine r_op oM ?_
  refine r_op oM ?_
  refine r_op oM ?_
  obtain ⟨z2, hz3, b4⟩ := at_get (xs := l) (n := (m : Int)) (by omega) (by omega)
  refine r_op (o_index rfl (by kernel_rfl) rfl rfl b4 hz3) ?_
  refine r_op (o_loadA rfl (n := 3) (by kernel_rfl) (by kernel_rfl) rfl rfl) ?_
  refine r_op (o_callv 0 0 false (hf z2 (List.mem_of_getElem? (by assumption))).1 (hf z2 (List.mem_of_getElem? (by assumption))).2 rfl rfl (.c .fv) (.cons rfl (.agg (.cons .t0 (.cons .t0 (.cons .t0 .nil)))) .nil) rfl rfl rfl) ?_
  refine r_end ?_
  refine t_cond rfl (fun h5 => ?_) (fun h5 => ?_)
  ·
   have h5' := h5
   refine tsr ?_
   refine r_op oM ?_
   refine r_op oA ?_
   refine r_end ?_
   refine t_ret Tryz.func205 (.tmp rfl .nil) rfl fun E S w u hI hd => ?_
   refine post_mk hI hd ?_ trivial rfl rfl rfl <;> clear hI hd <;> (try clear ih0)
   all_goals (rw [idx_hit i2 (by assumption) (by assumption)])
  ·
   have h5' := h5
   refine t_skip ?_
   refine t_endblock ?_
   refine t_region ?_
   refine r_op oB ?_
   refine r_op oM ?_
   refine r_end ?_
   refine t_le ?_ (ih0 (m + 1) (by (try dsimp only); omega) (by (try dsimp only); exact ⟨by omega, no_step i2 (by assumption) rfl (by assumption)⟩))
   exact ⟨⟨rfl, ⟨rfl, ⟨rfl, ⟨(eqI (wr64 (by omega) (by omega))), trivial⟩⟩⟩⟩, trivial, rfl⟩
 ·
  have h1' := of_decide_eq_false h1
  refine t_exit rfl ?_
  refine tsr ?_
  refine r_op oA ?_
  refine r_end ?_
  refine t_ret Tryz.func205 (.tmp rfl .nil) rfl fun E S w u hI hd => ?_
  refine post_mk hI hd ?_ trivial rfl rfl rfl <;> clear hI hd <;> (try clear ih0)
  all_goals (rw [idx_none i2 (by omega)])
set_option maxHeartbeats 1000000 in
set_option maxRecDepth 10000 in
theorem c_impl_RelationIndex (rs : Rels) (n : List UInt8) (hrs : rs.length ≤ 1048576) : Pu Tryz.prog 168 [.c (.t none (.sl 3 (enS3 encS encI encB) (rs))), .c (.t none (.v (.string (mkS (n)))))] [] 0 (.c (.t none (.v (.int .i64 (relIx rs n))))) := by
 refine pu_enter Tryz.func168 rfl (Nat.le_of_ble_eq_true rfl) fun w S => ?_
 refine tsr ?_
 refine r_op (o_box 0 rfl rfl rfl rfl) ?_
 refine r_op oA ?_
 refine etr ?_
 refine r_op oM ?_
 refine r_op (o_makeFunc rfl (.cons rfl .nil)) ?_
 refine r_op (o_call 1 1 false (Go.Proofs.enters_of Tryz.func205 (by kernel_rfl) rfl) (c_slices_IndexFunc___impl_Relation_impl_Relation_ (rs) (206) ([(encS (n), 1)]) (fun (x0 : List UInt8 × Int × Bool) => decide ((x0.1) = (n))) (by omega) (fun x0 mx0 => ⟨Go.Proofs.enters_of Tryz.func206 (by kernel_rfl) rfl, c_impl_RelationIndex_1 (x0.1) (x0.2.1) (x0.2.2) (n)⟩)) rfl (.cons rfl (.c .t0) (.cons rfl (.c (.clo (.cons rfl rfl rfl (.cons .t .nil) .nil))) .nil)) rfl rfl rfl) ?_
 refine r_op oA ?_
 refine r_end ?_
 refine t_ret Tryz.func168 (.tmp rfl .nil) rfl fun E S w u hI hd => ?_
 refine post_mk hI hd ?_ trivial rfl rfl rfl <;> clear hI hd
 all_goals (rfl)
def Tryz.laysB_ren : Go.Shelf.Ren := ⟨fun | 137 => 169 | 217 => 207 | 266 => 247 | n => n, fun | 9 => 9 | 5 => 5 | 3 => 3 | n => n, fun | n => n⟩
theorem Tryz.laysB : Go.Proofs.Lays.n137 Tryz.prog Tryz.laysB_ren := {
 mixed := by kernel_rfl
 f137 := Tryz.func169.trans (congrArg some (by kernel_rfl))
 f217 := Tryz.func207.trans (congrArg some (by kernel_rfl))
 f266 := Tryz.func247.trans (congrArg some (by kernel_rfl))
 t3 := Tryz.underlying3
 a3 := Tryz.isAgg3
 z3 := Tryz.sizeOf3
 v3 := Tryz.zeroValue3
 t5 := Tryz.underlying5
 a5 := Tryz.isAgg5
 z5 := Tryz.sizeOf5
 v5 := Tryz.zeroValue5
 t9 := Tryz.underlying9
 a9 := Tryz.isAgg9
 z9 := Tryz.sizeOf9
 v9 := Tryz.zeroValue9 }
set_option maxHeartbeats 1000000 in
set_option maxRecDepth 10000 in
theorem c_strings_IndexByte (s : List UInt8) (ci : Int) (hc : 0 ≤ ci ∧ ci < 256) : Pu Tryz.prog 169 [.c (.t none (.v (.string (mkS (s))))), .c (.t none (.v (.int .u8 (ci))))] [] 0 (.c (.t none (.v (.int .i64 (Lib.indexByte s (u8 ci)))))) := by
 exact ixb_pu2 Tryz.laysB s ci hc
set_option maxHeartbeats 1000000 in
set_option maxRecDepth 10000 in
theorem c_impl_parseTerm (ci : Int) (hc : 0 ≤ ci ∧ ci < 256) : Pu Tryz.prog 114 [.c (.t none (.v (.int .u8 (ci))))] [] 0 (.c (.t none (.v (.int .i64 (pT (u8 ci)))))) := by
 refine pu_enter Tryz.func114 rfl (Nat.le_of_ble_eq_true rfl) fun w S => ?_
 refine tsr ?_
 refine r_op oA ?_
 refine r_end ?_
 refine t_seq ?_
 refine tsr ?_
 refine r_op oM ?_
 refine r_op oB ?_
 refine r_op oM ?_
 refine r_guard rfl rfl rfl (fun g1 => ?_) (fun g1 => ?_)
 ·
  have g1' := of_decide_eq_true g1
  refine r_op oM ?_
  refine r_guard rfl rfl rfl (fun _ => ?_) (nc g1)
  refine r_op oB ?_
  refine r_op (o_pickT rfl rfl g1 rfl) ?_
  refine r_end ?_
  refine t_cond rfl (fun h2 => ?_) (fun h2 => ?_)
  ·
   have h2' := of_decide_eq_true h2
   refine tsr ?_
   refine r_op oM ?_
   refine r_op oB ?_
   refine r_op (o_conv rfl Tryz.underlying5 Tryz.underlying3 rfl) ?_
   refine r_op oB ?_
   refine r_op oA ?_
   refine r_end ?_
   refine t_ret Tryz.func114 (.tmp rfl .nil) rfl fun E S w u hI hd => ?_
   refine post_mk hI hd ?_ trivial rfl rfl rfl <;> clear hI hd
   all_goals (refine scI ?_; (have e7 : 48 ≤ ci ∧ ci ≤ 57 := (by grind); rw [pT_dig hc e7]; simp only [IntKind.wrap, IntKind.bits, IntKind.signed]; (try simp); omega))
  ·
   have h2' := of_decide_eq_false h2
   refine t_skip ?_
   refine t_seq ?_
   refine tsr ?_
   refine r_op oM ?_
   refine r_op (o_call 0 0 false (Go.Proofs.enters_of Tryz.func169 (by kernel_rfl) rfl) (c_strings_IndexByte (([120, 121, 122, 117, 118] : List UInt8)) (ci) (by omega)) rfl (.cons rfl (.c .t0) (.cons rfl (.c .t0) .nil)) rfl rfl rfl) ?_
   refine r_op oA ?_
   refine etr ?_
   refine r_op oM ?_
   refine r_op oB ?_
   refine r_end ?_
   refine t_cond rfl (fun h3 => ?_) (fun h3 => ?_)
   ·
    have h3' := of_decide_eq_true h3
    refine tsr ?_
    refine r_op oM ?_
    refine r_op oA ?_
    refine r_end ?_
    refine t_ret Tryz.func114 (.tmp rfl .nil) rfl fun E S w u hI hd => ?_
    refine post_mk hI hd ?_ trivial rfl rfl rfl <;> clear hI hd
    all_goals (refine scI ?_; (exact (pT_var hc (by grind) (by omega)).symm))
   ·
    have h3' := of_decide_eq_false h3
    refine t_skip ?_
    refine tsr ?_
    refine r_op oA ?_
    refine r_end ?_
    refine t_ret Tryz.func114 (.tmp rfl .nil) rfl fun E S w u hI hd => ?_
    refine post_mk hI hd ?_ trivial rfl rfl rfl <;> clear hI hd
    all_goals (refine scI ?_; (exact (pT_no hc (by grind) (by omega)).symm))
 ·
  have g1' := of_decide_eq_false g1
  refine r_guard rfl rfl rfl (ncf g1) (fun _ => ?_)
  refine r_op (o_pickF rfl rfl g1 rfl) ?_
  refine r_end ?_
  refine t_cond rfl (ncf rfl) (fun _ => ?_)
  refine t_skip ?_
  refine t_seq ?_
  refine tsr ?_
  refine r_op oM ?_
  refine r_op (o_call 0 0 false (Go.Proofs.enters_of Tryz.func169 (by kernel_rfl) rfl) (c_strings_IndexByte (([120, 121, 122, 117, 118] : List UInt8)) (ci) (by omega)) rfl (.cons rfl (.c .t0) (.cons rfl (.c .t0) .nil)) rfl rfl rfl) ?_
  refine r_op oA ?_
  refine etr ?_
  refine r_op oM ?_
  refine r_op oB ?_
  refine r_end ?_
  refine t_cond rfl (fun h4 => ?_) (fun h4 => ?_)
  ·
   have h4' := of_decide_eq_true h4
   refine tsr ?_
   refine r_op oM ?_
   refine r_op oA ?_
   refine r_end ?_
   refine t_ret Tryz.func114 (.tmp rfl .nil) rfl fun E S w u hI hd => ?_
   refine post_mk hI hd ?_ trivial rfl rfl rfl <;> clear hI hd
   all_goals (refine scI ?_; (exact (pT_var hc (by grind) (by omega)).symm))
  ·
   have h4' := of_decide_eq_false h4
   refine t_skip ?_
   refine tsr ?_
   refine r_op oA ?_
   refine r_end ?_
   refine t_ret Tryz.func114 (.tmp rfl .nil) rfl fun E S w u hI hd => ?_
   refine post_mk hI hd ?_ trivial rfl rfl rfl <;> clear hI hd
   all_goals (refine scI ?_; (exact (pT_no hc (by grind) (by omega)).symm))
set_option maxHeartbeats 1000000 in
set_option maxRecDepth 10000 in
theorem c_impl_parseAtoms (rs : Rels) (s : List UInt8) (hrs : rs.length ≤ 1048576) (hs : s.length ≤ 1048576) : PuX (mxX 0) Tryz.prog 113 [.c (.t none (.sl 3 (enS3 encS encI encB) (rs))), .c (.t none (.v (.string (mkS (s)))))] [(0, some (.row none 103 true 2 (enS2 encI (enSl 1 encI)) (pAs rs s)))] 1 (.c (.own 0)) := by
 refine pu_enterX Tryz.func113 rfl (Nat.le_of_ble_eq_true rfl) fun w S hT => ?_
 refine tsr ?_
 refine r_op oA ?_
 refine etr ?_
 refine r_op (o_lit0 0 (e := 103) (sz := 2) (zs := [.int .i64 (0), .slice none 0 0]) (enS2 encI (enSl 1 encI)) rfl rfl (by kernel_rfl) rfl) ?_
 refine r_op oA ?_
 refine r_end ?_
 refine t_seq ?_
 refine tsr ?_
 refine r_op oM ?_
 refine r_op (o_callX (fun _ hk => mx_kept hk hT) 1 2 false (Go.Proofs.enters_of Tryz.func53 (by kernel_rfl) rfl) (c_strings_Split (s) (([32] : List UInt8)) (by rfl) (by omega)) rfl (.cons rfl (.c .t0) (.cons rfl (.c .t0) .nil)) rfl rfl rfl) ?_
 refine r_op (o_leno rfl rfl rfl rfl) ?_
 refine r_op oM ?_
 refine r_end ?_
 refine t_block ?_
 refine t_loopL (fun m => ⟨[(0, some (.c (.t none (.sl 3 (enS3 encS encI encB) (rs))))), (4, some (.c (.t none (.v (.slice none 0 0))))), (5, some (.c (.own 0))), (12, some (.c (.own 1))), (13, some (.c (.t none (.v (.int .i64 (((splP (([32] : List UInt8)) (s)).length : Int))))))), (14, some (.c (.t none (.v (.int .i64 ((m : Int)))))))], [(0, some (.row none 103 true 2 (enS2 encI (enSl 1 encI)) (((splP [32] s).take m).map (pAt rs)))), (1, some (.row none 9 true 1 encS (splP (([32] : List UInt8)) (s))))], 2⟩ : Nat → St) (fun m => m ≤ (splP [32] s).length) (fun m => (splP [32] s).length - m) 0 ⟨⟨rfl, ⟨rfl, ⟨rfl, ⟨rfl, ⟨rfl, ⟨rfl, trivial⟩⟩⟩⟩⟩⟩, ⟨rfl, ⟨rfl, trivial⟩⟩, rfl⟩ (by exact Nat.zero_le _) ?_
 rintro m hI ih0
 try dsimp only at hI ih0
 have i1 := hI; have l1 : (splP [32] s).length ≤ s.length + 1 := spl_len (b := 32) (s := s)
 refine tsr ?_
 refine r_op oB ?_
 refine r_end ?_
 refine t_seq ?_
 refine t_cond rfl (fun h1 => ?_) (fun h1 => ?_)
 ·
  have h1' := of_decide_eq_true h1
  refine t_skip ?_
  refine t_seq ?_
  refine t_block ?_
  refine tsr ?_
  obtain ⟨z2, hz3, b4⟩ := at_get (xs := splP (([32] : List UInt8)) (s)) (n := (m : Int)) (by omega) (by omega)
  refine r_op (o_indexo rfl (by kernel_rfl) rfl rfl rfl b4 (at_lt b4 hz3)) ?_
  refine r_op (o_load1o rfl (by kernel_rfl) rfl rfl rfl hz3) ?_
  refine r_op oA ?_
  refine r_end ?_
  refine t_seq ?_
  refine tsr ?_
  refine r_op oM ?_
  refine r_op (o_str rfl rfl rfl rfl) ?_
  refine r_end ?_
  refine t_cond rfl (fun h5 => ?_) (fun h5 => ?_)
  ·
   have h5' := of_decide_eq_true h5
   refine t_region ?_
   refine r_op oA ?_
   refine etr ?_
   refine r_op oM ?_
   refine r_op oM ?_
   refine r_op (o_subSh rfl Tryz.underlying9 rfl rfl (by omega) (by decide)) ?_
   refine r_op (o_call 2 2 false (Go.Proofs.enters_of Tryz.func168 (by kernel_rfl) rfl) (c_impl_RelationIndex (rs) ((([32] : List UInt8)).take ((1 : Int)).toNat) (by omega)) rfl (.cons rfl (.c .t0) (.cons rfl (.c .t0) .nil)) rfl rfl rfl) ?_
   refine r_op (o_build rfl (pl := [(0, 1), (1, 1)]) (zs := [.int .i64 (0), .slice none 0 0]) (by kernel_rfl) (by kernel_rfl) rfl rfl rfl) ?_
   refine r_op (o_alloc 2 (zs := [.int .i64 (0), .slice none 0 0]) rfl rfl (by kernel_rfl) rfl) ?_
   refine r_op (oS 2) ?_
   refine r_end ?_
   refine t_seq ?_
   refine tsr ?_
   refine r_op oA ?_
   refine r_end ?_
   refine t_block ?_
   refine gt_nilb 3 (b := 2) (o := 1) (et := 3) (sz := 1) true encI rfl rfl rfl ?_
   have hxl := spl_mem (b := 32) (s := s) (List.mem_of_getElem? hz3); have hx2 : (([32] : List UInt8)).length ≤ 1048577 := (by decide)
   refine t_loopL (fun n => ⟨[(0, some (.c (.t none (.sl 3 (enS3 encS encI encB) (rs))))), (4, some (.c (.t none (.v (.slice none 0 0))))), (5, some (.c (.own 0))), (7, some (.c (.t none (.v (.string (mkS (([32] : List UInt8)))))))), (8, some (.c (.ptr 2 0))), (9, some (.c (.t none (.v (.int .i64 ((n : Int))))))), (12, some (.c (.own 1))), (13, some (.c (.t none (.v (.int .i64 (((splP (([32] : List UInt8)) (s)).length : Int))))))), (14, some (.c (.t none (.v (.int .i64 ((m : Int)))))))], [(0, some (.row none 103 true 2 (enS2 encI (enSl 1 encI)) (((splP [32] s).take m).map (pAt rs)))), (1, some (.row none 9 true 1 encS (splP (([32] : List UInt8)) (s)))), (2, some (.box [.t none (.v (.int .i64 (relIx (rs) ((([32] : List UInt8)).take ((1 : Int)).toNat)))), .own 3])), (3, some (.row none 3 true 1 encI ((((([32] : List UInt8)).take n).drop 1).map pT)))], 4⟩ : Nat → St) (fun n => 1 ≤ n ∧ n ≤ (([32] : List UInt8)).length) (fun n => (([32] : List UInt8)).length - n) 1 ⟨⟨rfl, ⟨rfl, ⟨rfl, ⟨rfl, ⟨rfl, ⟨rfl, ⟨rfl, ⟨rfl, ⟨rfl, trivial⟩⟩⟩⟩⟩⟩⟩⟩⟩, ⟨rfl, ⟨rfl, ⟨rfl, ⟨(eqR pd_init), trivial⟩⟩⟩⟩, rfl⟩ (by exact ⟨Nat.le_refl _, by (decide)⟩) ?_
   rintro n hI ih1
   try dsimp only at hI ih1
   obtain ⟨j1, j2⟩ := hI
   refine t_seq ?_
   refine tsr ?_
   refine r_op oM ?_
   refine r_op oM ?_
   refine r_op (o_lenS rfl Tryz.underlying9 rfl) ?_
   refine r_op oB ?_
   refine r_end ?_
   refine t_cond rfl (fun h6 => ?_) (fun h6 => ?_)
   ·
    have h6' := of_decide_eq_true h6
    refine t_skip ?_
    refine t_seq ?_
    refine t_block ?_
    refine t_draw (fun i => !(Nat.beq i 7 || Nat.beq i 9)) (by kernel_rfl) ?_
    refine dT 0 rfl (pF 1) ?_
    refine dT 1 rfl pL ?_
    refine dT 2 rfl pM ?_
    refine dT 3 rfl pM ?_
    obtain ⟨z7, hz8, b9⟩ := at_get (xs := ([32] : List UInt8)) (n := (n : Int)) (by omega) (by omega)
    refine dT 4 rfl (p_indexS Tryz.underlying9 rfl rfl b9 hz8) ?_
    refine dO 5 rfl (o_call 4 4 false (Go.Proofs.enters_of Tryz.func114 (by kernel_rfl) rfl) (c_impl_parseTerm (z7.toNat : Int) (by exact u8_rng _)) rfl (.cons rfl (.c .t0) .nil) rfl rfl rfl) ?_
    refine dO 6 rfl (o_litS 4 (e := 3) (sz := 1) (zs := [.int .i64 (0)]) rfl rfl (by kernel_rfl) rfl rfl rfl rfl rfl) ?_
    refine dO 7 rfl (o_append 3 (e := 3) (sz := 1) (by' := 8) (pT (u8 (z7.toNat : Int))) rfl (by kernel_rfl) rfl rfl rfl rfl rfl rfl (.cons .sc .nil) rfl (by (simp; omega)) (by (simp; omega))) ?_
    refine dT 8 rfl (pF 1) ?_
    refine dO 9 rfl (oS 1) ?_
    refine d_end (by kernel_rfl) ?_
    refine t_endblock ?_
    refine t_region ?_
    refine r_op oM ?_
    refine r_op oB ?_
    refine r_op oA ?_
    refine r_end ?_
    refine t_le ?_ (ih1 (n + 1) (by (try dsimp only); omega) (by (try dsimp only); omega))
    exact ⟨⟨rfl, ⟨rfl, ⟨rfl, ⟨rfl, ⟨rfl, ⟨(eqI (wr64 (by omega) (by omega))), ⟨rfl, ⟨rfl, ⟨rfl, trivial⟩⟩⟩⟩⟩⟩⟩⟩⟩, ⟨rfl, ⟨rfl, ⟨rfl, ⟨(eqR (pd_char (by omega) hz8)), trivial⟩⟩⟩⟩, rfl⟩
   ·
    have h6' := of_decide_eq_false h6
    refine t_exit rfl ?_
    refine t_region ?_
    refine r_op oM ?_
    refine r_op (oC 2) ?_
    refine r_op (o_litS 4 (e := 103) (sz := 2) (zs := [.int .i64 (0), .slice none 0 0]) rfl rfl (by kernel_rfl) rfl rfl rfl rfl rfl) ?_
    refine r_op (o_append 0 (e := 103) (sz := 2) (by' := 32) ((relIx (rs) ((([32] : List UInt8)).take ((1 : Int)).toNat), (((([32] : List UInt8)).take n).drop 1).map pT)) rfl (by kernel_rfl) rfl rfl rfl rfl rfl rfl (.cons .sc (.take (.own rfl) rfl .nil)) rfl (by (simp; omega)) (by (simp; omega))) ?_
    refine r_op oA ?_
    refine r_end ?_
    refine t_endblock ?_
    refine t_region ?_
    refine r_op oB ?_
    refine r_op oM ?_
    refine r_end ?_
    refine t_le ?_ (ih0 (m + 1) (by (try dsimp only); omega) (by (try dsimp only); omega))
    exact ⟨⟨rfl, ⟨rfl, ⟨rfl, ⟨rfl, ⟨rfl, ⟨(eqI (wr64 (by omega) (by omega))), trivial⟩⟩⟩⟩⟩⟩, ⟨(eqR (by exact pd_step0 hz3 (by assumption))), ⟨rfl, trivial⟩⟩, rfl⟩
  ·
   have h5' := of_decide_eq_false h5
   refine t_skip ?_
   refine tsr ?_
   refine r_op oM ?_
   refine r_op oM ?_
   refine r_op (o_subSh rfl Tryz.underlying9 rfl rfl (by omega) (by (have e8 := ne_len (by assumption); omega))) ?_
   refine r_op (o_call 2 2 false (Go.Proofs.enters_of Tryz.func168 (by kernel_rfl) rfl) (c_impl_RelationIndex (rs) ((z2).take ((1 : Int)).toNat) (by omega)) rfl (.cons rfl (.c .t0) (.cons rfl (.c .t0) .nil)) rfl rfl rfl) ?_
   refine r_op (o_build rfl (pl := [(0, 1), (1, 1)]) (zs := [.int .i64 (0), .slice none 0 0]) (by kernel_rfl) (by kernel_rfl) rfl rfl rfl) ?_
   refine r_op (o_alloc 2 (zs := [.int .i64 (0), .slice none 0 0]) rfl rfl (by kernel_rfl) rfl) ?_
   refine r_op (oS 2) ?_
   refine r_end ?_
   refine t_seq ?_
   refine tsr ?_
   refine r_op oA ?_
   refine r_end ?_
   refine t_block ?_
   refine gt_nilb 3 (b := 2) (o := 1) (et := 3) (sz := 1) true encI rfl rfl rfl ?_
   have hxl := spl_mem (b := 32) (s := s) (List.mem_of_getElem? hz3); have hx2 : (z2).length ≤ 1048577 := (by omega)
   refine t_loopL (fun n => ⟨[(0, some (.c (.t none (.sl 3 (enS3 encS encI encB) (rs))))), (4, some (.c (.t none (.v (.slice none 0 0))))), (5, some (.c (.own 0))), (7, some (.c (.t none (.v (.string (mkS (z2))))))), (8, some (.c (.ptr 2 0))), (9, some (.c (.t none (.v (.int .i64 ((n : Int))))))), (12, some (.c (.own 1))), (13, some (.c (.t none (.v (.int .i64 (((splP (([32] : List UInt8)) (s)).length : Int))))))), (14, some (.c (.t none (.v (.int .i64 ((m : Int)))))))], [(0, some (.row none 103 true 2 (enS2 encI (enSl 1 encI)) (((splP [32] s).take m).map (pAt rs)))), (1, some (.row none 9 true 1 encS (splP (([32] : List UInt8)) (s)))), (2, some (.box [.t none (.v (.int .i64 (relIx (rs) ((z2).take ((1 : Int)).toNat)))), .own 3])), (3, some (.row none 3 true 1 encI ((((z2).take n).drop 1).map pT)))], 4⟩ : Nat → St) (fun n => 1 ≤ n ∧ n ≤ (z2).length) (fun n => (z2).length - n) 1 ⟨⟨rfl, ⟨rfl, ⟨rfl, ⟨rfl, ⟨rfl, ⟨rfl, ⟨rfl, ⟨rfl, ⟨rfl, trivial⟩⟩⟩⟩⟩⟩⟩⟩⟩, ⟨rfl, ⟨rfl, ⟨rfl, ⟨(eqR pd_init), trivial⟩⟩⟩⟩, rfl⟩ (by exact ⟨Nat.le_refl _, by (exact ne_len (by assumption))⟩) ?_
   rintro n hI ih1
   try dsimp only at hI ih1
   obtain ⟨j1, j2⟩ := hI
   refine t_seq ?_
   refine tsr ?_
   refine r_op oM ?_
   refine r_op oM ?_
   refine r_op (o_lenS rfl Tryz.underlying9 rfl) ?_
   refine r_op oB ?_
   refine r_end ?_
   refine t_cond rfl (fun h10 => ?_) (fun h10 => ?_)
   ·
    have h10' := of_decide_eq_true h10
    refine t_skip ?_
    refine t_seq ?_
    refine t_block ?_
    refine t_draw (fun i => !(Nat.beq i 7 || Nat.beq i 9)) (by kernel_rfl) ?_
    refine dT 0 rfl (pF 1) ?_
    refine dT 1 rfl pL ?_
    refine dT 2 rfl pM ?_
    refine dT 3 rfl pM ?_
    obtain ⟨z11, hz12, b13⟩ := at_get (xs := z2) (n := (n : Int)) (by omega) (by omega)
    refine dT 4 rfl (p_indexS Tryz.underlying9 rfl rfl b13 hz12) ?_
    refine dO 5 rfl (o_call 4 4 false (Go.Proofs.enters_of Tryz.func114 (by kernel_rfl) rfl) (c_impl_parseTerm (z11.toNat : Int) (by exact u8_rng _)) rfl (.cons rfl (.c .t0) .nil) rfl rfl rfl) ?_
    refine dO 6 rfl (o_litS 4 (e := 3) (sz := 1) (zs := [.int .i64 (0)]) rfl rfl (by kernel_rfl) rfl rfl rfl rfl rfl) ?_
    refine dO 7 rfl (o_append 3 (e := 3) (sz := 1) (by' := 8) (pT (u8 (z11.toNat : Int))) rfl (by kernel_rfl) rfl rfl rfl rfl rfl rfl (.cons .sc .nil) rfl (by (simp; omega)) (by (simp; omega))) ?_
    refine dT 8 rfl (pF 1) ?_
    refine dO 9 rfl (oS 1) ?_
    refine d_end (by kernel_rfl) ?_
    refine t_endblock ?_
    refine t_region ?_
    refine r_op oM ?_
    refine r_op oB ?_
    refine r_op oA ?_
    refine r_end ?_
    refine t_le ?_ (ih1 (n + 1) (by (try dsimp only); omega) (by (try dsimp only); omega))
    exact ⟨⟨rfl, ⟨rfl, ⟨rfl, ⟨rfl, ⟨rfl, ⟨(eqI (wr64 (by omega) (by omega))), ⟨rfl, ⟨rfl, ⟨rfl, trivial⟩⟩⟩⟩⟩⟩⟩⟩⟩, ⟨rfl, ⟨rfl, ⟨rfl, ⟨(eqR (pd_char (by omega) hz12)), trivial⟩⟩⟩⟩, rfl⟩
   ·
    have h10' := of_decide_eq_false h10
    refine t_exit rfl ?_
    refine t_region ?_
    refine r_op oM ?_
    refine r_op (oC 2) ?_
    refine r_op (o_litS 4 (e := 103) (sz := 2) (zs := [.int .i64 (0), .slice none 0 0]) rfl rfl (by kernel_rfl) rfl rfl rfl rfl rfl) ?_
    refine r_op (o_append 0 (e := 103) (sz := 2) (by' := 32) ((relIx (rs) ((z2).take ((1 : Int)).toNat), (((z2).take n).drop 1).map pT)) rfl (by kernel_rfl) rfl rfl rfl rfl rfl rfl (.cons .sc (.take (.own rfl) rfl .nil)) rfl (by (simp; omega)) (by (simp; omega))) ?_
    refine r_op oA ?_
    refine r_end ?_
    refine t_endblock ?_
    refine t_region ?_
    refine r_op oB ?_
    refine r_op oM ?_
    refine r_end ?_
    refine t_le ?_ (ih0 (m + 1) (by (try dsimp only); omega) (by (try dsimp only); omega))
    exact ⟨⟨rfl, ⟨rfl, ⟨rfl, ⟨rfl, ⟨rfl, ⟨(eqI (wr64 (by omega) (by omega))), trivial⟩⟩⟩⟩⟩⟩, ⟨(eqR (by exact pd_step hz3 (by assumption) (by omega))), ⟨rfl, trivial⟩⟩, rfl⟩
 ·
  have h1' := of_decide_eq_false h1
  refine t_exit rfl ?_
  refine tsr ?_
  refine r_op oM ?_
  refine r_op oA ?_
  refine r_end ?_
  refine t_ret Tryz.func113 (.tmp rfl .nil) rfl fun E S w u hI hd => ?_
  refine post_mk hI hd ?_ ⟨eqR ?_, trivial⟩ rfl rfl rfl <;> clear hI hd <;> (try clear ih0) <;> (try clear ih1)
  all_goals first | rfl | ((rw [List.take_of_length_le (by omega)]; rfl))
set_option maxHeartbeats 1000000 in
set_option maxRecDepth 10000 in
theorem c_impl_ParseDependency (rs : Rels) (s : List UInt8) (hrs : rs.length ≤ 1048576) (hs : s.length ≤ 1048576) : PuX (mxX 0) Tryz.prog 54 [.c (.t none (.sl 3 (enS3 encS encI encB) (rs))), .c (.t none (.v (.string (mkS (s)))))] [(2, some (.row none 103 true 2 (enS2 encI (enSl 1 encI)) ((parD (rD rs) rs s).1.1))), (3, some (.row none 103 true 2 (enS2 encI (enSl 1 encI)) ((parD (rD rs) rs s).1.2.1)))] 4 (.tup [(true, [.own 2, .own 3, .t none (.v (.bool ((parD (rD rs) rs s).1.2.2.1))), .t none (.v (.int .i64 ((parD (rD rs) rs s).1.2.2.2.1))), .t none (.v (.int .i64 ((parD (rD rs) rs s).1.2.2.2.2)))]), (false, [.t none (.v (.bool ((parD (rD rs) rs s).2)))])]) := by
 refine pu_enterX Tryz.func54 rfl (Nat.le_of_ble_eq_true rfl) fun w S hT => ?_
 have ca := cut_len (b := 62) (s := s); have cb := cut_len (b := 61) (s := s); have xa := pAs_sz (rs := rs) (s := (Lib.cut s [62]).1); have xb := pAs_sz (rs := rs) (s := (Lib.cut s [62]).2.1); have xc := pAs_sz (rs := rs) (s := (Lib.cut s [61]).1); have xn : szS (fun (x : Int × (List (Int))) => (x.2).length) ([] : Atoms) = 0 := szS_nil
 refine tsr ?_
 refine r_op (o_alloc 0 (zs := [.slice none 0 0, .slice none 0 0, .bool (false), .int .i64 (0), .int .i64 (0)]) rfl rfl (by kernel_rfl) rfl) ?_
 refine r_op oA ?_
 refine etr ?_
 refine r_op (o_build rfl (pl := [(0, 1), (1, 1), (2, 1), (3, 1), (4, 1)]) (zs := [.slice none 0 0, .slice none 0 0, .bool (false), .int .i64 (0), .int .i64 (0)]) (by kernel_rfl) (by kernel_rfl) rfl rfl rfl) ?_
 refine r_op (o_alloc 1 (zs := [.slice none 0 0, .slice none 0 0, .bool (false), .int .i64 (0), .int .i64 (0)]) rfl rfl (by kernel_rfl) rfl) ?_
 refine r_op (oS 5) ?_
 refine r_end ?_
 refine t_seq ?_
 refine tsr ?_
 refine r_op oM ?_
 refine r_op (o_callX (fun _ hk => mx_kept hk hT) 2 2 false (Go.Proofs.enters_of Tryz.func112 (by kernel_rfl) rfl) (c_strings_Cut (s) (([62] : List UInt8)) (by omega)) rfl (.cons rfl (.c .t0) (.cons rfl (.c .t0) .nil)) rfl rfl rfl) ?_
 refine r_op oM ?_
 refine r_op (o_extract rfl rfl rfl rfl) ?_
 refine r_op (o_extract rfl rfl rfl rfl) ?_
 refine r_op (o_extract rfl rfl rfl rfl) ?_
 refine r_op oA ?_
 refine r_op oA ?_
 refine r_op oA ?_
 refine etr ?_
 refine r_op oM ?_
 refine r_end ?_
 refine t_cond rfl (fun h1 => ?_) (fun h1 => ?_)
 ·
  have h1' := h1
  refine t_region ?_
  refine r_op oM ?_
  refine r_op oM ?_
  refine r_op (o_callX (fun _ hk => mx_kept hk hT) 2 3 false (Go.Proofs.enters_of Tryz.func113 (by kernel_rfl) rfl) (c_impl_parseAtoms (rs) ((Lib.cut (s) (([62] : List UInt8))).1) (by omega) (by omega)) rfl (.cons rfl (.c .t0) (.cons rfl (.c .t0) .nil)) rfl rfl rfl) ?_
  refine r_op oM ?_
  refine r_op oM ?_
  refine r_op (o_callX (fun _ hk => mx_kept hk hT) 3 4 false (Go.Proofs.enters_of Tryz.func113 (by kernel_rfl) rfl) (c_impl_parseAtoms (rs) ((Lib.cut (s) (([62] : List UInt8))).2.1) (by omega) (by omega)) rfl (.cons rfl (.c .t0) (.cons rfl (.c .t0) .nil)) rfl rfl rfl) ?_
  refine r_op (oF 0) ?_
  refine r_op (oS 1) ?_
  refine r_op (oF 1) ?_
  refine r_op (oS 1) ?_
  refine r_end ?_
  refine t_seq ?_
  refine tsr ?_
  refine r_op oM ?_
  refine r_op (o_str rfl rfl rfl rfl) ?_
  refine r_op oM ?_
  refine r_guard rfl rfl rfl (fun g2 => ?_) (fun g2 => ?_)
  ·
   have g2' := of_decide_eq_false g2
   refine r_op oM ?_
   refine r_guard rfl rfl rfl (fun _ => ?_) (ncf g2)
   refine r_op (oC 5) ?_
   refine r_guard rfl rfl rfl (fun _ => ?_) (ncf g2)
   refine r_op (o_call 4 4 false (Go.Proofs.enters_of Tryz.func55 (by kernel_rfl) rfl) (c_impl_FormatDependency (rs) (pAs (rs) ((Lib.cut (s) (([62] : List UInt8))).1)) (pAs (rs) ((Lib.cut (s) (([62] : List UInt8))).2.1)) (false) (0) (0) (by omega) (by omega) (by exact pAs_ok) (by exact pAs_ok) (by (unfold okI; omega)) (by (unfold okI; omega))) rfl (.cons rfl (.c .t0) (.cons rfl (.agg (.cons (.own rfl) (.cons (.own rfl) (.cons .t0 (.cons .t0 (.cons .t0 .nil)))))) .nil)) rfl rfl rfl) ?_
   refine r_guard rfl rfl rfl (fun _ => ?_) (ncf g2)
   refine r_op oM ?_
   refine r_guard rfl rfl rfl (fun _ => ?_) (ncf g2)
   refine r_op (o_str rfl rfl rfl rfl) ?_
   refine r_op (o_pickF rfl rfl g2 rfl) ?_
   refine r_end ?_
   refine t_cond rfl (fun h3 => ?_) (fun h3 => ?_)
   ·
    have h3' := of_decide_eq_true h3
    refine tsr ?_
    refine r_op (o_build rfl (pl := [(0, 1), (1, 1), (2, 1), (3, 1), (4, 1)]) (zs := [.slice none 0 0, .slice none 0 0, .bool (false), .int .i64 (0), .int .i64 (0)]) (by kernel_rfl) (by kernel_rfl) rfl rfl rfl) ?_
    refine r_op (oS 5) ?_
    refine r_op oA ?_
    refine r_end ?_
    refine gt_nilb 4 (b := 0) (o := 0) (et := 103) (sz := 2) true (enS2 encI (enSl 1 encI)) rfl rfl rfl ?_
    refine gt_nilb 5 (b := 0) (o := 1) (et := 103) (sz := 2) true (enS2 encI (enSl 1 encI)) rfl rfl rfl ?_
    refine gt_mv 2 4 rfl rfl rfl ?_
    refine gt_mv 3 5 rfl rfl rfl ?_
    refine t_ret Tryz.func54 (.cells (n := 5) (by kernel_rfl) (by kernel_rfl) rfl rfl rfl (.tmp rfl .nil)) rfl fun E S w u hI hd => ?_
    refine post_mk hI hd ?_ ⟨eqR ?_, ⟨eqR ?_, trivial⟩⟩ rfl rfl rfl <;> clear hI hd
    all_goals ((have K : pD rs s = _ := (by exact pD_1 (by assumption))); (have K2 := par_is (p := pD rs) (rs := rs) K); (rw [← par_eq rs s, K2.2 (by grind)]; first | done | rfl))
   ·
    have h3' := of_decide_eq_false h3
    refine t_skip ?_
    refine tsr ?_
    refine r_op (oC 5) ?_
    refine r_op (oS 5) ?_
    refine r_op oA ?_
    refine r_end ?_
    refine t_ret Tryz.func54 (.cells (n := 5) (by kernel_rfl) (by kernel_rfl) rfl rfl rfl (.tmp rfl .nil)) rfl fun E S w u hI hd => ?_
    refine post_mk hI hd ?_ ⟨eqR ?_, ⟨eqR ?_, trivial⟩⟩ rfl rfl rfl <;> clear hI hd
    all_goals ((have K : pD rs s = _ := (by exact pD_1 (by assumption))); (have K2 := par_is (p := pD rs) (rs := rs) K); (rw [← par_eq rs s, K2.1 (by grind)]; first | done | rfl))
  ·
   have g2' := of_decide_eq_true g2
   refine r_guard rfl rfl rfl (nc g2) (fun _ => ?_)
   refine r_guard rfl rfl rfl (nc g2) (fun _ => ?_)
   refine r_guard rfl rfl rfl (nc g2) (fun _ => ?_)
   refine r_guard rfl rfl rfl (nc g2) (fun _ => ?_)
   refine r_op (o_pickT rfl rfl g2 rfl) ?_
   refine r_end ?_
   refine t_cond rfl (fun _ => ?_) (nc rfl)
   refine tsr ?_
   refine r_op (o_build rfl (pl := [(0, 1), (1, 1), (2, 1), (3, 1), (4, 1)]) (zs := [.slice none 0 0, .slice none 0 0, .bool (false), .int .i64 (0), .int .i64 (0)]) (by kernel_rfl) (by kernel_rfl) rfl rfl rfl) ?_
   refine r_op (oS 5) ?_
   refine r_op oA ?_
   refine r_end ?_
   refine gt_nilb 4 (b := 0) (o := 0) (et := 103) (sz := 2) true (enS2 encI (enSl 1 encI)) rfl rfl rfl ?_
   refine gt_nilb 5 (b := 0) (o := 1) (et := 103) (sz := 2) true (enS2 encI (enSl 1 encI)) rfl rfl rfl ?_
   refine gt_mv 2 4 rfl rfl rfl ?_
   refine gt_mv 3 5 rfl rfl rfl ?_
   refine t_ret Tryz.func54 (.cells (n := 5) (by kernel_rfl) (by kernel_rfl) rfl rfl rfl (.tmp rfl .nil)) rfl fun E S w u hI hd => ?_
   refine post_mk hI hd ?_ ⟨eqR ?_, ⟨eqR ?_, trivial⟩⟩ rfl rfl rfl <;> clear hI hd
   all_goals ((have K : pD rs s = _ := (by exact pD_1 (by assumption))); (have K2 := par_is (p := pD rs) (rs := rs) K); (rw [← par_eq rs s, K2.2 (by grind)]; first | done | rfl))
 ·
  have h1' := h1
  refine tsr ?_
  refine r_op oM ?_
  refine r_op (o_callX (fun _ hk => mx_kept hk hT) 2 2 false (Go.Proofs.enters_of Tryz.func112 (by kernel_rfl) rfl) (c_strings_Cut (s) (([61] : List UInt8)) (by omega)) rfl (.cons rfl (.c .t0) (.cons rfl (.c .t0) .nil)) rfl rfl rfl) ?_
  refine r_op oM ?_
  refine r_op (o_extract rfl rfl rfl rfl) ?_
  refine r_op (o_extract rfl rfl rfl rfl) ?_
  refine r_op (o_extract rfl rfl rfl rfl) ?_
  refine r_op oA ?_
  refine r_op oA ?_
  refine r_op oA ?_
  refine etr ?_
  refine r_op oM ?_
  refine r_op oM ?_
  refine r_guard rfl rfl rfl (fun g4 => ?_) (fun g4 => ?_)
  ·
   have g4' := g4
   refine r_op oM ?_
   refine r_guard rfl rfl rfl (fun _ => ?_) (nc g4)
   refine r_op (o_lenS rfl Tryz.underlying9 rfl) ?_
   refine r_guard rfl rfl rfl (fun _ => ?_) (nc g4)
   refine r_op oB ?_
   refine r_op (o_pickT rfl rfl g4 rfl) ?_
   refine r_end ?_
   refine t_cond rfl (fun h5 => ?_) (fun h5 => ?_)
   ·
    have h5' := of_decide_eq_true h5
    refine t_draw (fun i => !(Nat.beq i 10)) (by kernel_rfl) ?_
    refine dT 0 rfl pM ?_
    refine dT 1 rfl pM ?_
    refine dT 3 rfl pM ?_
    obtain ⟨z6, hz7, b8⟩ := at_get (xs := (Lib.cut (s) (([61] : List UInt8))).2.1) (n := 0) (by omega) (by omega)
    refine dT 4 rfl (p_indexS Tryz.underlying9 rfl rfl b8 hz7) ?_
    refine dT 6 rfl pM ?_
    obtain ⟨z9, hz10, b11⟩ := at_get (xs := (Lib.cut (s) (([61] : List UInt8))).2.1) (n := 1) (by omega) (by omega)
    refine dT 7 rfl (p_indexS Tryz.underlying9 rfl rfl b11 hz10) ?_
    refine dO 2 rfl (o_callX (fun _ hk => mx_kept hk hT) 2 3 false (Go.Proofs.enters_of Tryz.func113 (by kernel_rfl) rfl) (c_impl_parseAtoms (rs) ((Lib.cut (s) (([61] : List UInt8))).1) (by omega) (by omega)) rfl (.cons rfl (.c .t0) (.cons rfl (.c .t0) .nil)) rfl rfl rfl) ?_
    refine dO 5 rfl (o_call 3 3 false (Go.Proofs.enters_of Tryz.func114 (by kernel_rfl) rfl) (c_impl_parseTerm (z6.toNat : Int) (by exact u8_rng _)) rfl (.cons rfl (.c .t0) .nil) rfl rfl rfl) ?_
    refine dO 8 rfl (o_call 3 3 false (Go.Proofs.enters_of Tryz.func114 (by kernel_rfl) rfl) (c_impl_parseTerm (z9.toNat : Int) (by exact u8_rng _)) rfl (.cons rfl (.c .t0) .nil) rfl rfl rfl) ?_
    refine dT 9 rfl (p_build (pl := [(0, 1), (1, 1), (2, 1), (3, 1), (4, 1)]) (zs := [.slice none 0 0, .slice none 0 0, .bool (false), .int .i64 (0), .int .i64 (0)]) (by kernel_rfl) (by kernel_rfl) rfl rfl rfl) ?_
    refine dO 10 rfl (oS 5) ?_
    refine d_end (by kernel_rfl) ?_
    refine t_seq ?_
    refine tsr ?_
    refine r_op oM ?_
    refine r_op (o_str rfl rfl rfl rfl) ?_
    refine r_op oM ?_
    refine r_guard rfl rfl rfl (fun g12 => ?_) (fun g12 => ?_)
    ·
     have g12' := of_decide_eq_false g12
     refine r_op oM ?_
     refine r_guard rfl rfl rfl (fun _ => ?_) (ncf g12)
     refine r_op (oC 5) ?_
     refine r_guard rfl rfl rfl (fun _ => ?_) (ncf g12)
     refine r_op (o_call 3 3 false (Go.Proofs.enters_of Tryz.func55 (by kernel_rfl) rfl) (c_impl_FormatDependency (rs) (pAs (rs) ((Lib.cut (s) (([61] : List UInt8))).1)) ([]) (true) (pT (u8 (z6.toNat : Int))) (pT (u8 (z9.toNat : Int))) (by omega) (by omega) (by exact pAs_ok) (by (simp only [List.not_mem_nil, false_implies, implies_true])) (by exact pT_okI _) (by exact pT_okI _)) rfl (.cons rfl (.c .t0) (.cons rfl (.agg (.cons (.own rfl) (.cons .nil (.cons .t0 (.cons .t0 (.cons .t0 .nil)))))) .nil)) rfl rfl rfl) ?_
     refine r_guard rfl rfl rfl (fun _ => ?_) (ncf g12)
     refine r_op oM ?_
     refine r_guard rfl rfl rfl (fun _ => ?_) (ncf g12)
     refine r_op (o_str rfl rfl rfl rfl) ?_
     refine r_op (o_pickF rfl rfl g12 rfl) ?_
     refine r_end ?_
     refine t_cond rfl (fun h13 => ?_) (fun h13 => ?_)
     ·
      have h13' := of_decide_eq_true h13
      refine tsr ?_
      refine r_op (o_build rfl (pl := [(0, 1), (1, 1), (2, 1), (3, 1), (4, 1)]) (zs := [.slice none 0 0, .slice none 0 0, .bool (false), .int .i64 (0), .int .i64 (0)]) (by kernel_rfl) (by kernel_rfl) rfl rfl rfl) ?_
      refine r_op (oS 5) ?_
      refine r_op oA ?_
      refine r_end ?_
      refine gt_nilb 3 (b := 0) (o := 0) (et := 103) (sz := 2) true (enS2 encI (enSl 1 encI)) rfl rfl rfl ?_
      refine gt_nilb 4 (b := 0) (o := 1) (et := 103) (sz := 2) true (enS2 encI (enSl 1 encI)) rfl rfl rfl ?_
      refine gt_mv 2 3 rfl rfl rfl ?_
      refine gt_mv 3 4 rfl rfl rfl ?_
      refine t_ret Tryz.func54 (.cells (n := 5) (by kernel_rfl) (by kernel_rfl) rfl rfl rfl (.tmp rfl .nil)) rfl fun E S w u hI hd => ?_
      refine post_mk hI hd ?_ ⟨eqR ?_, ⟨eqR ?_, trivial⟩⟩ rfl rfl rfl <;> clear hI hd
      all_goals ((have K : pD rs s = _ := (by exact pDa (by assumption) (by assumption) (by omega) (by assumption) (by assumption))); (have K2 := par_is (p := pD rs) (rs := rs) K); (rw [← par_eq rs s, K2.2 (by grind)]; first | done | rfl))
     ·
      have h13' := of_decide_eq_false h13
      refine t_skip ?_
      refine tsr ?_
      refine r_op (oC 5) ?_
      refine r_op (oS 5) ?_
      refine r_op oA ?_
      refine r_end ?_
      refine gt_nilb 3 (b := 0) (o := 1) (et := 103) (sz := 2) true (enS2 encI (enSl 1 encI)) rfl rfl rfl ?_
      refine t_ret Tryz.func54 (.cells (n := 5) (by kernel_rfl) (by kernel_rfl) rfl rfl rfl (.tmp rfl .nil)) rfl fun E S w u hI hd => ?_
      refine post_mk hI hd ?_ ⟨eqR ?_, ⟨eqR ?_, trivial⟩⟩ rfl rfl rfl <;> clear hI hd
      all_goals ((have K : pD rs s = _ := (by exact pDa (by assumption) (by assumption) (by omega) (by assumption) (by assumption))); (have K2 := par_is (p := pD rs) (rs := rs) K); (rw [← par_eq rs s, K2.1 (by grind)]; first | done | rfl))
    ·
     have g12' := of_decide_eq_true g12
     refine r_guard rfl rfl rfl (nc g12) (fun _ => ?_)
     refine r_guard rfl rfl rfl (nc g12) (fun _ => ?_)
     refine r_guard rfl rfl rfl (nc g12) (fun _ => ?_)
     refine r_guard rfl rfl rfl (nc g12) (fun _ => ?_)
     refine r_op (o_pickT rfl rfl g12 rfl) ?_
     refine r_end ?_
     refine t_cond rfl (fun _ => ?_) (nc rfl)
     refine tsr ?_
     refine r_op (o_build rfl (pl := [(0, 1), (1, 1), (2, 1), (3, 1), (4, 1)]) (zs := [.slice none 0 0, .slice none 0 0, .bool (false), .int .i64 (0), .int .i64 (0)]) (by kernel_rfl) (by kernel_rfl) rfl rfl rfl) ?_
     refine r_op (oS 5) ?_
     refine r_op oA ?_
     refine r_end ?_
     refine gt_nilb 3 (b := 0) (o := 0) (et := 103) (sz := 2) true (enS2 encI (enSl 1 encI)) rfl rfl rfl ?_
     refine gt_nilb 4 (b := 0) (o := 1) (et := 103) (sz := 2) true (enS2 encI (enSl 1 encI)) rfl rfl rfl ?_
     refine gt_mv 2 3 rfl rfl rfl ?_
     refine gt_mv 3 4 rfl rfl rfl ?_
     refine t_ret Tryz.func54 (.cells (n := 5) (by kernel_rfl) (by kernel_rfl) rfl rfl rfl (.tmp rfl .nil)) rfl fun E S w u hI hd => ?_
     refine post_mk hI hd ?_ ⟨eqR ?_, ⟨eqR ?_, trivial⟩⟩ rfl rfl rfl <;> clear hI hd
     all_goals ((have K : pD rs s = _ := (by exact pDa (by assumption) (by assumption) (by omega) (by assumption) (by assumption))); (have K2 := par_is (p := pD rs) (rs := rs) K); first | (rw [← par_eq rs s, K2.1 (by grind)]; (done)) | (rw [← par_eq rs s, K2.2 (by grind)]; first | done | rfl))
   ·
    have h5' := of_decide_eq_false h5
    refine t_skip ?_
    refine t_seq ?_
    refine tsr ?_
    refine r_op oM ?_
    refine r_op (o_str rfl rfl rfl rfl) ?_
    refine r_op oM ?_
    refine r_guard rfl rfl rfl (fun g14 => ?_) (fun g14 => ?_)
    ·
     have g14' := of_decide_eq_false g14
     refine r_op oM ?_
     refine r_guard rfl rfl rfl (fun _ => ?_) (ncf g14)
     refine r_op (oC 5) ?_
     refine r_guard rfl rfl rfl (fun _ => ?_) (ncf g14)
     refine r_op (o_call 2 2 false (Go.Proofs.enters_of Tryz.func55 (by kernel_rfl) rfl) (c_impl_FormatDependency (rs) ([]) ([]) (false) (0) (0) (by omega) (by omega) (by (simp only [List.not_mem_nil, false_implies, implies_true])) (by (simp only [List.not_mem_nil, false_implies, implies_true])) (by (unfold okI; omega)) (by (unfold okI; omega))) rfl (.cons rfl (.c .t0) (.cons rfl (.agg (.cons .nil (.cons .nil (.cons .t0 (.cons .t0 (.cons .t0 .nil)))))) .nil)) rfl rfl rfl) ?_
     refine r_guard rfl rfl rfl (fun _ => ?_) (ncf g14)
     refine r_op oM ?_
     refine r_guard rfl rfl rfl (fun _ => ?_) (ncf g14)
     refine r_op (o_str rfl rfl rfl rfl) ?_
     refine r_op (o_pickF rfl rfl g14 rfl) ?_
     refine r_end ?_
     refine t_cond rfl (fun h15 => ?_) (fun h15 => ?_)
     ·
      have h15' := of_decide_eq_true h15
      refine tsr ?_
      refine r_op (o_build rfl (pl := [(0, 1), (1, 1), (2, 1), (3, 1), (4, 1)]) (zs := [.slice none 0 0, .slice none 0 0, .bool (false), .int .i64 (0), .int .i64 (0)]) (by kernel_rfl) (by kernel_rfl) rfl rfl rfl) ?_
      refine r_op (oS 5) ?_
      refine r_op oA ?_
      refine r_end ?_
      refine gt_nilb 2 (b := 0) (o := 0) (et := 103) (sz := 2) true (enS2 encI (enSl 1 encI)) rfl rfl rfl ?_
      refine gt_nilb 3 (b := 0) (o := 1) (et := 103) (sz := 2) true (enS2 encI (enSl 1 encI)) rfl rfl rfl ?_
      refine t_ret Tryz.func54 (.cells (n := 5) (by kernel_rfl) (by kernel_rfl) rfl rfl rfl (.tmp rfl .nil)) rfl fun E S w u hI hd => ?_
      refine post_mk hI hd ?_ ⟨eqR ?_, ⟨eqR ?_, trivial⟩⟩ rfl rfl rfl <;> clear hI hd
      all_goals ((have K : pD rs s = _ := (by exact pDz (by assumption) (.inr (by omega)))); (have K2 := par_is (p := pD rs) (rs := rs) K); (rw [← par_eq rs s, K2.2 (by grind)]; first | done | rfl))
     ·
      have h15' := of_decide_eq_false h15
      refine t_skip ?_
      refine tsr ?_
      refine r_op (oC 5) ?_
      refine r_op (oS 5) ?_
      refine r_op oA ?_
      refine r_end ?_
      refine gt_nilb 2 (b := 0) (o := 0) (et := 103) (sz := 2) true (enS2 encI (enSl 1 encI)) rfl rfl rfl ?_
      refine gt_nilb 3 (b := 0) (o := 1) (et := 103) (sz := 2) true (enS2 encI (enSl 1 encI)) rfl rfl rfl ?_
      refine t_ret Tryz.func54 (.cells (n := 5) (by kernel_rfl) (by kernel_rfl) rfl rfl rfl (.tmp rfl .nil)) rfl fun E S w u hI hd => ?_
      refine post_mk hI hd ?_ ⟨eqR ?_, ⟨eqR ?_, trivial⟩⟩ rfl rfl rfl <;> clear hI hd
      all_goals ((have K : pD rs s = _ := (by exact pDz (by assumption) (.inr (by omega)))); (have K2 := par_is (p := pD rs) (rs := rs) K); (rw [← par_eq rs s, K2.1 (by grind)]; first | done | rfl))
    ·
     have g14' := of_decide_eq_true g14
     refine r_guard rfl rfl rfl (nc g14) (fun _ => ?_)
     refine r_guard rfl rfl rfl (nc g14) (fun _ => ?_)
     refine r_guard rfl rfl rfl (nc g14) (fun _ => ?_)
     refine r_guard rfl rfl rfl (nc g14) (fun _ => ?_)
     refine r_op (o_pickT rfl rfl g14 rfl) ?_
     refine r_end ?_
     refine t_cond rfl (fun _ => ?_) (nc rfl)
     refine tsr ?_
     refine r_op (o_build rfl (pl := [(0, 1), (1, 1), (2, 1), (3, 1), (4, 1)]) (zs := [.slice none 0 0, .slice none 0 0, .bool (false), .int .i64 (0), .int .i64 (0)]) (by kernel_rfl) (by kernel_rfl) rfl rfl rfl) ?_
     refine r_op (oS 5) ?_
     refine r_op oA ?_
     refine r_end ?_
     refine gt_nilb 2 (b := 0) (o := 0) (et := 103) (sz := 2) true (enS2 encI (enSl 1 encI)) rfl rfl rfl ?_
     refine gt_nilb 3 (b := 0) (o := 1) (et := 103) (sz := 2) true (enS2 encI (enSl 1 encI)) rfl rfl rfl ?_
     refine t_ret Tryz.func54 (.cells (n := 5) (by kernel_rfl) (by kernel_rfl) rfl rfl rfl (.tmp rfl .nil)) rfl fun E S w u hI hd => ?_
     refine post_mk hI hd ?_ ⟨eqR ?_, ⟨eqR ?_, trivial⟩⟩ rfl rfl rfl <;> clear hI hd
     all_goals ((have K : pD rs s = _ := (by exact pDz (by assumption) (.inr (by omega)))); (have K2 := par_is (p := pD rs) (rs := rs) K); first | (rw [← par_eq rs s, K2.1 (by grind)]; (done)) | (rw [← par_eq rs s, K2.2 (by grind)]; (rfl)))
  ·
   have g4' := g4
   refine r_guard rfl rfl rfl (ncf g4) (fun _ => ?_)
   refine r_guard rfl rfl rfl (ncf g4) (fun _ => ?_)
   refine r_op (o_pickF rfl rfl g4 rfl) ?_
   refine r_end ?_
   refine t_cond rfl (ncf rfl) (fun _ => ?_)
   refine t_skip ?_
   refine t_seq ?_
   refine tsr ?_
   refine r_op oM ?_
   refine r_op (o_str rfl rfl rfl rfl) ?_
   refine r_op oM ?_
   refine r_guard rfl rfl rfl (fun g16 => ?_) (fun g16 => ?_)
   ·
    have g16' := of_decide_eq_false g16
    refine r_op oM ?_
    refine r_guard rfl rfl rfl (fun _ => ?_) (ncf g16)
    refine r_op (oC 5) ?_
    refine r_guard rfl rfl rfl (fun _ => ?_) (ncf g16)
    refine r_op (o_call 2 2 false (Go.Proofs.enters_of Tryz.func55 (by kernel_rfl) rfl) (c_impl_FormatDependency (rs) ([]) ([]) (false) (0) (0) (by omega) (by omega) (by (simp only [List.not_mem_nil, false_implies, implies_true])) (by (simp only [List.not_mem_nil, false_implies, implies_true])) (by (unfold okI; omega)) (by (unfold okI; omega))) rfl (.cons rfl (.c .t0) (.cons rfl (.agg (.cons .nil (.cons .nil (.cons .t0 (.cons .t0 (.cons .t0 .nil)))))) .nil)) rfl rfl rfl) ?_
    refine r_guard rfl rfl rfl (fun _ => ?_) (ncf g16)
    refine r_op oM ?_
    refine r_guard rfl rfl rfl (fun _ => ?_) (ncf g16)
    refine r_op (o_str rfl rfl rfl rfl) ?_
    refine r_op (o_pickF rfl rfl g16 rfl) ?_
    refine r_end ?_
    refine t_cond rfl (fun h17 => ?_) (fun h17 => ?_)
    ·
     have h17' := of_decide_eq_true h17
     refine tsr ?_
     refine r_op (o_build rfl (pl := [(0, 1), (1, 1), (2, 1), (3, 1), (4, 1)]) (zs := [.slice none 0 0, .slice none 0 0, .bool (false), .int .i64 (0), .int .i64 (0)]) (by kernel_rfl) (by kernel_rfl) rfl rfl rfl) ?_
     refine r_op (oS 5) ?_
     refine r_op oA ?_
     refine r_end ?_
     refine gt_nilb 2 (b := 0) (o := 0) (et := 103) (sz := 2) true (enS2 encI (enSl 1 encI)) rfl rfl rfl ?_
     refine gt_nilb 3 (b := 0) (o := 1) (et := 103) (sz := 2) true (enS2 encI (enSl 1 encI)) rfl rfl rfl ?_
     refine t_ret Tryz.func54 (.cells (n := 5) (by kernel_rfl) (by kernel_rfl) rfl rfl rfl (.tmp rfl .nil)) rfl fun E S w u hI hd => ?_
     refine post_mk hI hd ?_ ⟨eqR ?_, ⟨eqR ?_, trivial⟩⟩ rfl rfl rfl <;> clear hI hd
     all_goals ((have K : pD rs s = _ := (by exact pDz (by assumption) (.inl (by assumption)))); (have K2 := par_is (p := pD rs) (rs := rs) K); (rw [← par_eq rs s, K2.2 (by grind)]; first | done | rfl))
    ·
     have h17' := of_decide_eq_false h17
     refine t_skip ?_
     refine tsr ?_
     refine r_op (oC 5) ?_
     refine r_op (oS 5) ?_
     refine r_op oA ?_
     refine r_end ?_
     refine gt_nilb 2 (b := 0) (o := 0) (et := 103) (sz := 2) true (enS2 encI (enSl 1 encI)) rfl rfl rfl ?_
     refine gt_nilb 3 (b := 0) (o := 1) (et := 103) (sz := 2) true (enS2 encI (enSl 1 encI)) rfl rfl rfl ?_
     refine t_ret Tryz.func54 (.cells (n := 5) (by kernel_rfl) (by kernel_rfl) rfl rfl rfl (.tmp rfl .nil)) rfl fun E S w u hI hd => ?_
     refine post_mk hI hd ?_ ⟨eqR ?_, ⟨eqR ?_, trivial⟩⟩ rfl rfl rfl <;> clear hI hd
     all_goals ((have K : pD rs s = _ := (by exact pDz (by assumption) (.inl (by assumption)))); (have K2 := par_is (p := pD rs) (rs := rs) K); (rw [← par_eq rs s, K2.1 (by grind)]; first | done | rfl))
   ·
    have g16' := of_decide_eq_true g16
    refine r_guard rfl rfl rfl (nc g16) (fun _ => ?_)
    refine r_guard rfl rfl rfl (nc g16) (fun _ => ?_)
    refine r_guard rfl rfl rfl (nc g16) (fun _ => ?_)
    refine r_guard rfl rfl rfl (nc g16) (fun _ => ?_)
    refine r_op (o_pickT rfl rfl g16 rfl) ?_
    refine r_end ?_
    refine t_cond rfl (fun _ => ?_) (nc rfl)
    refine tsr ?_
    refine r_op (o_build rfl (pl := [(0, 1), (1, 1), (2, 1), (3, 1), (4, 1)]) (zs := [.slice none 0 0, .slice none 0 0, .bool (false), .int .i64 (0), .int .i64 (0)]) (by kernel_rfl) (by kernel_rfl) rfl rfl rfl) ?_
    refine r_op (oS 5) ?_
    refine r_op oA ?_
    refine r_end ?_
    refine gt_nilb 2 (b := 0) (o := 0) (et := 103) (sz := 2) true (enS2 encI (enSl 1 encI)) rfl rfl rfl ?_
    refine gt_nilb 3 (b := 0) (o := 1) (et := 103) (sz := 2) true (enS2 encI (enSl 1 encI)) rfl rfl rfl ?_
    refine t_ret Tryz.func54 (.cells (n := 5) (by kernel_rfl) (by kernel_rfl) rfl rfl rfl (.tmp rfl .nil)) rfl fun E S w u hI hd => ?_
    refine post_mk hI hd ?_ ⟨eqR ?_, ⟨eqR ?_, trivial⟩⟩ rfl rfl rfl <;> clear hI hd
    all_goals ((have K : pD rs s = _ := (by exact pDz (by assumption) (.inl (by assumption)))); (have K2 := par_is (p := pD rs) (rs := rs) K); (rw [← par_eq rs s, K2.2 (by grind)]; first | done | rfl))
set_option maxHeartbeats 1000000 in
set_option maxRecDepth 10000 in
theorem c_impl_ParseDependencies (rs : Rels) (s : List UInt8) (hrs : rs.length ≤ 1048576) (hs : s.length ≤ 1048576) : PuX (mxX 0) Tryz.prog 22 [.c (.t none (.sl 3 (enS3 encS encI encB) (rs))), .c (.t none (.v (.string (mkS (s)))))] [(0, some (.row none 57 true 5 (enS5 (enSl 2 (enS2 encI (enSl 1 encI))) (enSl 2 (enS2 encI (enSl 1 encI))) encB encI encI) ((parS rs s).1)))] 1 (.tup [(false, [.own 0]), (false, [.t none (.v (.bool ((parS rs s).2)))])]) := by
 refine pu_enterX Tryz.func22 rfl (Nat.le_of_ble_eq_true rfl) fun w S hT => ?_
 refine tsr ?_
 refine r_op oA ?_
 refine r_op oA ?_
 refine etr ?_
 refine r_op (o_lit0 0 (e := 57) (sz := 5) (zs := [.slice none 0 0, .slice none 0 0, .bool (false), .int .i64 (0), .int .i64 (0)]) (enS5 (enSl 2 (enS2 encI (enSl 1 encI))) (enSl 2 (enS2 encI (enSl 1 encI))) encB encI encI) rfl rfl (by kernel_rfl) rfl) ?_
 refine r_op oA ?_
 refine r_end ?_
 refine t_seq ?_
 refine tsr ?_
 refine r_op oM ?_
 refine r_op (o_str rfl rfl rfl rfl) ?_
 refine r_end ?_
 refine t_cond rfl (fun h1 => ?_) (fun h1 => ?_)
 ·
  have h1' := of_decide_eq_true h1
  refine tsr ?_
  refine r_op oM ?_
  refine r_op oM ?_
  refine r_op (o_call 1 1 false (Go.Proofs.enters_of Tryz.func52 (by kernel_rfl) rfl) (c_impl_AreValidRelations (rs) (by omega)) rfl (.cons rfl (.c .t0) .nil) rfl rfl rfl) ?_
  refine r_op oA ?_
  refine r_op oA ?_
  refine r_end ?_
  refine t_ret Tryz.func22 (.tmp rfl (.tmp rfl .nil)) rfl fun E S w u hI hd => ?_
  refine post_mk hI hd ?_ ⟨eqR ?_, trivial⟩ rfl rfl rfl <;> clear hI hd <;> (try clear ih0)
  all_goals ((have K : parS rs s = _ := (by exact qs_nil (by assumption))); rw [K]; (first | done | rfl))
 ·
  have h1' := of_decide_eq_false h1
  refine t_skip ?_
  refine t_seq ?_
  refine tsr ?_
  refine r_op oM ?_
  refine r_op (o_callX (fun _ hk => mx_kept hk hT) 1 2 false (Go.Proofs.enters_of Tryz.func53 (by kernel_rfl) rfl) (c_strings_Split (s) (([59] : List UInt8)) (by rfl) (by omega)) rfl (.cons rfl (.c .t0) (.cons rfl (.c .t0) .nil)) rfl rfl rfl) ?_
  refine r_op (o_leno rfl rfl rfl rfl) ?_
  refine r_op oM ?_
  refine r_end ?_
  refine t_block ?_
  refine t_loopL (fun m => ⟨[(0, some (.c (.t none (.sl 3 (enS3 encS encI encB) (rs))))), (1, some (.c (.t none (.v (.string (mkS (s))))))), (6, some (.c (.own 0))), (18, some (.c (.own 1))), (19, some (.c (.t none (.v (.int .i64 (((splP (([59] : List UInt8)) (s)).length : Int))))))), (20, some (.c (.t none (.v (.int .i64 ((m : Int)))))))], [(0, some (.row none 57 true 5 (enS5 (enSl 2 (enS2 encI (enSl 1 encI))) (enSl 2 (enS2 encI (enSl 1 encI))) encB encI encI) (((splP [59] s).take m).map (fun x => (parD (rD rs) rs x).1)))), (1, some (.row none 9 true 1 encS (splP (([59] : List UInt8)) (s))))], 2⟩ : Nat → St) (fun m => m ≤ (splP [59] s).length ∧ ((splP [59] s).take m).all (okP rs) = true) (fun m => (splP [59] s).length - m) 0 ⟨⟨rfl, ⟨rfl, ⟨rfl, ⟨rfl, ⟨rfl, ⟨rfl, trivial⟩⟩⟩⟩⟩⟩, ⟨rfl, ⟨rfl, trivial⟩⟩, rfl⟩ (by exact ⟨Nat.zero_le _, rfl⟩) ?_
  rintro m hI ih0
  try dsimp only at hI ih0
  obtain ⟨i1, i2⟩ := hI; have l1 : (splP [59] s).length ≤ s.length + 1 := spl_len (b := 59) (s := s)
  refine tsr ?_
  refine r_op oB ?_
  refine r_end ?_
  refine t_seq ?_
  refine t_cond rfl (fun h2 => ?_) (fun h2 => ?_)
  ·
   have h2' := of_decide_eq_true h2
   refine t_skip ?_
   refine t_seq ?_
   refine t_block ?_
   refine tsr ?_
   obtain ⟨z3, hz4, b5⟩ := at_get (xs := splP (([59] : List UInt8)) (s)) (n := (m : Int)) (by omega) (by omega)
   refine r_op (o_indexo rfl (by kernel_rfl) rfl rfl rfl b5 (at_lt b5 hz4)) ?_
   refine r_op (o_load1o rfl (by kernel_rfl) rfl rfl rfl hz4) ?_
   refine r_op oA ?_
   refine etr ?_
   refine r_op oM ?_
   refine r_op oM ?_
   refine r_op (o_callX (fun _ hk => mx_kept hk hT) 2 6 false (Go.Proofs.enters_of Tryz.func54 (by kernel_rfl) rfl) (c_impl_ParseDependency (rs) (z3) (by omega) (by exact Nat.le_trans (piece_len (b := 59) (s := s) (by assumption)) (by omega))) rfl (.cons rfl (.c .t0) (.cons rfl (.c .t0) .nil)) rfl rfl rfl) ?_
   refine r_op oM ?_
   refine r_op (o_extract rfl rfl rfl rfl) ?_
   refine r_op (o_extract rfl rfl rfl rfl) ?_
   refine r_op (o_alloc 6 (zs := [.slice none 0 0, .slice none 0 0, .bool (false), .int .i64 (0), .int .i64 (0)]) rfl rfl (by kernel_rfl) rfl) ?_
   refine r_op (oS 5) ?_
   refine r_op oA ?_
   refine r_end ?_
   refine t_seq ?_
   refine tsr ?_
   refine r_op oM ?_
   refine r_op (o_not rfl rfl) ?_
   refine r_end ?_
   refine t_cond rfl (fun h6 => ?_) (fun h6 => ?_)
   ·
    have h6' := (bnt h6)
    refine tsr ?_
    refine r_op (o_lit0 7 (e := 57) (sz := 5) (zs := [.slice none 0 0, .slice none 0 0, .bool (false), .int .i64 (0), .int .i64 (0)]) (enS5 (enSl 2 (enS2 encI (enSl 1 encI))) (enSl 2 (enS2 encI (enSl 1 encI))) encB encI encI) rfl rfl (by kernel_rfl) rfl) ?_
    refine r_op oA ?_
    refine r_op oA ?_
    refine r_end ?_
    refine gt_mv 0 7 rfl rfl rfl ?_
    refine t_ret Tryz.func22 (.tmp rfl (.tmp rfl .nil)) rfl fun E S w u hI hd => ?_
    refine post_mk hI hd ?_ ⟨eqR ?_, trivial⟩ rfl rfl rfl <;> clear hI hd <;> (try clear ih0)
    all_goals ((have K : parS rs s = _ := (by exact qs_rej (by assumption) hz4 (by assumption))); rw [K]; (first | done | rfl))
   ·
    have h6' := (bnf h6)
    refine t_skip ?_
    refine t_region ?_
    refine r_op oM ?_
    refine r_op (oC 5) ?_
    refine r_op (o_litS 7 (e := 57) (sz := 5) (zs := [.slice none 0 0, .slice none 0 0, .bool (false), .int .i64 (0), .int .i64 (0)]) rfl rfl (by kernel_rfl) rfl rfl rfl rfl rfl) ?_
    refine r_op (o_append 0 (e := 57) (sz := 5) (by' := 72) (((parD (rD (rs)) (rs) (z3)).1.1, (parD (rD (rs)) (rs) (z3)).1.2.1, (parD (rD (rs)) (rs) (z3)).1.2.2.1, (parD (rD (rs)) (rs) (z3)).1.2.2.2.1, (parD (rD (rs)) (rs) (z3)).1.2.2.2.2)) rfl (by kernel_rfl) rfl rfl rfl rfl rfl rfl (.take (.own rfl) rfl (.take (.own rfl) rfl (.cons .sc (.cons .sc (.cons .sc .nil))))) rfl (by (simp; omega)) (by (simp; omega))) ?_
    refine r_op oA ?_
    refine r_end ?_
    refine t_endblock ?_
    refine t_region ?_
    refine r_op oB ?_
    refine r_op oM ?_
    refine r_end ?_
    refine t_le ?_ (ih0 (m + 1) (by (try dsimp only); omega) (by (try dsimp only); exact ⟨by omega, all_snoc i2 hz4 (by assumption)⟩))
    exact ⟨⟨rfl, ⟨rfl, ⟨rfl, ⟨rfl, ⟨rfl, ⟨(eqI (wr64 (by omega) (by omega))), trivial⟩⟩⟩⟩⟩⟩, ⟨(eqR (map_snoc hz4)), ⟨rfl, trivial⟩⟩, rfl⟩
  ·
   have h2' := of_decide_eq_false h2
   refine t_exit rfl ?_
   refine t_seq ?_
   refine tsr ?_
   refine r_op oM ?_
   refine r_op oM ?_
   refine r_op (o_call 2 2 false (Go.Proofs.enters_of Tryz.func23 (by kernel_rfl) rfl) (c_impl_FormatDependencies (rs) (((splP [59] s).take m).map (fun x => (parD (rD rs) rs x).1)) (by omega) (by exact Nat.le_trans (ds_room (b := 59) (s := s) i2) (by omega)) (by exact ds_okI _ _)) rfl (.cons rfl (.c .t0) (.cons rfl (.c (.own rfl)) .nil)) rfl rfl rfl) ?_
   refine r_op oM ?_
   refine r_op (o_str rfl rfl rfl rfl) ?_
   refine r_end ?_
   refine t_cond rfl (fun h7 => ?_) (fun h7 => ?_)
   ·
    have h7' := of_decide_eq_true h7
    refine tsr ?_
    refine r_op (o_lit0 2 (e := 57) (sz := 5) (zs := [.slice none 0 0, .slice none 0 0, .bool (false), .int .i64 (0), .int .i64 (0)]) (enS5 (enSl 2 (enS2 encI (enSl 1 encI))) (enSl 2 (enS2 encI (enSl 1 encI))) encB encI encI) rfl rfl (by kernel_rfl) rfl) ?_
    refine r_op oA ?_
    refine r_op oA ?_
    refine r_end ?_
    refine gt_mv 0 2 rfl rfl rfl ?_
    refine t_ret Tryz.func22 (.tmp rfl (.tmp rfl .nil)) rfl fun E S w u hI hd => ?_
    refine post_mk hI hd ?_ ⟨eqR ?_, trivial⟩ rfl rfl rfl <;> clear hI hd <;> (try clear ih0)
    all_goals ((have K : parS rs s = _ := (by exact qs_no (by assumption) (by omega) i2 (by assumption))); rw [K]; (first | done | rfl))
   ·
    have h7' := of_decide_eq_false h7
    refine t_skip ?_
    refine tsr ?_
    refine r_op oM ?_
    refine r_op oA ?_
    refine r_op oA ?_
    refine r_end ?_
    refine t_ret Tryz.func22 (.tmp rfl (.tmp rfl .nil)) rfl fun E S w u hI hd => ?_
    refine post_mk hI hd ?_ ⟨eqR ?_, trivial⟩ rfl rfl rfl <;> clear hI hd <;> (try clear ih0)
    all_goals ((have K : parS rs s = _ := (by exact qs_yes (by assumption) (by omega) i2 (by exact Decidable.not_not.1 (by assumption)))); rw [K]; ((done)))
set_option maxHeartbeats 1000000 in
set_option maxRecDepth 10000 in
theorem c_spec_l1In (a0 a1 a2 : Int) : Pu Tryz.prog 48 [.c (.t none (.v (.int .i64 (a0)))), .c (.t none (.v (.int .i64 (a1)))), .c (.t none (.v (.int .i64 (a2))))] [] 0 (.c (.t none (.v (.bool (decide (a1 ≤ a0 ∧ a0 ≤ a2)))))) := by
 refine pu_enter Tryz.func48 rfl (Nat.le_of_ble_eq_true rfl) fun w S => ?_
 refine tsr ?_
 refine r_op oA ?_
 refine etr ?_
 refine r_op oM ?_
 refine r_op oM ?_
 refine r_op oB ?_
 refine r_op oM ?_
 refine r_guard rfl rfl rfl (fun g1 => ?_) (fun g1 => ?_)
 ·
  have g1' := of_decide_eq_true g1
  refine r_op oM ?_
  refine r_guard rfl rfl rfl (fun _ => ?_) (nc g1)
  refine r_op oM ?_
  refine r_guard rfl rfl rfl (fun _ => ?_) (nc g1)
  refine r_op oB ?_
  refine r_op (o_pickT rfl rfl g1 rfl) ?_
  refine r_op oA ?_
  refine r_end ?_
  refine t_ret Tryz.func48 (.tmp rfl .nil) rfl fun E S w u hI hd => ?_
  refine post_mk hI hd ?_ trivial rfl rfl rfl <;> clear hI hd
  all_goals (simp_all <;> omega)
 ·
  have g1' := of_decide_eq_false g1
  refine r_guard rfl rfl rfl (ncf g1) (fun _ => ?_)
  refine r_guard rfl rfl rfl (ncf g1) (fun _ => ?_)
  refine r_op (o_pickF rfl rfl g1 rfl) ?_
  refine r_op oA ?_
  refine r_end ?_
  refine t_ret Tryz.func48 (.tmp rfl .nil) rfl fun E S w u hI hd => ?_
  refine post_mk hI hd ?_ trivial rfl rfl rfl <;> clear hI hd
  all_goals (simp_all <;> omega)
set_option maxHeartbeats 1000000 in
set_option maxRecDepth 10000 in
theorem c_spec_IsValidRelation (n : List UInt8) (a : Int) (s : Bool) : Pu Tryz.prog 130 [.agg [.t none (.v (.string (mkS (n)))), .t none (.v (.int .i64 (a))), .t none (.v (.bool (s)))]] [] 0 (.c (.t none (.v (.bool (relOk (n, a, s)))))) := by
 refine pu_enter Tryz.func130 rfl (Nat.le_of_ble_eq_true rfl) fun w S => ?_
 refine tsr ?_
 refine r_op (o_box 0 rfl rfl rfl rfl) ?_
 refine r_op oA ?_
 refine etr ?_
 refine r_op (oF 0) ?_
 refine r_op oL ?_
 refine r_op (o_lenS rfl Tryz.underlying9 rfl) ?_
 refine r_op oB ?_
 refine r_op oM ?_
 refine r_guard rfl rfl rfl (fun g1 => ?_) (fun g1 => ?_)
 ·
  have g1' := of_decide_eq_true g1
  refine r_op (oF 0) ?_
  refine r_guard rfl rfl rfl (fun _ => ?_) (nc g1)
  refine r_op oL ?_
  refine r_guard rfl rfl rfl (fun _ => ?_) (nc g1)
  obtain ⟨z2, hz3, b4⟩ := at_get (xs := n) (n := 0) (by omega) (by omega)
  refine r_op (o_indexS rfl Tryz.underlying9 rfl rfl b4 hz3) ?_
  refine r_guard rfl rfl rfl (fun _ => ?_) (nc g1)
  refine r_op oB ?_
  refine r_op (o_pickT rfl rfl g1 rfl) ?_
  refine r_op oM ?_
  refine r_guard rfl rfl rfl (fun g5 => ?_) (fun g5 => ?_)
  ·
   have g5' := of_decide_eq_true g5
   refine r_op (oF 0) ?_
   refine r_guard rfl rfl rfl (fun _ => ?_) (nc g5)
   refine r_op oL ?_
   refine r_guard rfl rfl rfl (fun _ => ?_) (nc g5)
   refine r_op (o_indexS rfl Tryz.underlying9 rfl rfl b4 hz3) ?_
   refine r_guard rfl rfl rfl (fun _ => ?_) (nc g5)
   refine r_op oB ?_
   refine r_op (o_pickT rfl rfl g5 rfl) ?_
   refine r_op oM ?_
   refine r_guard rfl rfl rfl (fun g6 => ?_) (fun g6 => ?_)
   ·
    have g6' := of_decide_eq_true g6
    refine r_op (oF 1) ?_
    refine r_guard rfl rfl rfl (fun _ => ?_) (nc g6)
    refine r_op oL ?_
    refine r_guard rfl rfl rfl (fun _ => ?_) (nc g6)
    refine r_op (o_call 1 1 false (Go.Proofs.enters_of Tryz.func48 (by kernel_rfl) rfl) (c_spec_l1In (a) (1) (3)) rfl (.cons rfl (.c .t0) (.cons rfl (.c .t0) (.cons rfl (.c .t0) .nil))) rfl rfl rfl) ?_
    refine r_op (o_pickT rfl rfl g6 rfl) ?_
    refine r_op oA ?_
    refine r_end ?_
    refine t_ret Tryz.func130 (.tmp rfl .nil) rfl fun E S w u hI hd => ?_
    refine post_mk hI hd ?_ trivial rfl rfl rfl <;> clear hI hd
    all_goals (refine scB ?_; (obtain ⟨c, rfl⟩ := one_of (by assumption); simp at *; subst_vars; simp [relOk, nameOk]; omega))
   ·
    have g6' := of_decide_eq_false g6
    refine r_guard rfl rfl rfl (ncf g6) (fun _ => ?_)
    refine r_guard rfl rfl rfl (ncf g6) (fun _ => ?_)
    refine r_op (o_pickF rfl rfl g6 rfl) ?_
    refine r_op oA ?_
    refine r_end ?_
    refine t_ret Tryz.func130 (.tmp rfl .nil) rfl fun E S w u hI hd => ?_
    refine post_mk hI hd ?_ trivial rfl rfl rfl <;> clear hI hd
    all_goals (refine scB ?_; (obtain ⟨c, rfl⟩ := one_of (by assumption); simp at *; subst_vars; simp [relOk, nameOk]; omega))
  ·
   have g5' := of_decide_eq_false g5
   refine r_guard rfl rfl rfl (ncf g5) (fun _ => ?_)
   refine r_guard rfl rfl rfl (ncf g5) (fun _ => ?_)
   refine r_guard rfl rfl rfl (ncf g5) (fun _ => ?_)
   refine r_op (o_pickF rfl rfl g5 rfl) ?_
   refine r_op oM ?_
   refine r_guard rfl rfl rfl (ncf rfl) (fun _ => ?_)
   refine r_guard rfl rfl rfl (ncf rfl) (fun _ => ?_)
   refine r_guard rfl rfl rfl (ncf rfl) (fun _ => ?_)
   refine r_op (o_pickF rfl rfl rfl rfl) ?_
   refine r_op oA ?_
   refine r_end ?_
   refine t_ret Tryz.func130 (.tmp rfl .nil) rfl fun E S w u hI hd => ?_
   refine post_mk hI hd ?_ trivial rfl rfl rfl <;> clear hI hd
   all_goals (refine scB ?_; (obtain ⟨c, rfl⟩ := one_of (by assumption); simp at *; subst_vars; simp [relOk, nameOk]; omega))
 ·
  have g1' := of_decide_eq_false g1
  refine r_guard rfl rfl rfl (ncf g1) (fun _ => ?_)
  refine r_guard rfl rfl rfl (ncf g1) (fun _ => ?_)
  refine r_guard rfl rfl rfl (ncf g1) (fun _ => ?_)
  refine r_op (o_pickF rfl rfl g1 rfl) ?_
  refine r_op oM ?_
  refine r_guard rfl rfl rfl (ncf rfl) (fun _ => ?_)
  refine r_guard rfl rfl rfl (ncf rfl) (fun _ => ?_)
  refine r_guard rfl rfl rfl (ncf rfl) (fun _ => ?_)
  refine r_guard rfl rfl rfl (ncf rfl) (fun _ => ?_)
  refine r_op (o_pickF rfl rfl rfl rfl) ?_
  refine r_op oM ?_
  refine r_guard rfl rfl rfl (ncf rfl) (fun _ => ?_)
  refine r_guard rfl rfl rfl (ncf rfl) (fun _ => ?_)
  refine r_guard rfl rfl rfl (ncf rfl) (fun _ => ?_)
  refine r_op (o_pickF rfl rfl rfl rfl) ?_
  refine r_op oA ?_
  refine r_end ?_
  refine t_ret Tryz.func130 (.tmp rfl .nil) rfl fun E S w u hI hd => ?_
  refine post_mk hI hd ?_ trivial rfl rfl rfl <;> clear hI hd
  all_goals (refine scB ?_; (have e := nameOk_not (by assumption); simp [relOk, e]; done))
set_option maxHeartbeats 1000000 in
set_option maxRecDepth 10000 in
theorem c_spec_AreValidRelations (l : List (List UInt8 × Int × Bool)) (hl : l.length ≤ 4611686018427387904) : Pu Tryz.prog 66 [.c (.t none (.sl 3 (enS3 encS encI encB) (l)))] [] 0 (.c (.t none (.v (.bool (relsOk l))))) := by
 refine pu_enter Tryz.func66 rfl (Nat.le_of_ble_eq_true rfl) fun w S => ?_
 refine tsr ?_
 refine r_op oA ?_
 refine r_end ?_
 refine t_seq ?_
 refine tsr ?_
 refine r_op oA ?_
 refine r_end ?_
 refine t_block ?_
 refine t_loopL (fun m => ⟨[(0, some (.c (.t none (.sl 3 (enS3 encS encI encB) (l))))), (3, some (.c (.t none (.v (.int .i64 ((m : Int)))))))], [], 0⟩ : Nat → St) (fun m => m ≤ l.length ∧ ∀ j, j < m → relStep l j = true) (fun m => l.length - m) 0 ⟨⟨rfl, ⟨rfl, trivial⟩⟩, trivial, rfl⟩ (by exact ⟨Nat.zero_le _, fun j h => by omega⟩) ?_
 rintro m hI ih0
 try dsimp only at hI ih0
 obtain ⟨i1, i2⟩ := hI
 refine t_seq ?_
 refine tsr ?_
 refine r_op oM ?_
 refine r_op oM ?_
 refine r_op (o_len rfl rfl rfl) ?_
 refine r_op oB ?_
 refine r_end ?_
 refine t_cond rfl (fun h1 => ?_) (fun h1 => ?_)
 ·
  have h1' := of_decide_eq_true h1
  refine t_skip ?_
  refine t_seq ?_
  refine t_block ?_
  refine t_seq ?_
  refine t_draw (fun _ => true) (by kernel_rfl) ?_
  refine dT 0 rfl pM ?_
  refine dT 1 rfl pM ?_
  obtain ⟨z2, hz3, b4⟩ := at_get (xs := l) (n := (m : Int)) (by omega) (by omega)
  refine dT 2 rfl (p_index (by kernel_rfl) rfl rfl b4 hz3) ?_
  refine dT 3 rfl (p_loadA (n := 3) (by kernel_rfl) (by kernel_rfl) rfl rfl) ?_
  refine dO 4 rfl (o_call 0 0 false (Go.Proofs.enters_of Tryz.func130 (by kernel_rfl) rfl) (c_spec_IsValidRelation (z2.1) (z2.2.1) (z2.2.2)) rfl (.cons rfl (.agg (.cons .t0 (.cons .t0 (.cons .t0 .nil)))) .nil) rfl rfl rfl) ?_
  refine dT 5 rfl (p_not rfl) ?_
  refine dT 6 rfl pM ?_
  refine dH 7 rfl (fun _ => pM) (fun g5 => ?_) (fun g5 => ?_)
  ·
   have g5' := (bnf g5)
   refine dH 8 rfl (fun _ => pB) (fun _ => ?_) (ncf g5)
   refine dH 9 rfl (fun _ => pM) (fun _ => ?_) (ncf g5)
   refine dH 10 rfl (fun _ => pM) (fun g6 => ?_) (fun g6 => ?_)
   ·
    have g6' := of_decide_eq_true g6
    refine dH 11 rfl (fun _ => pM) (fun _ => ?_) (nc g6)
    refine dH 12 rfl (fun _ => pB) (fun _ => ?_) (nc g6)
    obtain ⟨z7, hz8, b9⟩ := at_get (xs := l) (n := IntKind.i64.wrap ((m : Int) - 1)) (by (simp only [IntKind.wrap_i64]; omega)) (by (simp only [IntKind.wrap_i64]; omega))
    refine dH 13 rfl (fun _ => p_index (by kernel_rfl) rfl rfl b9 hz8) (fun _ => ?_) (nc g6)
    refine dH 14 rfl (fun _ => p_field (off := 0) (by kernel_rfl) rfl) (fun _ => ?_) (nc g6)
    refine dH 15 rfl (fun _ => p_load1 (by kernel_rfl) rfl rfl) (fun _ => ?_) (nc g6)
    refine dH 16 rfl (fun _ => pM) (fun _ => ?_) (nc g6)
    refine dH 17 rfl (fun _ => pM) (fun _ => ?_) (nc g6)
    refine dH 18 rfl (fun _ => p_index (by kernel_rfl) rfl rfl b4 hz3) (fun _ => ?_) (nc g6)
    refine dH 19 rfl (fun _ => p_field (off := 0) (by kernel_rfl) rfl) (fun _ => ?_) (nc g6)
    refine dH 20 rfl (fun _ => p_load1 (by kernel_rfl) rfl rfl) (fun _ => ?_) (nc g6)
    refine dH 21 rfl (fun _ => p_str rfl rfl rfl) (fun _ => ?_) (nc g6)
    refine dH 22 rfl (fun _ => p_pickT rfl g6 rfl) (fun _ => ?_) (ncf g5)
    refine dT 23 rfl (p_pickF rfl g5 rfl) ?_
    refine d_end (by kernel_rfl) ?_
    refine t_cond rfl (fun h10 => ?_) (fun h10 => ?_)
    ·
     have h10' := (bnt h10)
     refine tsr ?_
     refine r_op oA ?_
     refine r_end ?_
     refine t_ret Tryz.func66 (.tmp rfl .nil) rfl fun E S w u hI hd => ?_
     refine post_mk hI hd ?_ trivial rfl rfl rfl <;> clear hI hd <;> (try clear ih0)
     all_goals (rw [relsOk_not (m := m) (by omega) (relStep_pos (n := (IntKind.i64.wrap ((m : Int) - 1)).toNat) (by assumption) (by assumption) (by omega) (by simp only [IntKind.wrap_i64]; omega) (by assumption) (by assumption))])
    ·
     have h10' := (bnf h10)
     refine t_skip ?_
     refine t_endblock ?_
     refine t_region ?_
     refine r_op oM ?_
     refine r_op oB ?_
     refine r_op oA ?_
     refine r_end ?_
     refine t_le ?_ (ih0 (m + 1) (by (try dsimp only); omega) (by (try dsimp only); exact ⟨by omega, step_all i2 (relStep_pos (n := (IntKind.i64.wrap ((m : Int) - 1)).toNat) (by assumption) (by assumption) (by omega) (by simp only [IntKind.wrap_i64]; omega) (by assumption) (by assumption))⟩))
     exact ⟨⟨rfl, ⟨(eqI (wr64 (by omega) (by omega))), trivial⟩⟩, trivial, rfl⟩
   ·
    have g6' := of_decide_eq_false g6
    refine dG 11 (ncf g6) (fun _ => ?_)
    refine dG 12 (ncf g6) (fun _ => ?_)
    refine dG 13 (ncf g6) (fun _ => ?_)
    refine dG 14 (ncf g6) (fun _ => ?_)
    refine dG 15 (ncf g6) (fun _ => ?_)
    refine dG 16 (ncf g6) (fun _ => ?_)
    refine dG 17 (ncf g6) (fun _ => ?_)
    refine dG 18 (ncf g6) (fun _ => ?_)
    refine dG 19 (ncf g6) (fun _ => ?_)
    refine dG 20 (ncf g6) (fun _ => ?_)
    refine dG 21 (ncf g6) (fun _ => ?_)
    refine dH 22 rfl (fun _ => p_pickF rfl g6 rfl) (fun _ => ?_) (ncf g5)
    refine dT 23 rfl (p_pickF rfl g5 rfl) ?_
    refine d_end (by kernel_rfl) ?_
    refine t_cond rfl (ncf rfl) (fun _ => ?_)
    refine t_skip ?_
    refine t_endblock ?_
    refine t_region ?_
    refine r_op oM ?_
    refine r_op oB ?_
    refine r_op oA ?_
    refine r_end ?_
    refine t_le ?_ (ih0 (m + 1) (by (try dsimp only); omega) (by (try dsimp only); exact ⟨by omega, step_all i2 (relStep_zero (by assumption) (by assumption) (by omega))⟩))
    exact ⟨⟨rfl, ⟨(eqI (wr64 (by omega) (by omega))), trivial⟩⟩, trivial, rfl⟩
  ·
   have g5' := (bnt g5)
   refine dG 8 (nc g5) (fun _ => ?_)
   refine dG 9 (nc g5) (fun _ => ?_)
   refine dK 10 ?_
   refine dK 11 ?_
   refine dK 12 ?_
   refine dK 13 ?_
   refine dK 14 ?_
   refine dK 15 ?_
   refine dK 16 ?_
   refine dK 17 ?_
   refine dK 18 ?_
   refine dK 19 ?_
   refine dK 20 ?_
   refine dK 21 ?_
   refine dG 22 (nc g5) (fun _ => ?_)
   refine dT 23 rfl (p_pickT rfl g5 rfl) ?_
   refine d_end (by kernel_rfl) ?_
   refine t_cond rfl (fun _ => ?_) (nc rfl)
   refine tsr ?_
   refine r_op oA ?_
   refine r_end ?_
   refine t_ret Tryz.func66 (.tmp rfl .nil) rfl fun E S w u hI hd => ?_
   refine post_mk hI hd ?_ trivial rfl rfl rfl <;> clear hI hd <;> (try clear ih0)
   all_goals (rw [relsOk_not (m := m) (by omega) (relStep_bad (by assumption) (by assumption))])
 ·
  have h1' := of_decide_eq_false h1
  refine t_exit rfl ?_
  refine tsr ?_
  refine r_op oM ?_
  refine r_op (o_len rfl rfl rfl) ?_
  refine r_op oB ?_
  refine r_op oA ?_
  refine r_end ?_
  refine t_ret Tryz.func66 (.tmp rfl .nil) rfl fun E S w u hI hd => ?_
  refine post_mk hI hd ?_ trivial rfl rfl rfl <;> clear hI hd <;> (try clear ih0)
  all_goals (rw [relsOk_end (m := m) i2 (by omega)]; exact scD (by omega))
set_option maxHeartbeats 1000000 in
set_option maxRecDepth 10000 in
theorem c_spec_IsValidAtom (rs : List (List UInt8 × Int × Bool)) (r : Int) (ts : List Int) (hrs : rs.length ≤ 4611686018427387904) (hts : ts.length ≤ 4611686018427387904) : Pu Tryz.prog 127 [.c (.t none (.sl 3 (enS3 encS encI encB) (rs))), .agg [.t none (.v (.int .i64 (r))), .t none (.sl 1 encI (ts))]] [] 0 (.c (.t none (.v (.bool (atomOk rs r ts))))) := by
 refine pu_enter Tryz.func127 rfl (Nat.le_of_ble_eq_true rfl) fun w S => ?_
 refine tsr ?_
 refine r_op (o_box 0 rfl rfl rfl rfl) ?_
 refine r_op oA ?_
 refine r_end ?_
 refine t_seq ?_
 refine t_seq ?_
 refine t_draw (fun _ => true) (by kernel_rfl) ?_
 refine dT 0 rfl pM ?_
 refine dO 1 rfl (o_call 1 1 false (Go.Proofs.enters_of Tryz.func66 (by kernel_rfl) rfl) (c_spec_AreValidRelations (rs) (by omega)) rfl (.cons rfl (.c .t0) .nil) rfl rfl rfl) ?_
 refine dT 2 rfl (p_not rfl) ?_
 refine dT 3 rfl pM ?_
 refine dH 4 rfl (fun _ => pF 0) (fun g1 => ?_) (fun g1 => ?_)
 ·
  have g1' := (bnf g1)
  refine dH 5 rfl (fun _ => pL) (fun _ => ?_) (ncf g1)
  refine dH 6 rfl (fun _ => pM) (fun _ => ?_) (ncf g1)
  refine dH 7 rfl (fun _ => p_len rfl rfl) (fun _ => ?_) (ncf g1)
  refine dH 8 rfl (fun _ => pB) (fun _ => ?_) (ncf g1)
  refine d_onlyG 9 rfl rfl (by kernel_rfl) rfl rfl rfl (fun _ => (o_call 1 1 false (Go.Proofs.enters_of Tryz.func48 (by kernel_rfl) rfl) (c_spec_l1In (r) (0) (IntKind.i64.wrap (((rs).length : Int) - 1))) rfl (.cons rfl (.c .t0) (.cons rfl (.c .t0) (.cons rfl (.c .t0) .nil))) rfl rfl rfl)) (fun _ => ?_) (ncf g1)
  refine dH 10 rfl (fun _ => p_not rfl) (fun _ => ?_) (ncf g1)
  refine dT 11 rfl (p_pickF rfl g1 rfl) ?_
  refine dT 12 rfl pM ?_
  refine dH 13 rfl (fun _ => pF 1) (fun g2 => ?_) (fun g2 => ?_)
  ·
   have g2' := of_decide_eq_true (bnf g2)
   refine dH 14 rfl (fun _ => pL) (fun _ => ?_) (ncf g2)
   refine dH 15 rfl (fun _ => p_len rfl rfl) (fun _ => ?_) (ncf g2)
   refine dH 16 rfl (fun _ => pM) (fun _ => ?_) (ncf g2)
   refine dH 17 rfl (fun _ => pF 0) (fun _ => ?_) (ncf g2)
   refine dH 18 rfl (fun _ => pL) (fun _ => ?_) (ncf g2)
   obtain ⟨z3, hz4, b5⟩ := at_get (xs := rs) (n := r) (by omega) (by (simp only [IntKind.wrap_i64] at *; omega))
   refine dH 19 rfl (fun _ => p_index (by kernel_rfl) rfl rfl b5 hz4) (fun _ => ?_) (ncf g2)
   refine dH 20 rfl (fun _ => p_field (off := 1) (by kernel_rfl) rfl) (fun _ => ?_) (ncf g2)
   refine dH 21 rfl (fun _ => p_load1 (by kernel_rfl) rfl rfl) (fun _ => ?_) (ncf g2)
   refine dH 22 rfl (fun _ => pB) (fun _ => ?_) (ncf g2)
   refine dT 23 rfl (p_pickF rfl g2 rfl) ?_
   refine d_end (by kernel_rfl) ?_
   refine t_cond rfl (fun h6 => ?_) (fun h6 => ?_)
   ·
    have h6' := of_decide_eq_true h6
    refine tsr ?_
    refine r_op oA ?_
    refine r_end ?_
    refine t_ret Tryz.func127 (.tmp rfl .nil) rfl fun E S w u hI hd => ?_
    refine post_mk hI hd ?_ trivial rfl rfl rfl <;> clear hI hd <;> (try clear ih0)
    all_goals (refine scB ?_; (rw [atom_no3 (by assumption) (by assumption)]; done))
   ·
    have h6' := of_decide_eq_false h6
    refine t_skip ?_
    refine t_seq ?_
    refine tsr ?_
    refine r_op oA ?_
    refine r_end ?_
    refine t_block ?_
    refine t_loopL (fun m => ⟨[(3, some (.c (.ptr 0 0))), (5, some (.c (.t none (.v (.int .i64 ((m : Int)))))))], [(0, some (.box [.t none (.v (.int .i64 (r))), .t none (.sl 1 encI (ts))]))], 1⟩ : Nat → St) (fun m => m ≤ ts.length ∧ ∀ j z, j < m → ts[j]? = some z → (fun t => !termOk t) z = false) (fun m => ts.length - m) 0 ⟨⟨rfl, ⟨rfl, trivial⟩⟩, ⟨rfl, trivial⟩, rfl⟩ (by exact ⟨Nat.zero_le _, fun j z h => by omega⟩) ?_
    rintro m hI ih0
    try dsimp only at hI ih0
    obtain ⟨i1, i2⟩ := hI
    refine t_seq ?_
    refine tsr ?_
    refine r_op oM ?_
    refine r_op (oF 1) ?_
    refine r_op oL ?_
    refine r_op (o_len rfl rfl rfl) ?_
    refine r_op oB ?_
    refine r_end ?_
    refine t_cond rfl (fun h7 => ?_) (fun h7 => ?_)
    ·
     have h7' := of_decide_eq_true h7
     refine t_skip ?_
     refine t_seq ?_
     refine t_block ?_
     refine tsr ?_
     refine r_op (oF 1) ?_
     refine r_op oL ?_
     refine r_op oM ?_
     obtain ⟨z8, hz9, b10⟩ := at_get (xs := ts) (n := (m : Int)) (by omega) (by omega)
     refine r_op (o_index rfl (by kernel_rfl) rfl rfl b10 hz9) ?_
     refine r_op (o_load1 rfl (by kernel_rfl) rfl rfl) ?_
     refine r_op (o_call 1 1 false (Go.Proofs.enters_of Tryz.func48 (by kernel_rfl) rfl) (c_spec_l1In (z8) (-10) (4)) rfl (.cons rfl (.c .t0) (.cons rfl (.c .t0) (.cons rfl (.c .t0) .nil))) rfl rfl rfl) ?_
     refine r_op (o_not rfl rfl) ?_
     refine r_end ?_
     refine t_cond rfl (fun h11 => ?_) (fun h11 => ?_)
     ·
      have h11' := of_decide_eq_false (bnt h11)
      refine tsr ?_
      refine r_op oA ?_
      refine r_end ?_
      refine t_ret Tryz.func127 (.tmp rfl .nil) rfl fun E S w u hI hd => ?_
      refine post_mk hI hd ?_ trivial rfl rfl rfl <;> clear hI hd <;> (try clear ih0)
      all_goals (refine scB ?_; (rw [atom_yes (by assumption) (by simp only [IntKind.wrap_i64] at *; omega) (by assumption) (by omega), any_true (p := fun t => !termOk t) (by assumption) (by simp only [termOk, Bool.not_eq_true']; exact decide_eq_false (by assumption))]; rfl))
     ·
      have h11' := of_decide_eq_true (bnf h11)
      refine t_skip ?_
      refine t_endblock ?_
      refine t_region ?_
      refine r_op oM ?_
      refine r_op oB ?_
      refine r_op oA ?_
      refine r_end ?_
      refine t_le ?_ (ih0 (m + 1) (by (try dsimp only); omega) (by (try dsimp only); exact ⟨by omega, no_step i2 (by assumption) rfl (by simp only [termOk, Bool.not_eq_false']; exact decide_eq_true (by assumption))⟩))
      exact ⟨⟨rfl, ⟨(eqI (wr64 (by omega) (by omega))), trivial⟩⟩, ⟨rfl, trivial⟩, rfl⟩
    ·
     have h7' := of_decide_eq_false h7
     refine t_exit rfl ?_
     refine tsr ?_
     refine r_op oA ?_
     refine r_end ?_
     refine t_ret Tryz.func127 (.tmp rfl .nil) rfl fun E S w u hI hd => ?_
     refine post_mk hI hd ?_ trivial rfl rfl rfl <;> clear hI hd <;> (try clear ih0)
     all_goals (refine scB ?_; (rw [atom_yes (by assumption) (by simp only [IntKind.wrap_i64] at *; omega) (by assumption) (by omega), any_false (p := fun t => !termOk t) i2 (by omega)]; rfl))
  ·
   have g2' := of_decide_eq_false (bnt g2)
   refine dG 14 (nc g2) (fun _ => ?_)
   refine dG 15 (nc g2) (fun _ => ?_)
   refine dG 16 (nc g2) (fun _ => ?_)
   refine dG 17 (nc g2) (fun _ => ?_)
   refine dG 18 (nc g2) (fun _ => ?_)
   refine dG 19 (nc g2) (fun _ => ?_)
   refine dG 20 (nc g2) (fun _ => ?_)
   refine dG 21 (nc g2) (fun _ => ?_)
   refine dG 22 (nc g2) (fun _ => ?_)
   refine dT 23 rfl (p_pickT rfl g2 rfl) ?_
   refine d_end (by kernel_rfl) ?_
   refine t_cond rfl (fun _ => ?_) (nc rfl)
   refine tsr ?_
   refine r_op oA ?_
   refine r_end ?_
   refine t_ret Tryz.func127 (.tmp rfl .nil) rfl fun E S w u hI hd => ?_
   refine post_mk hI hd ?_ trivial rfl rfl rfl <;> clear hI hd <;> (try clear ih0)
   all_goals (refine scB ?_; (rw [atom_no2 (by simp only [IntKind.wrap_i64] at *; omega)]; done))
 ·
  have g1' := (bnt g1)
  refine dG 5 (nc g1) (fun _ => ?_)
  refine dG 6 (nc g1) (fun _ => ?_)
  refine dG 7 (nc g1) (fun _ => ?_)
  refine dG 8 (nc g1) (fun _ => ?_)
  refine dG 9 (nc g1) (fun _ => ?_)
  refine dG 10 (nc g1) (fun _ => ?_)
  refine dT 11 rfl (p_pickT rfl g1 rfl) ?_
  refine dT 12 rfl pM ?_
  refine dG 13 (nc rfl) (fun _ => ?_)
  refine dG 14 (nc rfl) (fun _ => ?_)
  refine dG 15 (nc rfl) (fun _ => ?_)
  refine dG 16 (nc rfl) (fun _ => ?_)
  refine dG 17 (nc rfl) (fun _ => ?_)
  refine dG 18 (nc rfl) (fun _ => ?_)
  refine dG 19 (nc rfl) (fun _ => ?_)
  refine dG 20 (nc rfl) (fun _ => ?_)
  refine dG 21 (nc rfl) (fun _ => ?_)
  refine dG 22 (nc rfl) (fun _ => ?_)
  refine dT 23 rfl (p_pickT rfl rfl rfl) ?_
  refine d_end (by kernel_rfl) ?_
  refine t_cond rfl (fun _ => ?_) (nc rfl)
  refine tsr ?_
  refine r_op oA ?_
  refine r_end ?_
  refine t_ret Tryz.func127 (.tmp rfl .nil) rfl fun E S w u hI hd => ?_
  refine post_mk hI hd ?_ trivial rfl rfl rfl <;> clear hI hd <;> (try clear ih0)
  all_goals (refine scB ?_; (rw [atom_no1 (by assumption)]; done))
set_option maxHeartbeats 1000000 in
set_option maxRecDepth 10000 in
theorem c_spec_l4Has (l : List Int) (v : Int) (hl : l.length ≤ 4611686018427387904) : Pu Tryz.prog 129 [.c (.t none (.sl 1 encI (l))), .c (.t none (.v (.int .i64 (v))))] [] 0 (.c (.t none (.v (.bool (hasI l v))))) := by
 refine pu_enter Tryz.func129 rfl (Nat.le_of_ble_eq_true rfl) fun w S => ?_
 refine tsr ?_
 refine r_op oA ?_
 refine r_end ?_
 refine t_seq ?_
 refine tsr ?_
 refine r_op oA ?_
 refine r_end ?_
 refine t_block ?_
 refine t_loopL (fun m => ⟨[(0, some (.c (.t none (.sl 1 encI (l))))), (1, some (.c (.t none (.v (.int .i64 (v)))))), (5, some (.c (.t none (.v (.int .i64 ((m : Int)))))))], [], 0⟩ : Nat → St) (fun m => m ≤ l.length ∧ ∀ j z, j < m → l[j]? = some z → (fun y => decide (y = v)) z = false) (fun m => l.length - m) 0 ⟨⟨rfl, ⟨rfl, ⟨rfl, trivial⟩⟩⟩, trivial, rfl⟩ (by exact ⟨Nat.zero_le _, fun j z h => by omega⟩) ?_
 rintro m hI ih0
 try dsimp only at hI ih0
 obtain ⟨i1, i2⟩ := hI
 refine t_seq ?_
 refine tsr ?_
 refine r_op oM ?_
 refine r_op oM ?_
 refine r_op (o_len rfl rfl rfl) ?_
 refine r_op oB ?_
 refine r_end ?_
 refine t_cond rfl (fun h1 => ?_) (fun h1 => ?_)
 ·
  have h1' := of_decide_eq_true h1
  refine t_skip ?_
  refine t_seq ?_
  refine t_block ?_
  refine tsr ?_
  refine r_op oM ?_
  refine r_op oM ?_
  obtain ⟨z2, hz3, b4⟩ := at_get (xs := l) (n := (m : Int)) (by omega) (by omega)
  refine r_op (o_index rfl (by kernel_rfl) rfl rfl b4 hz3) ?_
  refine r_op (o_load1 rfl (by kernel_rfl) rfl rfl) ?_
  refine r_op oM ?_
  refine r_op oB ?_
  refine r_end ?_
  refine t_cond rfl (fun h5 => ?_) (fun h5 => ?_)
  ·
   have h5' := of_decide_eq_true h5
   refine tsr ?_
   refine r_op oA ?_
   refine r_end ?_
   refine t_ret Tryz.func129 (.tmp rfl .nil) rfl fun E S w u hI hd => ?_
   refine post_mk hI hd ?_ trivial rfl rfl rfl <;> clear hI hd <;> (try clear ih0)
   all_goals (refine scB ?_; exact (any_true (p := fun y => decide (y = v)) (by assumption) (decide_eq_true (by omega))).symm)
  ·
   have h5' := of_decide_eq_false h5
   refine t_skip ?_
   refine t_endblock ?_
   refine t_region ?_
   refine r_op oM ?_
   refine r_op oB ?_
   refine r_op oA ?_
   refine r_end ?_
   refine t_le ?_ (ih0 (m + 1) (by (try dsimp only); omega) (by (try dsimp only); exact ⟨by omega, no_step i2 (by assumption) rfl (decide_eq_false (by omega))⟩))
   exact ⟨⟨rfl, ⟨rfl, ⟨(eqI (wr64 (by omega) (by omega))), trivial⟩⟩⟩, trivial, rfl⟩
 ·
  have h1' := of_decide_eq_false h1
  refine t_exit rfl ?_
  refine tsr ?_
  refine r_op oA ?_
  refine r_end ?_
  refine t_ret Tryz.func129 (.tmp rfl .nil) rfl fun E S w u hI hd => ?_
  refine post_mk hI hd ?_ trivial rfl rfl rfl <;> clear hI hd <;> (try clear ih0)
  all_goals (refine scB ?_; exact (any_false (p := fun y => decide (y = v)) i2 (by omega)).symm)
set_option maxHeartbeats 1000000 in
set_option maxRecDepth 10000 in
theorem c_spec_IsValidDependency (rs : Rels) (a0 : List (Int × (List (Int)))) (a1 : List (Int × (List (Int)))) (a2 : Bool) (a3 : Int) (a4 : Int) (hrs : rs.length ≤ 4611686018427387904) (hs : szS (fun (x : Int × (List (Int))) => (x.2).length) a0 + szS (fun (x : Int × (List (Int))) => (x.2).length) a1 ≤ 1048600) : Pu Tryz.prog 65 [.c (.t none (.sl 3 (enS3 encS encI encB) (rs))), .agg [.t none (.sl 2 (enS2 encI (enSl 1 encI)) (a0)), .t none (.sl 2 (enS2 encI (enSl 1 encI)) (a1)), .t none (.v (.bool (a2))), .t none (.v (.int .i64 (a3))), .t none (.v (.int .i64 (a4)))]] [] 0 (.c (.t none (.v (.bool (depOk rs a0 a1 a2 a3 a4))))) := by
 refine pu_enter Tryz.func65 rfl (Nat.le_of_ble_eq_true rfl) fun w S => ?_
 have g0 := sz_len (f := (fun (x : Int × (List (Int))) => (x.2).length)) (l := a0); have g1 := sz_len (f := (fun (x : Int × (List (Int))) => (x.2).length)) (l := a1); have v0 := setI_len (varsL a0); have v1 := varsL_size a0
 refine tsr ?_
 refine r_op (o_box 0 rfl rfl rfl rfl) ?_
 refine r_op oA ?_
 refine r_end ?_
 refine t_seq ?_
 refine tsr ?_
 refine r_op (oF 0) ?_
 refine r_op oL ?_
 refine r_op (o_len rfl rfl rfl) ?_
 refine r_op (o_call 1 1 false (Go.Proofs.enters_of Tryz.func48 (by kernel_rfl) rfl) (c_spec_l1In (((a0).length : Int)) (1) (2)) rfl (.cons rfl (.c .t0) (.cons rfl (.c .t0) (.cons rfl (.c .t0) .nil))) rfl rfl rfl) ?_
 refine r_op (o_not rfl rfl) ?_
 refine r_end ?_
 refine t_cond rfl (fun h1 => ?_) (fun h1 => ?_)
 ·
  have h1' := of_decide_eq_false (bnt h1)
  refine tsr ?_
  refine r_op oA ?_
  refine r_end ?_
  refine t_ret Tryz.func65 (.tmp rfl .nil) rfl fun E S w u hI hd => ?_
  refine post_mk hI hd ?_ trivial rfl rfl rfl <;> clear hI hd <;> (try clear ih0) <;> (try clear ih1)
  all_goals (refine scB ?_; (try (have qA := iA (by omega))); (try (have qK := kA (by omega))); (try (have qB := any_true (p := badA rs) (l := a0) (m := m) (by assumption) (by unfold badA; grind))); (try (have qC := any_true (p := badA rs) (l := a1) (m := n) (by assumption) (by unfold badA; grind))); (try (have qS := srcA_at (rs := rs) (r := (by assumption).1) (ts := (by assumption).2) (by assumption); have qD := any_true (p := srcA rs) (l := a1) (m := n) (by assumption) (by grind))); clear hs g0 g1 v0 v1; unfold depOk atomsOk; grind)
 ·
  have h1' := of_decide_eq_true (bnf h1)
  refine t_skip ?_
  refine t_seq ?_
  refine tsr ?_
  refine r_op oA ?_
  refine r_end ?_
  refine t_block ?_
  refine t_loopL (fun m => ⟨[(0, some (.c (.t none (.sl 3 (enS3 encS encI encB) (rs))))), (3, some (.c (.ptr 0 0))), (5, some (.c (.t none (.v (.int .i64 ((m : Int)))))))], [(0, some (.box [.t none (.sl 2 (enS2 encI (enSl 1 encI)) (a0)), .t none (.sl 2 (enS2 encI (enSl 1 encI)) (a1)), .t none (.v (.bool (a2))), .t none (.v (.int .i64 (a3))), .t none (.v (.int .i64 (a4)))]))], 1⟩ : Nat → St) (fun m => m ≤ a0.length ∧ ∀ j z, j < m → a0[j]? = some z → badA rs z = false) (fun m => a0.length - m) 0 ⟨⟨rfl, ⟨rfl, ⟨rfl, trivial⟩⟩⟩, ⟨rfl, trivial⟩, rfl⟩ (by exact ⟨Nat.zero_le _, fun j z h => by omega⟩) ?_
  rintro m hI ih0
  try dsimp only at hI ih0
  obtain ⟨i1, i2⟩ := hI; have iA : a0.length ≤ m → a0.any (badA rs) = false := fun e => any_false i2 e
  refine t_seq ?_
  refine tsr ?_
  refine r_op oM ?_
  refine r_op (oF 0) ?_
  refine r_op oL ?_
  refine r_op (o_len rfl rfl rfl) ?_
  refine r_op oB ?_
  refine r_end ?_
  refine t_cond rfl (fun h2 => ?_) (fun h2 => ?_)
  ·
   have h2' := of_decide_eq_true h2
   refine t_skip ?_
   refine t_seq ?_
   refine t_block ?_
   refine tsr ?_
   refine r_op oM ?_
   refine r_op (oF 0) ?_
   refine r_op oL ?_
   refine r_op oM ?_
   obtain ⟨z3, hz4, b5⟩ := at_get (xs := a0) (n := (m : Int)) (by omega) (by omega)
   refine r_op (o_index rfl (by kernel_rfl) rfl rfl b5 hz4) ?_
   refine r_op (o_loadA rfl (n := 2) (by kernel_rfl) (by kernel_rfl) rfl rfl) ?_
   refine r_op (o_call 1 1 false (Go.Proofs.enters_of Tryz.func127 (by kernel_rfl) rfl) (c_spec_IsValidAtom (rs) (z3.1) (z3.2) (by omega) (by (have e1 := sz_at (f := (fun (x : Int × (List (Int))) => (x.2).length)) (l := a0) (m := m) (by assumption); (try dsimp only at e1); omega))) rfl (.cons rfl (.c .t0) (.cons rfl (.agg (.cons .t0 (.cons .t0 .nil))) .nil)) rfl rfl rfl) ?_
   refine r_op (o_not rfl rfl) ?_
   refine r_end ?_
   refine t_cond rfl (fun h6 => ?_) (fun h6 => ?_)
   ·
    have h6' := (bnt h6)
    refine tsr ?_
    refine r_op oA ?_
    refine r_end ?_
    refine t_ret Tryz.func65 (.tmp rfl .nil) rfl fun E S w u hI hd => ?_
    refine post_mk hI hd ?_ trivial rfl rfl rfl <;> clear hI hd <;> (try clear ih0) <;> (try clear ih1)
    all_goals (refine scB ?_; (try (have qA := iA (by omega))); (try (have qK := kA (by omega))); (try (have qB := any_true (p := badA rs) (l := a0) (m := m) hz4 (by unfold badA; grind))); (try (have qC := any_true (p := badA rs) (l := a1) (m := n) hz4 (by unfold badA; grind))); (try (have qS := srcA_at (rs := rs) (r := z3.1) (ts := z3.2) (by assumption); have qD := any_true (p := srcA rs) (l := a1) (m := n) hz4 (by grind))); clear hs g0 g1 v0 v1; unfold depOk atomsOk; grind)
   ·
    have h6' := (bnf h6)
    refine t_skip ?_
    refine t_endblock ?_
    refine t_region ?_
    refine r_op oM ?_
    refine r_op oB ?_
    refine r_op oA ?_
    refine r_end ?_
    refine t_le ?_ (ih0 (m + 1) (by (try dsimp only); omega) (by (try dsimp only); exact ⟨by omega, no_step i2 (by assumption) rfl (by unfold badA; grind)⟩))
    exact ⟨⟨rfl, ⟨rfl, ⟨(eqI (wr64 (by omega) (by omega))), trivial⟩⟩⟩, ⟨rfl, trivial⟩, rfl⟩
  ·
   have h2' := of_decide_eq_false h2
   refine t_exit rfl ?_
   refine t_seq ?_
   refine tsr ?_
   refine r_op (oF 2) ?_
   refine r_op oL ?_
   refine r_end ?_
   refine t_cond rfl (fun h7 => ?_) (fun h7 => ?_)
   ·
    have h7' := h7
    refine tsr ?_
    refine r_op (oF 0) ?_
    refine r_op oL ?_
    refine r_op (o_call 1 2 false (Go.Proofs.enters_of Tryz.func128 (by kernel_rfl) rfl) (c_spec_Variables (a0) (by omega)) rfl (.cons rfl (.c .t0) .nil) rfl rfl rfl) ?_
    refine r_op oA ?_
    refine etr ?_
    refine r_op (oF 1) ?_
    refine r_op oL ?_
    refine r_op (o_len rfl rfl rfl) ?_
    refine r_op oB ?_
    refine r_op oM ?_
    refine r_guard rfl rfl rfl (fun g8 => ?_) (fun g8 => ?_)
    ·
     have g8' := of_decide_eq_true g8
     refine r_op oM ?_
     refine r_guard rfl rfl rfl (fun _ => ?_) (nc g8)
     refine r_op (oF 3) ?_
     refine r_guard rfl rfl rfl (fun _ => ?_) (nc g8)
     refine r_op oL ?_
     refine r_guard rfl rfl rfl (fun _ => ?_) (nc g8)
     refine r_op (o_call 2 2 false (Go.Proofs.enters_of Tryz.func129 (by kernel_rfl) rfl) (c_spec_l4Has (setI (varsL (a0))) (a3) (by omega)) rfl (.cons rfl (.c (.own rfl)) (.cons rfl (.c .t0) .nil)) rfl rfl rfl) ?_
     refine r_op (o_pickT rfl rfl g8 rfl) ?_
     refine r_op oM ?_
     refine r_guard rfl rfl rfl (fun g9 => ?_) (fun g9 => ?_)
     ·
      have g9' := g9
      refine r_op oM ?_
      refine r_guard rfl rfl rfl (fun _ => ?_) (nc g9)
      refine r_op (oF 4) ?_
      refine r_guard rfl rfl rfl (fun _ => ?_) (nc g9)
      refine r_op oL ?_
      refine r_guard rfl rfl rfl (fun _ => ?_) (nc g9)
      refine r_op (o_call 2 2 false (Go.Proofs.enters_of Tryz.func129 (by kernel_rfl) rfl) (c_spec_l4Has (setI (varsL (a0))) (a4) (by omega)) rfl (.cons rfl (.c (.own rfl)) (.cons rfl (.c .t0) .nil)) rfl rfl rfl) ?_
      refine r_op (o_pickT rfl rfl g9 rfl) ?_
      refine r_op oM ?_
      refine r_guard rfl rfl rfl (fun g10 => ?_) (fun g10 => ?_)
      ·
       have g10' := g10
       refine r_op (oF 3) ?_
       refine r_guard rfl rfl rfl (fun _ => ?_) (nc g10)
       refine r_op oL ?_
       refine r_guard rfl rfl rfl (fun _ => ?_) (nc g10)
       refine r_op (oF 4) ?_
       refine r_guard rfl rfl rfl (fun _ => ?_) (nc g10)
       refine r_op oL ?_
       refine r_guard rfl rfl rfl (fun _ => ?_) (nc g10)
       refine r_op oB ?_
       refine r_op (o_pickT rfl rfl g10 rfl) ?_
       refine r_op oA ?_
       refine r_end ?_
       refine t_ret Tryz.func65 (.tmp rfl .nil) rfl fun E S w u hI hd => ?_
       refine post_mk hI hd ?_ trivial rfl rfl rfl <;> clear hI hd <;> (try clear ih0) <;> (try clear ih1)
       all_goals (refine scB ?_; (try (have qA := iA (by omega))); (try (have qK := kA (by omega))); (try (have qB := any_true (p := badA rs) (l := a0) (m := m) (by assumption) (by unfold badA; grind))); (try (have qC := any_true (p := badA rs) (l := a1) (m := n) (by assumption) (by unfold badA; grind))); (try (have qS := srcA_at (rs := rs) (r := (by assumption).1) (ts := (by assumption).2) (by assumption); have qD := any_true (p := srcA rs) (l := a1) (m := n) (by assumption) (by grind))); clear hs g0 g1 v0 v1; unfold depOk atomsOk; grind)
      ·
       have g10' := g10
       refine r_guard rfl rfl rfl (ncf g10) (fun _ => ?_)
       refine r_guard rfl rfl rfl (ncf g10) (fun _ => ?_)
       refine r_guard rfl rfl rfl (ncf g10) (fun _ => ?_)
       refine r_guard rfl rfl rfl (ncf g10) (fun _ => ?_)
       refine r_op (o_pickF rfl rfl g10 rfl) ?_
       refine r_op oA ?_
       refine r_end ?_
       refine t_ret Tryz.func65 (.tmp rfl .nil) rfl fun E S w u hI hd => ?_
       refine post_mk hI hd ?_ trivial rfl rfl rfl <;> clear hI hd <;> (try clear ih0) <;> (try clear ih1)
       all_goals (refine scB ?_; (try (have qA := iA (by omega))); (try (have qK := kA (by omega))); (try (have qB := any_true (p := badA rs) (l := a0) (m := m) (by assumption) (by unfold badA; grind))); (try (have qC := any_true (p := badA rs) (l := a1) (m := n) (by assumption) (by unfold badA; grind))); (try (have qS := srcA_at (rs := rs) (r := (by assumption).1) (ts := (by assumption).2) (by assumption); have qD := any_true (p := srcA rs) (l := a1) (m := n) (by assumption) (by grind))); clear hs g0 g1 v0 v1; unfold depOk atomsOk; grind)
     ·
      have g9' := g9
      refine r_guard rfl rfl rfl (ncf g9) (fun _ => ?_)
      refine r_guard rfl rfl rfl (ncf g9) (fun _ => ?_)
      refine r_guard rfl rfl rfl (ncf g9) (fun _ => ?_)
      refine r_op (o_pickF rfl rfl g9 rfl) ?_
      refine r_op oM ?_
      refine r_guard rfl rfl rfl (ncf rfl) (fun _ => ?_)
      refine r_guard rfl rfl rfl (ncf rfl) (fun _ => ?_)
      refine r_guard rfl rfl rfl (ncf rfl) (fun _ => ?_)
      refine r_guard rfl rfl rfl (ncf rfl) (fun _ => ?_)
      refine r_guard rfl rfl rfl (ncf rfl) (fun _ => ?_)
      refine r_op (o_pickF rfl rfl rfl rfl) ?_
      refine r_op oA ?_
      refine r_end ?_
      refine t_ret Tryz.func65 (.tmp rfl .nil) rfl fun E S w u hI hd => ?_
      refine post_mk hI hd ?_ trivial rfl rfl rfl <;> clear hI hd <;> (try clear ih0) <;> (try clear ih1)
      all_goals (refine scB ?_; (try (have qA := iA (by omega))); (try (have qK := kA (by omega))); (try (have qB := any_true (p := badA rs) (l := a0) (m := m) (by assumption) (by unfold badA; grind))); (try (have qC := any_true (p := badA rs) (l := a1) (m := n) (by assumption) (by unfold badA; grind))); (try (have qS := srcA_at (rs := rs) (r := (by assumption).1) (ts := (by assumption).2) (by assumption); have qD := any_true (p := srcA rs) (l := a1) (m := n) (by assumption) (by grind))); clear hs g0 g1 v0 v1; unfold depOk atomsOk; grind)
    ·
     have g8' := of_decide_eq_false g8
     refine r_guard rfl rfl rfl (ncf g8) (fun _ => ?_)
     refine r_guard rfl rfl rfl (ncf g8) (fun _ => ?_)
     refine r_guard rfl rfl rfl (ncf g8) (fun _ => ?_)
     refine r_op (o_pickF rfl rfl g8 rfl) ?_
     refine r_op oM ?_
     refine r_guard rfl rfl rfl (ncf rfl) (fun _ => ?_)
     refine r_guard rfl rfl rfl (ncf rfl) (fun _ => ?_)
     refine r_guard rfl rfl rfl (ncf rfl) (fun _ => ?_)
     refine r_guard rfl rfl rfl (ncf rfl) (fun _ => ?_)
     refine r_op (o_pickF rfl rfl rfl rfl) ?_
     refine r_op oM ?_
     refine r_guard rfl rfl rfl (ncf rfl) (fun _ => ?_)
     refine r_guard rfl rfl rfl (ncf rfl) (fun _ => ?_)
     refine r_guard rfl rfl rfl (ncf rfl) (fun _ => ?_)
     refine r_guard rfl rfl rfl (ncf rfl) (fun _ => ?_)
     refine r_guard rfl rfl rfl (ncf rfl) (fun _ => ?_)
     refine r_op (o_pickF rfl rfl rfl rfl) ?_
     refine r_op oA ?_
     refine r_end ?_
     refine t_ret Tryz.func65 (.tmp rfl .nil) rfl fun E S w u hI hd => ?_
     refine post_mk hI hd ?_ trivial rfl rfl rfl <;> clear hI hd <;> (try clear ih0) <;> (try clear ih1)
     all_goals (refine scB ?_; (try (have qA := iA (by omega))); (try (have qK := kA (by omega))); (try (have qB := any_true (p := badA rs) (l := a0) (m := m) (by assumption) (by unfold badA; grind))); (try (have qC := any_true (p := badA rs) (l := a1) (m := n) (by assumption) (by unfold badA; grind))); (try (have qS := srcA_at (rs := rs) (r := (by assumption).1) (ts := (by assumption).2) (by assumption); have qD := any_true (p := srcA rs) (l := a1) (m := n) (by assumption) (by grind))); clear hs g0 g1 v0 v1; unfold depOk atomsOk; grind)
   ·
    have h7' := h7
    refine t_skip ?_
    refine t_seq ?_
    refine tsr ?_
    refine r_op oA ?_
    refine r_end ?_
    refine t_block ?_
    refine t_loopL (fun n => ⟨[(0, some (.c (.t none (.sl 3 (enS3 encS encI encB) (rs))))), (3, some (.c (.ptr 0 0))), (7, some (.c (.t none (.v (.int .i64 ((n : Int)))))))], [(0, some (.box [.t none (.sl 2 (enS2 encI (enSl 1 encI)) (a0)), .t none (.sl 2 (enS2 encI (enSl 1 encI)) (a1)), .t none (.v (.bool (a2))), .t none (.v (.int .i64 (a3))), .t none (.v (.int .i64 (a4)))]))], 1⟩ : Nat → St) (fun n => n ≤ a1.length ∧ ∀ j z, j < n → a1[j]? = some z → (badA rs z || srcA rs z) = false) (fun n => a1.length - n) 0 ⟨⟨rfl, ⟨rfl, ⟨rfl, trivial⟩⟩⟩, ⟨rfl, trivial⟩, rfl⟩ (by exact ⟨Nat.zero_le _, fun j z h => by omega⟩) ?_
    rintro n hI ih1
    try dsimp only at hI ih1
    obtain ⟨k1, k2⟩ := hI; (have kA : a1.length ≤ n → a1.any (badA rs) = false ∧ a1.any (srcA rs) = false := fun e => ⟨any_false (fun j z h h2 => by have := k2 j z h h2; simp_all) e, any_false (fun j z h h2 => by have := k2 j z h h2; simp_all) e⟩)
    refine t_seq ?_
    refine tsr ?_
    refine r_op oM ?_
    refine r_op (oF 1) ?_
    refine r_op oL ?_
    refine r_op (o_len rfl rfl rfl) ?_
    refine r_op oB ?_
    refine r_end ?_
    refine t_cond rfl (fun h11 => ?_) (fun h11 => ?_)
    ·
     have h11' := of_decide_eq_true h11
     refine t_skip ?_
     refine t_seq ?_
     refine t_block ?_
     refine tsr ?_
     refine r_op oM ?_
     refine r_op (oF 1) ?_
     refine r_op oL ?_
     refine r_op oM ?_
     obtain ⟨z12, hz13, b14⟩ := at_get (xs := a1) (n := (n : Int)) (by omega) (by omega)
     refine r_op (o_index rfl (by kernel_rfl) rfl rfl b14 hz13) ?_
     refine r_op (o_loadA rfl (n := 2) (by kernel_rfl) (by kernel_rfl) rfl rfl) ?_
     refine r_op (o_call 1 1 false (Go.Proofs.enters_of Tryz.func127 (by kernel_rfl) rfl) (c_spec_IsValidAtom (rs) (z12.1) (z12.2) (by omega) (by (have e1 := sz_at (f := (fun (x : Int × (List (Int))) => (x.2).length)) (l := a1) (m := n) (by assumption); (try dsimp only at e1); omega))) rfl (.cons rfl (.c .t0) (.cons rfl (.agg (.cons .t0 (.cons .t0 .nil))) .nil)) rfl rfl rfl) ?_
     refine r_op (o_not rfl rfl) ?_
     refine r_op oM ?_
     refine r_guard rfl rfl rfl (fun g15 => ?_) (fun g15 => ?_)
     ·
      have g15' := (bnf g15)
      refine r_op oM ?_
      refine r_guard rfl rfl rfl (fun _ => ?_) (ncf g15)
      refine r_op (oF 1) ?_
      refine r_guard rfl rfl rfl (fun _ => ?_) (ncf g15)
      refine r_op oL ?_
      refine r_guard rfl rfl rfl (fun _ => ?_) (ncf g15)
      refine r_op oM ?_
      refine r_guard rfl rfl rfl (fun _ => ?_) (ncf g15)
      refine r_op (o_index rfl (by kernel_rfl) rfl rfl b14 hz13) ?_
      refine r_guard rfl rfl rfl (fun _ => ?_) (ncf g15)
      refine r_op (o_field rfl (off := 0) (by kernel_rfl) rfl) ?_
      refine r_guard rfl rfl rfl (fun _ => ?_) (ncf g15)
      refine r_op (o_load1 rfl (by kernel_rfl) rfl rfl) ?_
      refine r_guard rfl rfl rfl (fun _ => ?_) (ncf g15)
      obtain ⟨z16, hz17, b18⟩ := at_get (xs := rs) (n := z12.1) (by exact (atom_idx (by assumption)).1) (by exact (atom_idx (by assumption)).2)
      refine r_op (o_index rfl (by kernel_rfl) rfl rfl b18 hz17) ?_
      refine r_guard rfl rfl rfl (fun _ => ?_) (ncf g15)
      refine r_op (o_field rfl (off := 2) (by kernel_rfl) rfl) ?_
      refine r_guard rfl rfl rfl (fun _ => ?_) (ncf g15)
      refine r_op (o_load1 rfl (by kernel_rfl) rfl rfl) ?_
      refine r_op (o_pickF rfl rfl g15 rfl) ?_
      refine r_end ?_
      refine t_cond rfl (fun h19 => ?_) (fun h19 => ?_)
      ·
       have h19' := h19
       refine tsr ?_
       refine r_op oA ?_
       refine r_end ?_
       refine t_ret Tryz.func65 (.tmp rfl .nil) rfl fun E S w u hI hd => ?_
       refine post_mk hI hd ?_ trivial rfl rfl rfl <;> clear hI hd <;> (try clear ih0) <;> (try clear ih1)
       all_goals (refine scB ?_; (try (have qA := iA (by omega))); (try (have qK := kA (by omega))); (try (have qB := any_true (p := badA rs) (l := a0) (m := m) hz13 (by unfold badA; grind))); (try (have qC := any_true (p := badA rs) (l := a1) (m := n) hz13 (by unfold badA; grind))); (try (have qS := srcA_at (rs := rs) (r := z12.1) (ts := z12.2) hz17; have qD := any_true (p := srcA rs) (l := a1) (m := n) hz13 (by grind))); clear hs g0 g1 v0 v1; unfold depOk atomsOk; grind)
      ·
       have h19' := h19
       refine t_skip ?_
       refine t_endblock ?_
       refine t_region ?_
       refine r_op oM ?_
       refine r_op oB ?_
       refine r_op oA ?_
       refine r_end ?_
       refine t_le ?_ (ih1 (n + 1) (by (try dsimp only); omega) (by (try dsimp only); exact ⟨by omega, no_step (p := fun z => badA rs z || srcA rs z) k2 (by assumption) rfl (by have q1 := srcA_at (rs := rs) (r := z12.1) (ts := z12.2) hz17; unfold badA; grind)⟩))
       exact ⟨⟨rfl, ⟨rfl, ⟨(eqI (wr64 (by omega) (by omega))), trivial⟩⟩⟩, ⟨rfl, trivial⟩, rfl⟩
     ·
      have g15' := (bnt g15)
      refine r_guard rfl rfl rfl (nc g15) (fun _ => ?_)
      refine r_guard rfl rfl rfl (nc g15) (fun _ => ?_)
      refine r_guard rfl rfl rfl (nc g15) (fun _ => ?_)
      refine r_guard rfl rfl rfl (nc g15) (fun _ => ?_)
      refine r_guard rfl rfl rfl (nc g15) (fun _ => ?_)
      refine r_guard rfl rfl rfl (nc g15) (fun _ => ?_)
      refine r_guard rfl rfl rfl (nc g15) (fun _ => ?_)
      refine r_guard rfl rfl rfl (nc g15) (fun _ => ?_)
      refine r_guard rfl rfl rfl (nc g15) (fun _ => ?_)
      refine r_op (o_pickT rfl rfl g15 rfl) ?_
      refine r_end ?_
      refine t_cond rfl (fun _ => ?_) (nc rfl)
      refine tsr ?_
      refine r_op oA ?_
      refine r_end ?_
      refine t_ret Tryz.func65 (.tmp rfl .nil) rfl fun E S w u hI hd => ?_
      refine post_mk hI hd ?_ trivial rfl rfl rfl <;> clear hI hd <;> (try clear ih0) <;> (try clear ih1)
      all_goals (refine scB ?_; (try (have qA := iA (by omega))); (try (have qK := kA (by omega))); (try (have qB := any_true (p := badA rs) (l := a0) (m := m) hz13 (by unfold badA; grind))); (try (have qC := any_true (p := badA rs) (l := a1) (m := n) hz13 (by unfold badA; grind))); (try (have qS := srcA_at (rs := rs) (r := z12.1) (ts := z12.2) (by assumption); have qD := any_true (p := srcA rs) (l := a1) (m := n) hz13 (by grind))); clear hs g0 g1 v0 v1; unfold depOk atomsOk; grind)
    ·
     have h11' := of_decide_eq_false h11
     refine t_exit rfl ?_
     refine tsr ?_
     refine r_op (oF 1) ?_
     refine r_op oL ?_
     refine r_op (o_len rfl rfl rfl) ?_
     refine r_op (o_call 1 1 false (Go.Proofs.enters_of Tryz.func48 (by kernel_rfl) rfl) (c_spec_l1In (((a1).length : Int)) (1) (2)) rfl (.cons rfl (.c .t0) (.cons rfl (.c .t0) (.cons rfl (.c .t0) .nil))) rfl rfl rfl) ?_
     refine r_op oM ?_
     refine r_guard rfl rfl rfl (fun g20 => ?_) (fun g20 => ?_)
     ·
      have g20' := of_decide_eq_true g20
      refine r_op (oF 3) ?_
      refine r_guard rfl rfl rfl (fun _ => ?_) (nc g20)
      refine r_op oL ?_
      refine r_guard rfl rfl rfl (fun _ => ?_) (nc g20)
      refine r_op oB ?_
      refine r_op (o_pickT rfl rfl g20 rfl) ?_
      refine r_op oM ?_
      refine r_guard rfl rfl rfl (fun g21 => ?_) (fun g21 => ?_)
      ·
       have g21' := of_decide_eq_true g21
       refine r_op (oF 4) ?_
       refine r_guard rfl rfl rfl (fun _ => ?_) (nc g21)
       refine r_op oL ?_
       refine r_guard rfl rfl rfl (fun _ => ?_) (nc g21)
       refine r_op oB ?_
       refine r_op (o_pickT rfl rfl g21 rfl) ?_
       refine r_op oA ?_
       refine r_end ?_
       refine t_ret Tryz.func65 (.tmp rfl .nil) rfl fun E S w u hI hd => ?_
       refine post_mk hI hd ?_ trivial rfl rfl rfl <;> clear hI hd <;> (try clear ih0) <;> (try clear ih1)
       all_goals (refine scB ?_; (try (have qA := iA (by omega))); (try (have qK := kA (by omega))); (try (have qB := any_true (p := badA rs) (l := a0) (m := m) (by assumption) (by unfold badA; grind))); (try (have qC := any_true (p := badA rs) (l := a1) (m := n) (by assumption) (by unfold badA; grind))); (try (have qS := srcA_at (rs := rs) (r := (by assumption).1) (ts := (by assumption).2) (by assumption); have qD := any_true (p := srcA rs) (l := a1) (m := n) (by assumption) (by grind))); clear hs g0 g1 v0 v1; unfold depOk atomsOk; grind)
      ·
       have g21' := of_decide_eq_false g21
       refine r_guard rfl rfl rfl (ncf g21) (fun _ => ?_)
       refine r_guard rfl rfl rfl (ncf g21) (fun _ => ?_)
       refine r_op (o_pickF rfl rfl g21 rfl) ?_
       refine r_op oA ?_
       refine r_end ?_
       refine t_ret Tryz.func65 (.tmp rfl .nil) rfl fun E S w u hI hd => ?_
       refine post_mk hI hd ?_ trivial rfl rfl rfl <;> clear hI hd <;> (try clear ih0) <;> (try clear ih1)
       all_goals (refine scB ?_; (try (have qA := iA (by omega))); (try (have qK := kA (by omega))); (try (have qB := any_true (p := badA rs) (l := a0) (m := m) (by assumption) (by unfold badA; grind))); (try (have qC := any_true (p := badA rs) (l := a1) (m := n) (by assumption) (by unfold badA; grind))); (try (have qS := srcA_at (rs := rs) (r := (by assumption).1) (ts := (by assumption).2) (by assumption); have qD := any_true (p := srcA rs) (l := a1) (m := n) (by assumption) (by grind))); clear hs g0 g1 v0 v1; unfold depOk atomsOk; grind)
     ·
      have g20' := of_decide_eq_false g20
      refine r_guard rfl rfl rfl (ncf g20) (fun _ => ?_)
      refine r_guard rfl rfl rfl (ncf g20) (fun _ => ?_)
      refine r_op (o_pickF rfl rfl g20 rfl) ?_
      refine r_op oM ?_
      refine r_guard rfl rfl rfl (ncf rfl) (fun _ => ?_)
      refine r_guard rfl rfl rfl (ncf rfl) (fun _ => ?_)
      refine r_guard rfl rfl rfl (ncf rfl) (fun _ => ?_)
      refine r_op (o_pickF rfl rfl rfl rfl) ?_
      refine r_op oA ?_
      refine r_end ?_
      refine t_ret Tryz.func65 (.tmp rfl .nil) rfl fun E S w u hI hd => ?_
      refine post_mk hI hd ?_ trivial rfl rfl rfl <;> clear hI hd <;> (try clear ih0) <;> (try clear ih1)
      all_goals (refine scB ?_; (try (have qA := iA (by omega))); (try (have qK := kA (by omega))); (try (have qB := any_true (p := badA rs) (l := a0) (m := m) (by assumption) (by unfold badA; grind))); (try (have qC := any_true (p := badA rs) (l := a1) (m := n) (by assumption) (by unfold badA; grind))); (try (have qS := srcA_at (rs := rs) (r := (by assumption).1) (ts := (by assumption).2) (by assumption); have qD := any_true (p := srcA rs) (l := a1) (m := n) (by assumption) (by grind))); clear hs g0 g1 v0 v1; unfold depOk atomsOk; grind)
set_option maxHeartbeats 1000000 in
set_option maxRecDepth 10000 in
theorem c_spec_AreValidDependencies (rs : Rels) (l : List Dep) (hrs : rs.length ≤ 4611686018427387904) (hs : szS (fun (x : (List (Int × (List (Int)))) × (List (Int × (List (Int)))) × Bool × Int × Int) => (szS (fun (x : Int × (List (Int))) => (x.2).length) (x.1)) + (szS (fun (x : Int × (List (Int))) => (x.2).length) (x.2.1))) l ≤ 1048600) : Pu Tryz.prog 27 [.c (.t none (.sl 3 (enS3 encS encI encB) (rs))), .c (.t none (.sl 5 (enS5 (enSl 2 (enS2 encI (enSl 1 encI))) (enSl 2 (enS2 encI (enSl 1 encI))) encB encI encI) (l)))] [] 0 (.c (.t none (.v (.bool (depsOk rs l))))) := by
 refine pu_enter Tryz.func27 rfl (Nat.le_of_ble_eq_true rfl) fun w S => ?_
 have gl := sz_len (f := (fun (x : (List (Int × (List (Int)))) × (List (Int × (List (Int)))) × Bool × Int × Int) => (szS (fun (x : Int × (List (Int))) => (x.2).length) (x.1)) + (szS (fun (x : Int × (List (Int))) => (x.2).length) (x.2.1)))) (l := l)
 refine tsr ?_
 refine r_op oA ?_
 refine r_end ?_
 refine t_seq ?_
 refine tsr ?_
 refine r_op oA ?_
 refine r_end ?_
 refine t_block ?_
 refine t_loopL (fun m => ⟨[(0, some (.c (.t none (.sl 3 (enS3 encS encI encB) (rs))))), (1, some (.c (.t none (.sl 5 (enS5 (enSl 2 (enS2 encI (enSl 1 encI))) (enSl 2 (enS2 encI (enSl 1 encI))) encB encI encI) (l))))), (5, some (.c (.t none (.v (.int .i64 ((m : Int)))))))], [], 0⟩ : Nat → St) (fun m => m ≤ l.length ∧ ∀ j z, j < m → l[j]? = some z → badD rs z = false) (fun m => l.length - m) 0 ⟨⟨rfl, ⟨rfl, ⟨rfl, trivial⟩⟩⟩, trivial, rfl⟩ (by exact ⟨Nat.zero_le _, fun j z h => by omega⟩) ?_
 rintro m hI ih0
 try dsimp only at hI ih0
 obtain ⟨i1, i2⟩ := hI; have iA : l.length ≤ m → l.any (badD rs) = false := fun e => any_false i2 e
 refine t_seq ?_
 refine tsr ?_
 refine r_op oM ?_
 refine r_op oM ?_
 refine r_op (o_len rfl rfl rfl) ?_
 refine r_op oB ?_
 refine r_end ?_
 refine t_cond rfl (fun h1 => ?_) (fun h1 => ?_)
 ·
  have h1' := of_decide_eq_true h1
  refine t_skip ?_
  refine t_seq ?_
  refine t_block ?_
  refine tsr ?_
  refine r_op oM ?_
  refine r_op oM ?_
  refine r_op oM ?_
  obtain ⟨z2, hz3, b4⟩ := at_get (xs := l) (n := (m : Int)) (by omega) (by omega)
  refine r_op (o_index rfl (by kernel_rfl) rfl rfl b4 hz3) ?_
  refine r_op (o_loadA rfl (n := 5) (by kernel_rfl) (by kernel_rfl) rfl rfl) ?_
  refine r_op (o_call 0 0 false (Go.Proofs.enters_of Tryz.func65 (by kernel_rfl) rfl) (c_spec_IsValidDependency (rs) (z2.1) (z2.2.1) (z2.2.2.1) (z2.2.2.2.1) (z2.2.2.2.2) (by omega) (by (have e1 := sz_at (f := (fun (x : (List (Int × (List (Int)))) × (List (Int × (List (Int)))) × Bool × Int × Int) => (szS (fun (x : Int × (List (Int))) => (x.2).length) (x.1)) + (szS (fun (x : Int × (List (Int))) => (x.2).length) (x.2.1)))) (l := l) (m := m) (by assumption); (try dsimp only at e1); omega))) rfl (.cons rfl (.c .t0) (.cons rfl (.agg (.cons .t0 (.cons .t0 (.cons .t0 (.cons .t0 (.cons .t0 .nil)))))) .nil)) rfl rfl rfl) ?_
  refine r_op (o_not rfl rfl) ?_
  refine r_end ?_
  refine t_cond rfl (fun h5 => ?_) (fun h5 => ?_)
  ·
   have h5' := (bnt h5)
   refine tsr ?_
   refine r_op oA ?_
   refine r_end ?_
   refine t_ret Tryz.func27 (.tmp rfl .nil) rfl fun E S w u hI hd => ?_
   refine post_mk hI hd ?_ trivial rfl rfl rfl <;> clear hI hd <;> (try clear ih0)
   all_goals (refine scB ?_; (try (have qA := iA (by omega))); (try (have qB := any_true (p := badD rs) (l := l) (m := m) hz3 (by unfold badD; grind))); clear hs gl; unfold depsOk; grind)
  ·
   have h5' := (bnf h5)
   refine t_skip ?_
   refine t_endblock ?_
   refine t_region ?_
   refine r_op oM ?_
   refine r_op oB ?_
   refine r_op oA ?_
   refine r_end ?_
   refine t_le ?_ (ih0 (m + 1) (by (try dsimp only); omega) (by (try dsimp only); exact ⟨by omega, no_step i2 (by assumption) rfl (by unfold badD; grind)⟩))
   exact ⟨⟨rfl, ⟨rfl, ⟨(eqI (wr64 (by omega) (by omega))), trivial⟩⟩⟩, trivial, rfl⟩
 ·
  have h1' := of_decide_eq_false h1
  refine t_exit rfl ?_
  refine tsr ?_
  refine r_op oM ?_
  refine r_op (o_call 0 0 false (Go.Proofs.enters_of Tryz.func66 (by kernel_rfl) rfl) (c_spec_AreValidRelations (rs) (by omega)) rfl (.cons rfl (.c .t0) .nil) rfl rfl rfl) ?_
  refine r_op oM ?_
  refine r_guard rfl rfl rfl (fun g6 => ?_) (fun g6 => ?_)
  ·
   have g6' := g6
   refine r_op oM ?_
   refine r_guard rfl rfl rfl (fun _ => ?_) (nc g6)
   refine r_op (o_len rfl rfl rfl) ?_
   refine r_guard rfl rfl rfl (fun _ => ?_) (nc g6)
   refine r_op oB ?_
   refine r_op (o_pickT rfl rfl g6 rfl) ?_
   refine r_op oA ?_
   refine r_end ?_
   refine t_ret Tryz.func27 (.tmp rfl .nil) rfl fun E S w u hI hd => ?_
   refine post_mk hI hd ?_ trivial rfl rfl rfl <;> clear hI hd <;> (try clear ih0)
   all_goals (refine scB ?_; (try (have qA := iA (by omega))); (try (have qB := any_true (p := badD rs) (l := l) (m := m) (by assumption) (by unfold badD; grind))); clear hs gl; unfold depsOk; grind)
  ·
   have g6' := g6
   refine r_guard rfl rfl rfl (ncf g6) (fun _ => ?_)
   refine r_guard rfl rfl rfl (ncf g6) (fun _ => ?_)
   refine r_op (o_pickF rfl rfl g6 rfl) ?_
   refine r_op oA ?_
   refine r_end ?_
   refine t_ret Tryz.func27 (.tmp rfl .nil) rfl fun E S w u hI hd => ?_
   refine post_mk hI hd ?_ trivial rfl rfl rfl <;> clear hI hd <;> (try clear ih0)
   all_goals (refine scB ?_; (try (have qA := iA (by omega))); (try (have qB := any_true (p := badD rs) (l := l) (m := m) (by assumption) (by unfold badD; grind))); clear hs gl; unfold depsOk; grind)
set_option maxHeartbeats 1000000 in
set_option maxRecDepth 10000 in
theorem c_spec_FormatInt (k : Int) (hk : 0 ≤ k) (hk2 : k < 4611686018427387904) : Pu Tryz.prog 46 [.c (.t none (.v (.int .i64 (k))))] [] 0 (.c (.t none (.v (.string (mkS (fmtN k)))))) := by
 refine pu_enter Tryz.func46 rfl (Nat.le_of_ble_eq_true rfl) fun w S => ?_
 refine tsr ?_
 refine r_op oA ?_
 refine r_end ?_
 refine t_seq ?_
 refine tsr ?_
 refine r_op oM ?_
 refine r_op oB ?_
 refine r_end ?_
 refine t_cond rfl (fun h1 => ?_) (fun h1 => ?_)
 ·
  have h1' := of_decide_eq_true h1
  refine tsr ?_
  refine r_op oA ?_
  refine r_end ?_
  refine t_ret Tryz.func46 (.tmp rfl .nil) rfl fun E S w u hI hd => ?_
  refine post_mk hI hd ?_ trivial rfl rfl rfl <;> clear hI hd <;> (try clear ih0)
  all_goals (refine scS ?_; unfold fmtN; (rw [if_pos (by assumption)]; done))
 ·
  have h1' := of_decide_eq_false h1
  refine t_skip ?_
  refine tsr ?_
  refine r_op oA ?_
  refine etr ?_
  refine r_op oM ?_
  refine r_op oB ?_
  refine r_op oA ?_
  refine r_end ?_
  refine t_seq ?_
  refine t_block ?_
  refine t_loopL (fun (q, out) => ⟨[(0, some (.c (.t none (.v (.int .i64 ((q : Int))))))), (2, some (.c (.t none (.v (.string (mkS (([] : List UInt8)))))))), (3, some (.c (.t none (.v (.string (mkS (out))))))), (4, some (.c (.t none (.v (.bool (decide (k < 0)))))))], [], 0⟩ : Nat × List UInt8 → St) (fun (q, out) => digs q ++ out = digs k.toNat ∧ (q : Int) ≤ k ∧ out.length + q ≤ k.toNat) (fun (q, out) => q) (k.toNat, []) ⟨⟨(eqI (by omega)), ⟨rfl, ⟨rfl, ⟨rfl, trivial⟩⟩⟩⟩, trivial, rfl⟩ (by exact ⟨List.append_nil _, by omega, by simp⟩) ?_
  rintro ⟨q, out⟩ hI ih0
  try dsimp only at hI ih0
  obtain ⟨i1, i2, i3⟩ := hI
  refine t_seq ?_
  refine tsr ?_
  refine r_op oM ?_
  refine r_op oB ?_
  refine r_end ?_
  refine t_cond rfl (fun h2 => ?_) (fun h2 => ?_)
  ·
   have h2' := of_decide_eq_true h2
   refine t_skip ?_
   refine t_block ?_
   refine tsr ?_
   refine r_op oM ?_
   refine r_op (o_binD rfl rfl rfl (rem_lit 10 rfl (by decide))) ?_
   refine r_op oA ?_
   refine r_end ?_
   refine t_seq ?_
   refine tsr ?_
   refine r_op oM ?_
   refine r_op oB ?_
   refine r_end ?_
   refine t_cond rfl (fun h3 => ?_) (fun h3 => ?_)
   ·
    have h3' := of_decide_eq_true h3
    exfalso; omega
   ·
    have h3' := of_decide_eq_false h3
    refine t_skip ?_
    refine tsr ?_
    refine r_op oM ?_
    refine r_op oB ?_
    refine r_op (o_conv rfl Tryz.underlying3 Tryz.underlying5 rfl) ?_
    refine r_op (o_lit1 0 (e := 5) (sz := 1) (zs := [.int .u8 0]) (enc := encU) (IntKind.u8.wrap (IntKind.i64.wrap (48 + ((q % 10 : Nat) : Int)))) rfl rfl (by kernel_rfl) rfl rfl rfl rfl rfl rfl (.cons .sc .nil)) ?_
    refine r_op (o_convBSo rfl Tryz.underlying22 Tryz.underlying5 Tryz.underlying9 rfl rfl) ?_
    refine r_op oM ?_
    refine r_op (o_cat rfl rfl rfl (by (simp [bytesOf]; omega))) ?_
    refine r_op oA ?_
    refine rtr ?_
    refine r_op oM ?_
    refine r_op (o_binD rfl rfl rfl (quo_lit 10 rfl (by decide) (by omega))) ?_
    refine r_op oA ?_
    refine r_end ?_
    refine t_endblock ?_
    refine t_le ?_ (ih0 (q / 10, (bytesOf ([IntKind.u8.wrap (IntKind.i64.wrap (48 + ((q % 10 : Nat) : Int)))])) ++ out) (by (try dsimp only); omega) (by (try dsimp only); exact ⟨by rw [digit_byte, ← i1, digs_step (q := q) (by omega), List.append_assoc], by omega, by rw [digit_byte]; simp only [List.length_append, List.length_cons, List.length_nil]; omega⟩))
    exact ⟨⟨rfl, ⟨rfl, ⟨rfl, ⟨rfl, trivial⟩⟩⟩⟩, trivial, rfl⟩
  ·
   have h2' := of_decide_eq_false h2
   refine t_exit rfl ?_
   refine t_seq ?_
   refine tsr ?_
   refine r_op oM ?_
   refine r_end ?_
   refine t_cond rfl (fun h4 => ?_) (fun h4 => ?_)
   ·
    have h4' := of_decide_eq_true h4
    exfalso; omega
   ·
    have h4' := of_decide_eq_false h4
    refine t_skip ?_
    refine tsr ?_
    refine r_op oM ?_
    refine r_op oA ?_
    refine r_end ?_
    refine t_ret Tryz.func46 (.tmp rfl .nil) rfl fun E S w u hI hd => ?_
    refine post_mk hI hd ?_ trivial rfl rfl rfl <;> clear hI hd <;> (try clear ih0)
    all_goals (refine scS ?_; unfold fmtN; ((obtain rfl : q = 0 := by omega); (have e := i1; simp only [digs, List.nil_append] at e; rw [if_neg (by omega), e])))
set_option maxHeartbeats 1000000 in
set_option maxRecDepth 10000 in
theorem c_spec_FormatTerm (t : Int) (ht : okI t) : Pu Tryz.prog 172 [.c (.t none (.v (.int .i64 (t))))] [] 0 (.c (.t none (.v (.string (mkS (fmtT t)))))) := by
 refine pu_enter Tryz.func172 rfl (Nat.le_of_ble_eq_true rfl) fun w S => ?_
 have h1 := ht.1; have h2 := ht.2
 refine tsr ?_
 refine r_op oA ?_
 refine r_end ?_
 refine t_seq ?_
 refine tsr ?_
 refine r_op oM ?_
 refine r_op (o_call 0 0 false (Go.Proofs.enters_of Tryz.func48 (by kernel_rfl) rfl) (c_spec_l1In (t) (-10) (-1)) rfl (.cons rfl (.c .t0) (.cons rfl (.c .t0) (.cons rfl (.c .t0) .nil))) rfl rfl rfl) ?_
 refine r_end ?_
 refine t_cond rfl (fun h1 => ?_) (fun h1 => ?_)
 ·
  have h1' := of_decide_eq_true h1
  refine tsr ?_
  refine r_op oM ?_
  refine r_op oB ?_
  refine r_op (o_call 0 0 false (Go.Proofs.enters_of Tryz.func46 (by kernel_rfl) rfl) (c_spec_FormatInt (IntKind.i64.wrap ((-1) - t)) (by (rw [wr64 (by omega) (by omega)]; omega)) (by (rw [wr64 (by omega) (by omega)]; omega))) rfl (.cons rfl (.c .t0) .nil) rfl rfl rfl) ?_
  refine r_op oA ?_
  refine r_end ?_
  refine t_ret Tryz.func172 (.tmp rfl .nil) rfl fun E S w u hI hd => ?_
  refine post_mk hI hd ?_ trivial rfl rfl rfl <;> clear hI hd
  all_goals (refine scS ?_; (exact fmtT_con (by omega)))
 ·
  have h1' := of_decide_eq_false h1
  refine t_skip ?_
  refine t_seq ?_
  refine tsr ?_
  refine r_op oM ?_
  refine r_op (o_call 0 0 false (Go.Proofs.enters_of Tryz.func48 (by kernel_rfl) rfl) (c_spec_l1In (t) (0) (4)) rfl (.cons rfl (.c .t0) (.cons rfl (.c .t0) (.cons rfl (.c .t0) .nil))) rfl rfl rfl) ?_
  refine r_op (o_not rfl rfl) ?_
  refine r_end ?_
  refine t_cond rfl (fun h2 => ?_) (fun h2 => ?_)
  ·
   have h2' := of_decide_eq_false (bnt h2)
   refine tsr ?_
   refine r_op oA ?_
   refine r_end ?_
   refine t_ret Tryz.func172 (.tmp rfl .nil) rfl fun E S w u hI hd => ?_
   refine post_mk hI hd ?_ trivial rfl rfl rfl <;> clear hI hd
   all_goals (refine scS ?_; (exact fmtT_no (by omega) (by omega)))
  ·
   have h2' := of_decide_eq_true (bnf h2)
   refine t_skip ?_
   refine tsr ?_
   refine r_op oM ?_
   refine r_op oM ?_
   refine r_op oB ?_
   refine r_op (o_subS rfl Tryz.underlying9 rfl rfl rfl (by omega) (by (rw [wr64 (by omega) (by omega)]; omega)) (by (rw [wr64 (by omega) (by omega)]; simp; omega))) ?_
   refine r_op oA ?_
   refine r_end ?_
   refine t_ret Tryz.func172 (.tmp rfl .nil) rfl fun E S w u hI hd => ?_
   refine post_mk hI hd ?_ trivial rfl rfl rfl <;> clear hI hd
   all_goals (refine scS ?_; (exact fmtT_var (by omega)))
set_option maxHeartbeats 1000000 in
set_option maxRecDepth 10000 in
theorem c_spec_FormatAtom (rs : List (List UInt8 × Int × Bool)) (r : Int) (ts : List Int) (hrs : rs.length ≤ 4611686018427387904) (hts : ts.length ≤ 4611686018427387904) (ho : ∀ x ∈ ts, okI x) : Pu Tryz.prog 208 [.c (.t none (.sl 3 (enS3 encS encI encB) (rs))), .agg [.t none (.v (.int .i64 (r))), .t none (.sl 1 encI (ts))]] [] 0 (.c (.t none (.v (.string (mkS (fmtA rs (r, ts))))))) := by
 refine pu_enter Tryz.func208 rfl (Nat.le_of_ble_eq_true rfl) fun w S => ?_
 have ar := @atomOk_rels rs r ts
 refine tsr ?_
 refine r_op (o_box 0 rfl rfl rfl rfl) ?_
 refine r_op oA ?_
 refine r_end ?_
 refine t_seq ?_
 refine tsr ?_
 refine r_op oM ?_
 refine r_op (oC 2) ?_
 refine r_op (o_call 1 1 false (Go.Proofs.enters_of Tryz.func127 (by kernel_rfl) rfl) (c_spec_IsValidAtom (rs) (r) (ts) (by omega) (by omega)) rfl (.cons rfl (.c .t0) (.cons rfl (.agg (.cons .t0 (.cons .t0 .nil))) .nil)) rfl rfl rfl) ?_
 refine r_op (o_not rfl rfl) ?_
 refine r_end ?_
 refine t_cond rfl (fun h1 => ?_) (fun h1 => ?_)
 ·
  have h1' := (bnt h1)
  refine tsr ?_
  refine r_op oA ?_
  refine r_end ?_
  refine t_ret Tryz.func208 (.tmp rfl .nil) rfl fun E S w u hI hd => ?_
  refine post_mk hI hd ?_ trivial rfl rfl rfl <;> clear hI hd <;> (try clear ih0)
  all_goals (refine scS ?_; (exact fmtA_no (by assumption)))
 ·
  have h1' := (bnf h1)
  refine t_skip ?_
  refine tsr ?_
  refine r_op oM ?_
  refine r_op (oF 0) ?_
  refine r_op oL ?_
  obtain ⟨z2, hz3, b4⟩ := at_get (xs := rs) (n := r) (by (have q := ar (by assumption); omega)) (by (have q := ar (by assumption); omega))
  refine r_op (o_index rfl (by kernel_rfl) rfl rfl b4 hz3) ?_
  refine r_op (o_field rfl (off := 0) (by kernel_rfl) rfl) ?_
  refine r_op (o_load1 rfl (by kernel_rfl) rfl rfl) ?_
  refine r_op oA ?_
  refine r_end ?_
  refine t_seq ?_
  refine tsr ?_
  refine r_op oA ?_
  refine r_end ?_
  refine t_block ?_
  refine t_loopL (fun m => ⟨[(3, some (.c (.ptr 0 0))), (4, some (.c (.t none (.v (.string (mkS (([] : List UInt8)))))))), (5, some (.c (.t none (.v (.string (mkS (z2.1 ++ (ts.take m).flatMap fmtT))))))), (6, some (.c (.t none (.v (.int .i64 ((m : Int)))))))], [(0, some (.box [.t none (.v (.int .i64 (r))), .t none (.sl 1 encI (ts))]))], 1⟩ : Nat → St) (fun m => m ≤ ts.length) (fun m => ts.length - m) 0 ⟨⟨rfl, ⟨rfl, ⟨(eqS (by simp)), ⟨rfl, trivial⟩⟩⟩⟩, ⟨rfl, trivial⟩, rfl⟩ (by exact Nat.zero_le _) ?_
  rintro m hI ih0
  try dsimp only at hI ih0
  have i1 := hI; have a1 := ar (by assumption); have nl := name_len a1.1 hz3; have fl := flatT_len (ts.take m); have tl : (ts.take m).length ≤ 3 := (by rw [List.length_take]; omega); have cl : (z2.1 ++ (ts.take m).flatMap fmtT).length ≤ 7 := (by rw [List.length_append]; omega)
  refine t_seq ?_
  refine tsr ?_
  refine r_op oM ?_
  refine r_op (oF 1) ?_
  refine r_op oL ?_
  refine r_op (o_len rfl rfl rfl) ?_
  refine r_op oB ?_
  refine r_end ?_
  refine t_cond rfl (fun h5 => ?_) (fun h5 => ?_)
  ·
   have h5' := of_decide_eq_true h5
   refine t_skip ?_
   refine t_seq ?_
   refine t_block ?_
   refine t_region ?_
   refine r_op oM ?_
   refine r_op (oF 1) ?_
   refine r_op oL ?_
   refine r_op oM ?_
   obtain ⟨z6, hz7, b8⟩ := at_get (xs := ts) (n := (m : Int)) (by omega) (by omega)
   refine r_op (o_index rfl (by kernel_rfl) rfl rfl b8 hz7) ?_
   refine r_op (o_load1 rfl (by kernel_rfl) rfl rfl) ?_
   refine r_op (o_call 1 1 false (Go.Proofs.enters_of Tryz.func172 (by kernel_rfl) rfl) (c_spec_FormatTerm (z6) (by exact ho _ (List.mem_of_getElem? (by assumption)))) rfl (.cons rfl (.c .t0) .nil) rfl rfl rfl) ?_
   refine r_op (o_cat rfl rfl rfl (by exact Nat.le_trans (Nat.add_le_add cl (fmtT_len _)) (by decide))) ?_
   refine r_op oA ?_
   refine r_end ?_
   refine t_endblock ?_
   refine t_region ?_
   refine r_op oM ?_
   refine r_op oB ?_
   refine r_op oA ?_
   refine r_end ?_
   refine t_le ?_ (ih0 (m + 1) (by (try dsimp only); omega) (by (try dsimp only); omega))
   exact ⟨⟨rfl, ⟨rfl, ⟨(eqS (by rw [List.append_assoc, fmtF_step (m := m) hz7])), ⟨(eqI (wr64 (by omega) (by omega))), trivial⟩⟩⟩⟩, ⟨rfl, trivial⟩, rfl⟩
  ·
   have h5' := of_decide_eq_false h5
   refine t_exit rfl ?_
   refine tsr ?_
   refine r_op oM ?_
   refine r_op oA ?_
   refine r_end ?_
   refine t_ret Tryz.func208 (.tmp rfl .nil) rfl fun E S w u hI hd => ?_
   refine post_mk hI hd ?_ trivial rfl rfl rfl <;> clear hI hd <;> (try clear ih0)
   all_goals (refine scS ?_; (exact fmtA_yes (by assumption) (by assumption) (by omega)))
set_option maxHeartbeats 1000000 in
set_option maxRecDepth 10000 in
theorem c_spec_l10Atoms (rs : Rels) (l : Atoms) (hrs : rs.length ≤ 4611686018427387904) (hs : szS (fun (x : Int × (List (Int))) => (x.2).length) l ≤ 1048600) (hoa : ∀ z ∈ l, ∀ x ∈ z.2, okI x) : Pu Tryz.prog 171 [.c (.t none (.sl 3 (enS3 encS encI encB) (rs))), .c (.t none (.sl 2 (enS2 encI (enSl 1 encI)) (l)))] [] 0 (.c (.t none (.v (.string (mkS (fmtAs rs l)))))) := by
 refine pu_enter Tryz.func171 rfl (Nat.le_of_ble_eq_true rfl) fun w S => ?_
 have gl := sz_len (f := (fun (x : Int × (List (Int))) => (x.2).length)) (l := l)
 refine tsr ?_
 refine r_op oA ?_
 refine etr ?_
 refine r_op oA ?_
 refine r_end ?_
 refine t_seq ?_
 refine tsr ?_
 refine r_op oA ?_
 refine r_end ?_
 refine t_block ?_
 refine t_loopL (fun m => ⟨[(0, some (.c (.t none (.sl 3 (enS3 encS encI encB) (rs))))), (1, some (.c (.t none (.sl 2 (enS2 encI (enSl 1 encI)) (l))))), (4, some (.c (.t none (.v (.string (mkS (([] : List UInt8)))))))), (5, some (.c (.t none (.v (.string (mkS (Lib.join ((l.take m).map (fmtA rs)) [32]))))))), (6, some (.c (.t none (.v (.int .i64 ((m : Int)))))))], [], 0⟩ : Nat → St) (fun m => m ≤ l.length) (fun m => l.length - m) 0 ⟨⟨rfl, ⟨rfl, ⟨rfl, ⟨(eqS rfl), ⟨rfl, trivial⟩⟩⟩⟩⟩, trivial, rfl⟩ (by exact Nat.zero_le _) ?_
 rintro m hI ih0
 try dsimp only at hI ih0
 have i1 := hI; have ml := mapT_len (f := fmtA rs) (fun a => fmtA_len a) l m [32]; (try simp only [List.length_cons, List.length_nil] at ml); have mm : ((l.take m).map (fmtA rs)).length ≤ l.length := (by rw [List.length_map, List.length_take]; omega)
 refine t_seq ?_
 refine tsr ?_
 refine r_op oM ?_
 refine r_op oM ?_
 refine r_op (o_len rfl rfl rfl) ?_
 refine r_op oB ?_
 refine r_end ?_
 refine t_cond rfl (fun h1 => ?_) (fun h1 => ?_)
 ·
  have h1' := of_decide_eq_true h1
  refine t_skip ?_
  refine t_seq ?_
  refine t_block ?_
  refine t_seq ?_
  refine tsr ?_
  refine r_op oM ?_
  refine r_op oB ?_
  refine r_end ?_
  refine t_cond rfl (fun h2 => ?_) (fun h2 => ?_)
  ·
   have h2' := of_decide_eq_true h2
   refine t_region ?_
   refine r_op oM ?_
   refine r_op (o_cat rfl rfl rfl (by (simp only [List.length_append, List.length_cons, List.length_nil]; omega))) ?_
   refine r_op oA ?_
   refine rtr ?_
   refine r_op oM ?_
   refine r_op oM ?_
   refine r_op oM ?_
   refine r_op oM ?_
   obtain ⟨z3, hz4, b5⟩ := at_get (xs := l) (n := (m : Int)) (by omega) (by omega)
   refine r_op (o_index rfl (by kernel_rfl) rfl rfl b5 hz4) ?_
   refine r_op (o_loadA rfl (n := 2) (by kernel_rfl) (by kernel_rfl) rfl rfl) ?_
   refine r_op (o_call 0 0 false (Go.Proofs.enters_of Tryz.func208 (by kernel_rfl) rfl) (c_spec_FormatAtom (rs) (z3.1) (z3.2) (by omega) (by (have e1 := sz_at (f := (fun (x : Int × (List (Int))) => (x.2).length)) (l := l) (m := m) (by assumption); (try dsimp only at e1); omega)) (by exact hoa _ (List.mem_of_getElem? (by assumption)))) rfl (.cons rfl (.c .t0) (.cons rfl (.agg (.cons .t0 (.cons .t0 .nil))) .nil)) rfl rfl rfl) ?_
   refine r_op (o_cat rfl rfl rfl (by (refine Nat.le_trans (Nat.add_le_add (Nat.le_of_eq (List.length_append ..)) (fmtA_len _)) ?_; simp only [List.length_cons, List.length_nil]; omega))) ?_
   refine r_op oA ?_
   refine r_end ?_
   refine t_endblock ?_
   refine t_region ?_
   refine r_op oM ?_
   refine r_op oB ?_
   refine r_op oA ?_
   refine r_end ?_
   refine t_le ?_ (ih0 (m + 1) (by (try dsimp only); omega) (by (try dsimp only); omega))
   exact ⟨⟨rfl, ⟨rfl, ⟨rfl, ⟨(eqS (by exact joinT_step hz4 (by omega))), ⟨(eqI (wr64 (by omega) (by omega))), trivial⟩⟩⟩⟩⟩, trivial, rfl⟩
  ·
   have h2' := of_decide_eq_false h2
   refine t_skip ?_
   refine t_region ?_
   refine r_op oM ?_
   refine r_op oM ?_
   refine r_op oM ?_
   refine r_op oM ?_
   obtain ⟨z6, hz7, b8⟩ := at_get (xs := l) (n := (m : Int)) (by omega) (by omega)
   refine r_op (o_index rfl (by kernel_rfl) rfl rfl b8 hz7) ?_
   refine r_op (o_loadA rfl (n := 2) (by kernel_rfl) (by kernel_rfl) rfl rfl) ?_
   refine r_op (o_call 0 0 false (Go.Proofs.enters_of Tryz.func208 (by kernel_rfl) rfl) (c_spec_FormatAtom (rs) (z6.1) (z6.2) (by omega) (by (have e1 := sz_at (f := (fun (x : Int × (List (Int))) => (x.2).length)) (l := l) (m := m) (by assumption); (try dsimp only at e1); omega)) (by exact hoa _ (List.mem_of_getElem? (by assumption)))) rfl (.cons rfl (.c .t0) (.cons rfl (.agg (.cons .t0 (.cons .t0 .nil))) .nil)) rfl rfl rfl) ?_
   refine r_op (o_cat rfl rfl rfl (by exact Nat.le_trans (Nat.add_le_add ml (fmtA_len _)) (by omega))) ?_
   refine r_op oA ?_
   refine r_end ?_
   refine t_endblock ?_
   refine t_region ?_
   refine r_op oM ?_
   refine r_op oB ?_
   refine r_op oA ?_
   refine r_end ?_
   refine t_le ?_ (ih0 (m + 1) (by (try dsimp only); omega) (by (try dsimp only); omega))
   exact ⟨⟨rfl, ⟨rfl, ⟨rfl, ⟨(eqS (by exact joinT_step0 hz7 (by omega))), ⟨(eqI (wr64 (by omega) (by omega))), trivial⟩⟩⟩⟩⟩, trivial, rfl⟩
 ·
  have h1' := of_decide_eq_false h1
  refine t_exit rfl ?_
  refine tsr ?_
  refine r_op oM ?_
  refine r_op oA ?_
  refine r_end ?_
  refine t_ret Tryz.func171 (.tmp rfl .nil) rfl fun E S w u hI hd => ?_
  refine post_mk hI hd ?_ trivial rfl rfl rfl <;> clear hI hd <;> (try clear ih0)
  all_goals (refine scS ?_; exact fmtAs_end (by omega))
set_option maxHeartbeats 1000000 in
set_option maxRecDepth 10000 in
theorem c_spec_FormatDependency (rs : Rels) (a0 : List (Int × (List (Int)))) (a1 : List (Int × (List (Int)))) (a2 : Bool) (a3 : Int) (a4 : Int) (hrs : rs.length ≤ 4611686018427387904) (hs : szS (fun (x : Int × (List (Int))) => (x.2).length) a0 + szS (fun (x : Int × (List (Int))) => (x.2).length) a1 ≤ 1048600) (hoa : ∀ z ∈ a0, ∀ x ∈ z.2, okI x) (hob : ∀ z ∈ a1, ∀ x ∈ z.2, okI x) (h3 : okI a3) (h4 : okI a4) : Pu Tryz.prog 117 [.c (.t none (.sl 3 (enS3 encS encI encB) (rs))), .agg [.t none (.sl 2 (enS2 encI (enSl 1 encI)) (a0)), .t none (.sl 2 (enS2 encI (enSl 1 encI)) (a1)), .t none (.v (.bool (a2))), .t none (.v (.int .i64 (a3))), .t none (.v (.int .i64 (a4)))]] [] 0 (.c (.t none (.v (.string (mkS (fmtD rs (a0, a1, a2, a3, a4))))))) := by
 refine pu_enter Tryz.func117 rfl (Nat.le_of_ble_eq_true rfl) fun w S => ?_
 have g0 := sz_len (f := (fun (x : Int × (List (Int))) => (x.2).length)) (l := a0); have g1 := sz_len (f := (fun (x : Int × (List (Int))) => (x.2).length)) (l := a1); have v0 := setI_len (varsL a0); have v1 := varsL_size a0; have k0 := fmtAs_len rs a0; have k1 := fmtAs_len rs a1; have k3 := fmtT_len a3; have k4 := fmtT_len a4
 refine tsr ?_
 refine r_op (o_box 0 rfl rfl rfl rfl) ?_
 refine r_op oA ?_
 refine r_end ?_
 refine t_seq ?_
 refine tsr ?_
 refine r_op oM ?_
 refine r_op (oC 5) ?_
 refine r_op (o_call 1 1 false (Go.Proofs.enters_of Tryz.func65 (by kernel_rfl) rfl) (c_spec_IsValidDependency (rs) (a0) (a1) (a2) (a3) (a4) (by omega) (by omega)) rfl (.cons rfl (.c .t0) (.cons rfl (.agg (.cons .t0 (.cons .t0 (.cons .t0 (.cons .t0 (.cons .t0 .nil)))))) .nil)) rfl rfl rfl) ?_
 refine r_op (o_not rfl rfl) ?_
 refine r_end ?_
 refine t_cond rfl (fun h1 => ?_) (fun h1 => ?_)
 ·
  have h1' := (bnt h1)
  refine tsr ?_
  refine r_op oA ?_
  refine r_end ?_
  refine t_ret Tryz.func117 (.tmp rfl .nil) rfl fun E S w u hI hd => ?_
  refine post_mk hI hd ?_ trivial rfl rfl rfl <;> clear hI hd
  all_goals (refine scS ?_; (exact fmtD_no (by assumption)))
 ·
  have h1' := (bnf h1)
  refine t_skip ?_
  refine t_seq ?_
  refine tsr ?_
  refine r_op (oF 2) ?_
  refine r_op oL ?_
  refine r_end ?_
  refine t_cond rfl (fun h2 => ?_) (fun h2 => ?_)
  ·
   have h2' := h2
   refine t_seq ?_
   refine t_draw (fun _ => true) (by kernel_rfl) ?_
   refine dT 0 rfl pM ?_
   refine dT 1 rfl (pF 0) ?_
   refine dT 2 rfl pL ?_
   refine dT 5 rfl (pF 3) ?_
   refine dT 6 rfl pL ?_
   refine dT 9 rfl (pF 4) ?_
   refine dT 10 rfl pL ?_
   refine dO 3 rfl (o_call 1 1 false (Go.Proofs.enters_of Tryz.func171 (by kernel_rfl) rfl) (c_spec_l10Atoms (rs) (a0) (by omega) (by omega) (by omega)) rfl (.cons rfl (.c .t0) (.cons rfl (.c .t0) .nil)) rfl rfl rfl) ?_
   refine dT 4 rfl (p_cat rfl rfl (by (simp only [List.length_append, List.length_cons, List.length_nil]; omega))) ?_
   refine dO 7 rfl (o_call 1 1 false (Go.Proofs.enters_of Tryz.func172 (by kernel_rfl) rfl) (c_spec_FormatTerm (a3) (by omega)) rfl (.cons rfl (.c .t0) .nil) rfl rfl rfl) ?_
   refine dT 8 rfl (p_cat rfl rfl (by (simp only [List.length_append, List.length_cons, List.length_nil]; omega))) ?_
   refine dO 11 rfl (o_call 1 1 false (Go.Proofs.enters_of Tryz.func172 (by kernel_rfl) rfl) (c_spec_FormatTerm (a4) (by omega)) rfl (.cons rfl (.c .t0) .nil) rfl rfl rfl) ?_
   refine dT 12 rfl (p_cat rfl rfl (by (simp only [List.length_append, List.length_cons, List.length_nil]; omega))) ?_
   refine dT 13 rfl pA ?_
   refine d_end (by kernel_rfl) ?_
   refine t_ret Tryz.func117 (.tmp rfl .nil) rfl fun E S w u hI hd => ?_
   refine post_mk hI hd ?_ trivial rfl rfl rfl <;> clear hI hd
   all_goals (refine scS ?_; (exact fmtD_egd (by assumption) (by assumption)))
  ·
   have h2' := h2
   refine t_skip ?_
   refine t_seq ?_
   refine t_draw (fun _ => true) (by kernel_rfl) ?_
   refine dT 0 rfl pM ?_
   refine dT 1 rfl (pF 0) ?_
   refine dT 2 rfl pL ?_
   refine dT 5 rfl pM ?_
   refine dT 6 rfl (pF 1) ?_
   refine dT 7 rfl pL ?_
   refine dO 3 rfl (o_call 1 1 false (Go.Proofs.enters_of Tryz.func171 (by kernel_rfl) rfl) (c_spec_l10Atoms (rs) (a0) (by omega) (by omega) (by omega)) rfl (.cons rfl (.c .t0) (.cons rfl (.c .t0) .nil)) rfl rfl rfl) ?_
   refine dT 4 rfl (p_cat rfl rfl (by (simp only [List.length_append, List.length_cons, List.length_nil]; omega))) ?_
   refine dO 8 rfl (o_call 1 1 false (Go.Proofs.enters_of Tryz.func171 (by kernel_rfl) rfl) (c_spec_l10Atoms (rs) (a1) (by omega) (by omega) (by omega)) rfl (.cons rfl (.c .t0) (.cons rfl (.c .t0) .nil)) rfl rfl rfl) ?_
   refine dT 9 rfl (p_cat rfl rfl (by (simp only [List.length_append, List.length_cons, List.length_nil]; omega))) ?_
   refine dT 10 rfl pA ?_
   refine d_end (by kernel_rfl) ?_
   refine t_ret Tryz.func117 (.tmp rfl .nil) rfl fun E S w u hI hd => ?_
   refine post_mk hI hd ?_ trivial rfl rfl rfl <;> clear hI hd
   all_goals (refine scS ?_; (exact fmtD_tgd (by assumption) (by assumption)))
set_option maxHeartbeats 1000000 in
set_option maxRecDepth 10000 in
theorem c_spec_FormatDependencies (rs : Rels) (ds : List Dep) (hrs : rs.length ≤ 4611686018427387904) (hs : szS (fun (x : (List (Int × (List (Int)))) × (List (Int × (List (Int)))) × Bool × Int × Int) => (szS (fun (x : Int × (List (Int))) => (x.2).length) (x.1)) + (szS (fun (x : Int × (List (Int))) => (x.2).length) (x.2.1))) ds ≤ 1048600) (hod : ∀ d ∈ ds, (∀ z ∈ d.1, ∀ x ∈ z.2, okI x) ∧ (∀ z ∈ d.2.1, ∀ x ∈ z.2, okI x) ∧ okI d.2.2.2.1 ∧ okI d.2.2.2.2) : Pu Tryz.prog 56 [.c (.t none (.sl 3 (enS3 encS encI encB) (rs))), .c (.t none (.sl 5 (enS5 (enSl 2 (enS2 encI (enSl 1 encI))) (enSl 2 (enS2 encI (enSl 1 encI))) encB encI encI) (ds)))] [] 0 (.c (.t none (.v (.string (mkS (fmtDs rs ds)))))) := by
 refine pu_enter Tryz.func56 rfl (Nat.le_of_ble_eq_true rfl) fun w S => ?_
 have gl := sz_len (f := (fun (x : (List (Int × (List (Int)))) × (List (Int × (List (Int)))) × Bool × Int × Int) => (szS (fun (x : Int × (List (Int))) => (x.2).length) (x.1)) + (szS (fun (x : Int × (List (Int))) => (x.2).length) (x.2.1)))) (l := ds)
 refine tsr ?_
 refine r_op oA ?_
 refine etr ?_
 refine r_op oA ?_
 refine r_end ?_
 refine t_seq ?_
 refine tsr ?_
 refine r_op oA ?_
 refine r_end ?_
 refine t_block ?_
 refine t_loopL (fun m => ⟨[(0, some (.c (.t none (.sl 3 (enS3 encS encI encB) (rs))))), (1, some (.c (.t none (.sl 5 (enS5 (enSl 2 (enS2 encI (enSl 1 encI))) (enSl 2 (enS2 encI (enSl 1 encI))) encB encI encI) (ds))))), (4, some (.c (.t none (.v (.string (mkS (([] : List UInt8)))))))), (5, some (.c (.t none (.v (.string (mkS (Lib.join ((ds.take m).map (fmtD rs)) [59]))))))), (6, some (.c (.t none (.v (.int .i64 ((m : Int)))))))], [], 0⟩ : Nat → St) (fun m => m ≤ ds.length ∧ (m = 0 ∨ depsOk rs ds = true)) (fun m => ds.length - m) 0 ⟨⟨rfl, ⟨rfl, ⟨rfl, ⟨(eqS rfl), ⟨rfl, trivial⟩⟩⟩⟩⟩, trivial, rfl⟩ (by exact ⟨Nat.zero_le _, .inl rfl⟩) ?_
 rintro m hI ih0
 try dsimp only at hI ih0
 obtain ⟨i1, i2⟩ := hI; have ml := mapT_len (f := fmtD rs) (fun a => fmtD_len a) ds m [59]; (try simp only [List.length_cons, List.length_nil] at ml); have mm : ((ds.take m).map (fmtD rs)).length ≤ ds.length := (by rw [List.length_map, List.length_take]; omega)
 refine t_seq ?_
 refine tsr ?_
 refine r_op oM ?_
 refine r_op oM ?_
 refine r_op (o_len rfl rfl rfl) ?_
 refine r_op oB ?_
 refine r_op oM ?_
 refine r_guard rfl rfl rfl (fun g1 => ?_) (fun g1 => ?_)
 ·
  have g1' := of_decide_eq_true g1
  refine r_op oM ?_
  refine r_guard rfl rfl rfl (fun _ => ?_) (nc g1)
  refine r_op oM ?_
  refine r_guard rfl rfl rfl (fun _ => ?_) (nc g1)
  refine r_op (o_call 0 0 false (Go.Proofs.enters_of Tryz.func27 (by kernel_rfl) rfl) (c_spec_AreValidDependencies (rs) (ds) (by omega) (by omega)) rfl (.cons rfl (.c .t0) (.cons rfl (.c .t0) .nil)) rfl rfl rfl) ?_
  refine r_op (o_pickT rfl rfl g1 rfl) ?_
  refine r_end ?_
  refine t_cond rfl (fun h2 => ?_) (fun h2 => ?_)
  ·
   have h2' := h2
   refine t_skip ?_
   refine t_seq ?_
   refine t_block ?_
   refine t_seq ?_
   refine tsr ?_
   refine r_op oM ?_
   refine r_op oB ?_
   refine r_end ?_
   refine t_cond rfl (fun h3 => ?_) (fun h3 => ?_)
   ·
    have h3' := of_decide_eq_true h3
    refine t_region ?_
    refine r_op oM ?_
    refine r_op (o_cat rfl rfl rfl (by (simp only [List.length_append, List.length_cons, List.length_nil]; omega))) ?_
    refine r_op oA ?_
    refine rtr ?_
    refine r_op oM ?_
    refine r_op oM ?_
    refine r_op oM ?_
    refine r_op oM ?_
    obtain ⟨z4, hz5, b6⟩ := at_get (xs := ds) (n := (m : Int)) (by omega) (by omega)
    refine r_op (o_index rfl (by kernel_rfl) rfl rfl b6 hz5) ?_
    refine r_op (o_loadA rfl (n := 5) (by kernel_rfl) (by kernel_rfl) rfl rfl) ?_
    refine r_op (o_call 0 0 false (Go.Proofs.enters_of Tryz.func117 (by kernel_rfl) rfl) (c_spec_FormatDependency (rs) (z4.1) (z4.2.1) (z4.2.2.1) (z4.2.2.2.1) (z4.2.2.2.2) (by omega) (by (have e1 := sz_at (f := (fun (x : (List (Int × (List (Int)))) × (List (Int × (List (Int)))) × Bool × Int × Int) => (szS (fun (x : Int × (List (Int))) => (x.2).length) (x.1)) + (szS (fun (x : Int × (List (Int))) => (x.2).length) (x.2.1)))) (l := ds) (m := m) (by assumption); (try dsimp only at e1); omega)) (by exact (hod _ (List.mem_of_getElem? (by assumption))).1) (by exact (hod _ (List.mem_of_getElem? (by assumption))).2.1) (by exact (hod _ (List.mem_of_getElem? (by assumption))).2.2.1) (by exact (hod _ (List.mem_of_getElem? (by assumption))).2.2.2)) rfl (.cons rfl (.c .t0) (.cons rfl (.agg (.cons .t0 (.cons .t0 (.cons .t0 (.cons .t0 (.cons .t0 .nil)))))) .nil)) rfl rfl rfl) ?_
    refine r_op (o_cat rfl rfl rfl (by (refine Nat.le_trans (Nat.add_le_add (Nat.le_of_eq (List.length_append ..)) (fmtD_len _)) ?_; simp only [List.length_cons, List.length_nil]; omega))) ?_
    refine r_op oA ?_
    refine r_end ?_
    refine t_endblock ?_
    refine t_region ?_
    refine r_op oM ?_
    refine r_op oB ?_
    refine r_op oA ?_
    refine r_end ?_
    refine t_le ?_ (ih0 (m + 1) (by (try dsimp only); omega) (by (try dsimp only); exact ⟨by omega, .inr (by assumption)⟩))
    exact ⟨⟨rfl, ⟨rfl, ⟨rfl, ⟨(eqS (by exact joinT_step (m := m) hz5 (by omega))), ⟨(eqI (wr64 (by omega) (by omega))), trivial⟩⟩⟩⟩⟩, trivial, rfl⟩
   ·
    have h3' := of_decide_eq_false h3
    refine t_skip ?_
    refine t_region ?_
    refine r_op oM ?_
    refine r_op oM ?_
    refine r_op oM ?_
    refine r_op oM ?_
    obtain ⟨z7, hz8, b9⟩ := at_get (xs := ds) (n := (m : Int)) (by omega) (by omega)
    refine r_op (o_index rfl (by kernel_rfl) rfl rfl b9 hz8) ?_
    refine r_op (o_loadA rfl (n := 5) (by kernel_rfl) (by kernel_rfl) rfl rfl) ?_
    refine r_op (o_call 0 0 false (Go.Proofs.enters_of Tryz.func117 (by kernel_rfl) rfl) (c_spec_FormatDependency (rs) (z7.1) (z7.2.1) (z7.2.2.1) (z7.2.2.2.1) (z7.2.2.2.2) (by omega) (by (have e1 := sz_at (f := (fun (x : (List (Int × (List (Int)))) × (List (Int × (List (Int)))) × Bool × Int × Int) => (szS (fun (x : Int × (List (Int))) => (x.2).length) (x.1)) + (szS (fun (x : Int × (List (Int))) => (x.2).length) (x.2.1)))) (l := ds) (m := m) (by assumption); (try dsimp only at e1); omega)) (by exact (hod _ (List.mem_of_getElem? (by assumption))).1) (by exact (hod _ (List.mem_of_getElem? (by assumption))).2.1) (by exact (hod _ (List.mem_of_getElem? (by assumption))).2.2.1) (by exact (hod _ (List.mem_of_getElem? (by assumption))).2.2.2)) rfl (.cons rfl (.c .t0) (.cons rfl (.agg (.cons .t0 (.cons .t0 (.cons .t0 (.cons .t0 (.cons .t0 .nil)))))) .nil)) rfl rfl rfl) ?_
    refine r_op (o_cat rfl rfl rfl (by (refine Nat.le_trans (Nat.add_le_add ml (fmtD_len _)) ?_; omega))) ?_
    refine r_op oA ?_
    refine r_end ?_
    refine t_endblock ?_
    refine t_region ?_
    refine r_op oM ?_
    refine r_op oB ?_
    refine r_op oA ?_
    refine r_end ?_
    refine t_le ?_ (ih0 (m + 1) (by (try dsimp only); omega) (by (try dsimp only); exact ⟨by omega, .inr (by assumption)⟩))
    exact ⟨⟨rfl, ⟨rfl, ⟨rfl, ⟨(eqS (by exact joinT_step0 (m := m) hz8 (by omega))), ⟨(eqI (wr64 (by omega) (by omega))), trivial⟩⟩⟩⟩⟩, trivial, rfl⟩
  ·
   have h2' := h2
   refine t_exit rfl ?_
   refine tsr ?_
   refine r_op oM ?_
   refine r_op oA ?_
   refine r_end ?_
   refine t_ret Tryz.func56 (.tmp rfl .nil) rfl fun E S w u hI hd => ?_
   refine post_mk hI hd ?_ trivial rfl rfl rfl <;> clear hI hd <;> (try clear ih0)
   all_goals (refine scS ?_; rcases i2 with e | e <;> first | exact fmtDs_nil e (.inr (by assumption)) | (exfalso; simp_all; done))
 ·
  have g1' := of_decide_eq_false g1
  refine r_guard rfl rfl rfl (ncf g1) (fun _ => ?_)
  refine r_guard rfl rfl rfl (ncf g1) (fun _ => ?_)
  refine r_op (o_pickF rfl rfl g1 rfl) ?_
  refine r_end ?_
  refine t_cond rfl (ncf rfl) (fun _ => ?_)
  refine t_exit rfl ?_
  refine tsr ?_
  refine r_op oM ?_
  refine r_op oA ?_
  refine r_end ?_
  refine t_ret Tryz.func56 (.tmp rfl .nil) rfl fun E S w u hI hd => ?_
  refine post_mk hI hd ?_ trivial rfl rfl rfl <;> clear hI hd <;> (try clear ih0)
  all_goals (refine scS ?_; rcases i2 with e | e <;> first | exact fmtDs_yes e (by omega) | exact fmtDs_nil e (.inl (by omega)))
set_option maxHeartbeats 1000000 in
set_option maxRecDepth 10000 in
theorem c_spec_l1Text (code : List Int) (i h most : Int) (hc : code.length ≤ 1048576) (hi0 : 0 ≤ i) (hi1 : i ≤ code.length) (hm : 0 ≤ most ∧ most ≤ 8) : MuG Tryz.prog 118 [.c (.ptr 0 0), .c (.t none (.v (.int .i64 (most))))] [.t none (.sl 1 encU (code)), .t none (.v (.int .i64 (i))), .t none (.v (.int .i64 (h)))] (fun (⟨t, i2, h2⟩ : (List UInt8) × Int × Int) => t.length ≤ 8 ∧ 0 ≤ i2 ∧ i2 ≤ code.length) (fun (⟨t, i2, h2⟩ : (List UInt8) × Int × Int) => [.t none (.sl 1 encU (code)), .t none (.v (.int .i64 (i2))), .t none (.v (.int .i64 (h2)))]) (fun (⟨t, i2, h2⟩ : (List UInt8) × Int × Int) => []) 1 (fun (⟨t, i2, h2⟩ : (List UInt8) × Int × Int) => .c (.t none (.v (.string (mkS (t)))))) := by
 refine mu_enterG Tryz.func118 rfl (Nat.le_of_ble_eq_true rfl) fun v0 w S M hM => ?_
 refine tsr ?_
 refine r_op oA ?_
 refine etr ?_
 refine r_op (o_lit0 1 (e := 5) (sz := 1) (zs := [.int .u8 0]) encU rfl rfl (by kernel_rfl) rfl) ?_
 refine r_op oA ?_
 refine etr ?_
 refine r_op oM ?_
 refine r_opX (o_callGM 0 2 3 (pv := some (v0)) (Go.Proofs.enters_of Tryz.func41 (by kernel_rfl) rfl) (c_spec_l1Below (code) (i) (h) (4) (by omega) (by omega) (by omega) (by omega) (by omega)) rfl rfl (.cur rfl (.cons rfl .nil)) rfl (fun ⟨_, _, _⟩ => rfl) (fun _ => rfl) (fun ⟨_, _, _⟩ => rfl) rfl rfl) ?_
 rintro ⟨⟨x1, i22, h23⟩, hq4⟩
 try dsimp only at hq4
 try dsimp only
 obtain ⟨q5, q6⟩ := hq4
 refine r_op oA ?_
 refine r_end ?_
 refine t_seq ?_
 refine tsr ?_
 refine r_op oM ?_
 refine r_op oM ?_
 refine r_op oB ?_
 refine r_opX (o_callGM 0 3 4 (pv := some (v0)) (Go.Proofs.enters_of Tryz.func41 (by kernel_rfl) rfl) (c_spec_l1Below ((code)) ((i22)) ((h23)) (IntKind.i64.wrap (most + 1)) (by omega) (by omega) (by omega) (by (simp only [IntKind.wrap_i64] at *; omega)) (by (simp only [IntKind.wrap_i64] at *; omega))) rfl rfl (.cur rfl (.cons rfl .nil)) rfl (fun ⟨_, _, _⟩ => rfl) (fun _ => rfl) (fun ⟨_, _, _⟩ => rfl) rfl rfl) ?_
 rintro ⟨⟨x7, i28, h29⟩, hq10⟩
 try dsimp only at hq10
 try dsimp only
 obtain ⟨q11, q12⟩ := hq10
 refine r_op oA ?_
 refine r_end ?_
 refine t_block ?_
 refine t_loopL (fun (kk, bs, i3, h3) => ⟨[(0, some (.c (.ptr 0 0))), (4, some (.c (.t none (.v (.string (mkS (([] : List UInt8)))))))), (5, some (.c (.own 1))), (6, some (.c (.t none (.v (.int .i64 ((x1))))))), (7, some (.c (.t none (.v (.int .i64 (kk))))))], [(0, some (.pbox (v0) [.t none (.sl 1 encU (code)), .t none (.v (.int .i64 (i3))), .t none (.v (.int .i64 (h3)))])), (1, some (.row none 5 true 1 encU (bs)))], 4⟩ : Int × List Int × Int × Int → St) (fun (kk, bs, i3, h3) => (0 ≤ kk ∧ kk ≤ 8) ∧ ((bs.length : Int) + kk ≤ 8) ∧ (0 ≤ i3 ∧ i3 ≤ code.length)) (fun (kk, bs, i3, h3) => kk.toNat) ((x7), [], (i28), (h29)) ⟨⟨rfl, ⟨rfl, ⟨rfl, ⟨rfl, ⟨rfl, trivial⟩⟩⟩⟩⟩, ⟨rfl, ⟨rfl, trivial⟩⟩, rfl⟩ (by exact ⟨by (try dsimp only); simp only [IntKind.wrap_i64] at *; omega, by (try dsimp only); simp only [List.length_nil, IntKind.wrap_i64] at *; omega, by (try dsimp only); omega⟩) ?_
 rintro ⟨kk, bs, i3, h3⟩ hI ih0
 try dsimp only at hI ih0
 obtain ⟨j1, j2, j3⟩ := hI
 refine t_seq ?_
 refine tsr ?_
 refine r_op oM ?_
 refine r_op oB ?_
 refine r_end ?_
 refine t_cond rfl (fun h13 => ?_) (fun h13 => ?_)
 ·
  have h13' := of_decide_eq_true h13
  refine t_skip ?_
  refine t_seq ?_
  refine t_block ?_
  refine tsr ?_
  refine r_op oM ?_
  refine r_opX (o_callGM 0 4 5 (pv := some (v0)) (Go.Proofs.enters_of Tryz.func94 (by kernel_rfl) rfl) (c_spec_l1Byte (code) (i3) (h3) (by omega) (by omega) (by omega)) rfl rfl (.cur rfl .nil) rfl (fun ⟨_, _, _⟩ => rfl) (fun _ => rfl) (fun ⟨_, _, _⟩ => rfl) rfl rfl) ?_
  rintro ⟨⟨x14, i215, h216⟩, hq17⟩
  try dsimp only at hq17
  try dsimp only
  obtain ⟨q18, q19⟩ := hq17
  refine r_op oA ?_
  refine r_end ?_
  refine t_seq ?_
  refine tsr ?_
  refine r_op oM ?_
  refine r_op oB ?_
  refine r_end ?_
  refine t_cond rfl (fun h20 => ?_) (fun h20 => ?_)
  ·
   have h20' := of_decide_eq_true h20
   refine t_region ?_
   refine r_op oM ?_
   refine r_op (o_binD rfl rfl rfl (rem_d (by omega))) ?_
   refine r_op oA ?_
   refine r_end ?_
   refine t_seq ?_
   refine tsr ?_
   refine r_op oM ?_
   refine r_op oB ?_
   refine r_end ?_
   refine t_cond rfl (fun h21 => ?_) (fun h21 => ?_)
   ·
    have h21' := of_decide_eq_true h21
    refine t_region ?_
    refine r_op oM ?_
    refine r_op (o_binD rfl rfl rfl (rem_d (by omega))) ?_
    refine r_op oB ?_
    refine r_op oA ?_
    refine rtr ?_
    refine r_op oM ?_
    refine r_op oM ?_
    refine r_op (o_conv rfl Tryz.underlying3 Tryz.underlying5 rfl) ?_
    refine r_op (o_litS 5 (e := 5) (sz := 1) (zs := [.int .u8 0]) rfl rfl (by kernel_rfl) rfl rfl rfl rfl rfl) ?_
    refine r_op (o_append 1 (e := 5) (sz := 1) (by' := 1) (IntKind.u8.wrap (IntKind.i64.wrap (97 + (Int.tmod (Int.tmod (x14) 2) 4)))) rfl (by kernel_rfl) rfl rfl rfl rfl rfl rfl (.cons .sc .nil) rfl (by omega) (by omega)) ?_
    refine r_op oA ?_
    refine r_end ?_
    refine t_endblock ?_
    refine t_region ?_
    refine r_op oM ?_
    refine r_op oB ?_
    refine r_op oA ?_
    refine r_end ?_
    refine t_le ?_ (ih0 (IntKind.i64.wrap (kk - 1), bs ++ [IntKind.u8.wrap (IntKind.i64.wrap (97 + (Int.tmod (Int.tmod (x14) 2) 4)))], (i215), (h216)) (by (try dsimp only); (simp only [IntKind.wrap_i64] at *; omega)) (by (try dsimp only); exact ⟨by simp only [IntKind.wrap_i64]; omega, by simp only [List.length_append, List.length_singleton, IntKind.wrap_i64]; omega, by omega⟩))
    exact ⟨⟨rfl, ⟨rfl, ⟨rfl, ⟨rfl, ⟨rfl, trivial⟩⟩⟩⟩⟩, ⟨rfl, ⟨rfl, trivial⟩⟩, rfl⟩
   ·
    have h21' := of_decide_eq_false h21
    refine t_skip ?_
    refine t_region ?_
    refine r_op oM ?_
    refine r_op oM ?_
    refine r_op (o_conv rfl Tryz.underlying3 Tryz.underlying5 rfl) ?_
    refine r_op (o_litS 5 (e := 5) (sz := 1) (zs := [.int .u8 0]) rfl rfl (by kernel_rfl) rfl rfl rfl rfl rfl) ?_
    refine r_op (o_append 1 (e := 5) (sz := 1) (by' := 1) (IntKind.u8.wrap (Int.tmod (x14) 2)) rfl (by kernel_rfl) rfl rfl rfl rfl rfl rfl (.cons .sc .nil) rfl (by omega) (by omega)) ?_
    refine r_op oA ?_
    refine r_end ?_
    refine t_endblock ?_
    refine t_region ?_
    refine r_op oM ?_
    refine r_op oB ?_
    refine r_op oA ?_
    refine r_end ?_
    refine t_le ?_ (ih0 (IntKind.i64.wrap (kk - 1), bs ++ [IntKind.u8.wrap (Int.tmod (x14) 2)], (i215), (h216)) (by (try dsimp only); (simp only [IntKind.wrap_i64] at *; omega)) (by (try dsimp only); exact ⟨by simp only [IntKind.wrap_i64]; omega, by simp only [List.length_append, List.length_singleton, IntKind.wrap_i64]; omega, by omega⟩))
    exact ⟨⟨rfl, ⟨rfl, ⟨rfl, ⟨rfl, ⟨rfl, trivial⟩⟩⟩⟩⟩, ⟨rfl, ⟨rfl, trivial⟩⟩, rfl⟩
  ·
   have h20' := of_decide_eq_false h20
   refine t_skip ?_
   refine t_seq ?_
   refine tsr ?_
   refine r_op oM ?_
   refine r_op oB ?_
   refine r_end ?_
   refine t_cond rfl (fun h22 => ?_) (fun h22 => ?_)
   ·
    have h22' := of_decide_eq_true h22
    refine t_region ?_
    refine r_op oM ?_
    refine r_op (o_binD rfl rfl rfl (rem_d (by omega))) ?_
    refine r_op oB ?_
    refine r_op oA ?_
    refine rtr ?_
    refine r_op oM ?_
    refine r_op oM ?_
    refine r_op (o_conv rfl Tryz.underlying3 Tryz.underlying5 rfl) ?_
    refine r_op (o_litS 5 (e := 5) (sz := 1) (zs := [.int .u8 0]) rfl rfl (by kernel_rfl) rfl rfl rfl rfl rfl) ?_
    refine r_op (o_append 1 (e := 5) (sz := 1) (by' := 1) (IntKind.u8.wrap (IntKind.i64.wrap (97 + (Int.tmod (x14) 4)))) rfl (by kernel_rfl) rfl rfl rfl rfl rfl rfl (.cons .sc .nil) rfl (by omega) (by omega)) ?_
    refine r_op oA ?_
    refine r_end ?_
    refine t_endblock ?_
    refine t_region ?_
    refine r_op oM ?_
    refine r_op oB ?_
    refine r_op oA ?_
    refine r_end ?_
    refine t_le ?_ (ih0 (IntKind.i64.wrap (kk - 1), bs ++ [IntKind.u8.wrap (IntKind.i64.wrap (97 + (Int.tmod (x14) 4)))], (i215), (h216)) (by (try dsimp only); (simp only [IntKind.wrap_i64] at *; omega)) (by (try dsimp only); exact ⟨by simp only [IntKind.wrap_i64]; omega, by simp only [List.length_append, List.length_singleton, IntKind.wrap_i64]; omega, by omega⟩))
    exact ⟨⟨rfl, ⟨rfl, ⟨rfl, ⟨rfl, ⟨rfl, trivial⟩⟩⟩⟩⟩, ⟨rfl, ⟨rfl, trivial⟩⟩, rfl⟩
   ·
    have h22' := of_decide_eq_false h22
    refine t_skip ?_
    refine t_region ?_
    refine r_op oM ?_
    refine r_op oM ?_
    refine r_op (o_conv rfl Tryz.underlying3 Tryz.underlying5 rfl) ?_
    refine r_op (o_litS 5 (e := 5) (sz := 1) (zs := [.int .u8 0]) rfl rfl (by kernel_rfl) rfl rfl rfl rfl rfl) ?_
    refine r_op (o_append 1 (e := 5) (sz := 1) (by' := 1) (IntKind.u8.wrap (x14)) rfl (by kernel_rfl) rfl rfl rfl rfl rfl rfl (.cons .sc .nil) rfl (by omega) (by omega)) ?_
    refine r_op oA ?_
    refine r_end ?_
    refine t_endblock ?_
    refine t_region ?_
    refine r_op oM ?_
    refine r_op oB ?_
    refine r_op oA ?_
    refine r_end ?_
    refine t_le ?_ (ih0 (IntKind.i64.wrap (kk - 1), bs ++ [IntKind.u8.wrap (x14)], (i215), (h216)) (by (try dsimp only); (simp only [IntKind.wrap_i64] at *; omega)) (by (try dsimp only); exact ⟨by simp only [IntKind.wrap_i64]; omega, by simp only [List.length_append, List.length_singleton, IntKind.wrap_i64]; omega, by omega⟩))
    exact ⟨⟨rfl, ⟨rfl, ⟨rfl, ⟨rfl, ⟨rfl, trivial⟩⟩⟩⟩⟩, ⟨rfl, ⟨rfl, trivial⟩⟩, rfl⟩
 ·
  have h13' := of_decide_eq_false h13
  refine t_exit rfl ?_
  refine tsr ?_
  refine r_op oM ?_
  refine r_op (o_convBSo rfl Tryz.underlying22 Tryz.underlying5 Tryz.underlying9 rfl rfl) ?_
  refine r_op oA ?_
  refine r_end ?_
  refine t_ret Tryz.func118 (.tmp rfl .nil) rfl fun E S w u hI hd => ?_
  refine post_mkG (⟨bytesOf bs, i3, h3⟩) ?_ hI hd ?_ ⟨rfl, trivial⟩ rfl rfl <;> clear hI hd <;> (try clear ih0)
  · (try dsimp only) <;> (exact ⟨by (try dsimp only); (try simp [bytesOf]); omega, by omega⟩)
  · rfl
set_option maxHeartbeats 1000000 in
set_option maxRecDepth 10000 in
theorem c_spec_l1Spoil (code : List Int) (i h : Int) (s : List UInt8) (hc : code.length ≤ 1048576) (hi0 : 0 ≤ i) (hi1 : i ≤ code.length) (hs : s.length ≤ 256) : MuG Tryz.prog 59 [.c (.ptr 0 0), .c (.t none (.v (.string (mkS (s)))))] [.t none (.sl 1 encU (code)), .t none (.v (.int .i64 (i))), .t none (.v (.int .i64 (h)))] (fun (⟨t, i2, h2⟩ : (List UInt8) × Int × Int) => t.length ≤ 1000 ∧ 0 ≤ i2 ∧ i2 ≤ code.length) (fun (⟨t, i2, h2⟩ : (List UInt8) × Int × Int) => [.t none (.sl 1 encU (code)), .t none (.v (.int .i64 (i2))), .t none (.v (.int .i64 (h2)))]) (fun (⟨t, i2, h2⟩ : (List UInt8) × Int × Int) => []) 1 (fun (⟨t, i2, h2⟩ : (List UInt8) × Int × Int) => .c (.t none (.v (.string (mkS (t)))))) := by
 refine mu_enterG Tryz.func59 rfl (Nat.le_of_ble_eq_true rfl) fun v0 w S M hM => ?_
 refine tsr ?_
 refine r_op oA ?_
 refine r_end ?_
 refine t_seq ?_
 refine tsr ?_
 refine r_op oM ?_
 refine r_op (o_lenS rfl Tryz.underlying9 rfl) ?_
 refine r_op oB ?_
 refine r_end ?_
 refine t_cond rfl (fun h1 => ?_) (fun h1 => ?_)
 ·
  have h1' := of_decide_eq_true h1
  refine tsr ?_
  refine r_op oM ?_
  refine r_opX (o_callGM 0 1 2 (pv := some (v0)) (Go.Proofs.enters_of Tryz.func118 (by kernel_rfl) rfl) (c_spec_l1Text (code) (i) (h) (3) (by omega) (by omega) (by omega) (by omega)) rfl rfl (.cur rfl (.cons rfl .nil)) rfl (fun ⟨_, _, _⟩ => rfl) (fun _ => rfl) (fun ⟨_, _, _⟩ => rfl) rfl rfl) ?_
  rintro ⟨⟨t2, i23, h24⟩, hq5⟩
  try dsimp only at hq5
  try dsimp only
  obtain ⟨q6, q7⟩ := hq5
  refine r_op oA ?_
  refine r_end ?_
  refine t_ret Tryz.func59 (.tmp rfl .nil) rfl fun E S w u hI hd => ?_
  refine post_mkG (⟨(t2), (i23), (h24)⟩) ?_ hI hd ?_ ⟨rfl, trivial⟩ rfl rfl <;> clear hI hd
  · (try dsimp only) <;> (refine ⟨?_, by omega⟩; (try dsimp only); (try simp only [List.length_append, List.length_take, List.length_drop, bytesOf, List.length_map, List.length_cons, List.length_nil]); omega)
  · rfl
 ·
  have h1' := of_decide_eq_false h1
  refine t_skip ?_
  refine tsr ?_
  refine r_op oM ?_
  refine r_op oM ?_
  refine r_op (o_lenS rfl Tryz.underlying9 rfl) ?_
  refine r_opX (o_callGM 0 1 2 (pv := some (v0)) (Go.Proofs.enters_of Tryz.func41 (by kernel_rfl) rfl) (c_spec_l1Below (code) (i) (h) (((s).length : Int)) (by omega) (by omega) (by omega) (by omega) (by omega)) rfl rfl (.cur rfl (.cons rfl .nil)) rfl (fun ⟨_, _, _⟩ => rfl) (fun _ => rfl) (fun ⟨_, _, _⟩ => rfl) rfl rfl) ?_
  rintro ⟨⟨x8, i29, h210⟩, hq11⟩
  try dsimp only at hq11
  try dsimp only
  obtain ⟨q12, q13⟩ := hq11
  refine r_op oA ?_
  refine r_end ?_
  refine t_seq ?_
  refine tsr ?_
  refine r_op oM ?_
  refine r_opX (o_callGM 0 2 3 (pv := some (v0)) (Go.Proofs.enters_of Tryz.func41 (by kernel_rfl) rfl) (c_spec_l1Below ((code)) ((i29)) ((h210)) (4) (by omega) (by omega) (by omega) (by omega) (by omega)) rfl rfl (.cur rfl (.cons rfl .nil)) rfl (fun ⟨_, _, _⟩ => rfl) (fun _ => rfl) (fun ⟨_, _, _⟩ => rfl) rfl rfl) ?_
  rintro ⟨⟨x14, i215, h216⟩, hq17⟩
  try dsimp only at hq17
  try dsimp only
  obtain ⟨q18, q19⟩ := hq17
  refine r_end ?_
  refine t_block ?_
  refine tsr ?_
  refine r_op oB ?_
  refine r_op oA ?_
  refine r_end ?_
  refine t_cond rfl (fun h20 => ?_) (fun h20 => ?_)
  ·
   have h20' := of_decide_eq_true h20
   refine t_seq ?_
   refine t_draw (fun _ => true) (by kernel_rfl) ?_
   refine dT 0 rfl pM ?_
   refine dT 1 rfl pM ?_
   refine dT 2 rfl (p_subSh Tryz.underlying9 rfl rfl (by omega) (by omega)) ?_
   refine dT 3 rfl pM ?_
   refine dT 4 rfl pM ?_
   refine dT 5 rfl pB ?_
   refine dT 6 rfl (p_subSl Tryz.underlying9 rfl rfl (by (simp only [IntKind.wrap_i64] at *; omega)) (by (simp only [IntKind.wrap_i64] at *; omega))) ?_
   refine dT 7 rfl (p_cat rfl rfl (by (simp only [List.length_append, List.length_take, List.length_drop, bytesOf, List.length_map, List.length_cons, List.length_nil]; omega))) ?_
   refine dT 8 rfl pA ?_
   refine d_end (by kernel_rfl) ?_
   refine t_ret Tryz.func59 (.tmp rfl .nil) rfl fun E S w u hI hd => ?_
   refine post_mkG (⟨((s).take ((x8)).toNat) ++ ((s).drop (IntKind.i64.wrap ((x8) + 1)).toNat), (i215), (h216)⟩) ?_ hI hd ?_ ⟨rfl, trivial⟩ rfl rfl <;> clear hI hd
   · (try dsimp only) <;> (refine ⟨?_, by omega⟩; (try dsimp only); (try simp only [List.length_append, List.length_take, List.length_drop, bytesOf, List.length_map, List.length_cons, List.length_nil]); omega)
   · rfl
  ·
   have h20' := of_decide_eq_false h20
   refine tsr ?_
   refine r_op oB ?_
   refine r_op oA ?_
   refine r_end ?_
   refine t_cond rfl (fun h21 => ?_) (fun h21 => ?_)
   ·
    have h21' := of_decide_eq_true h21
    refine t_seq ?_
    refine t_draw (fun i => !(Nat.beq i 4)) (by kernel_rfl) ?_
    refine d_takeP 0 rfl rfl (by kernel_rfl) (by kernel_rfl) (by kernel_rfl) (pw_move rfl) ?_
    refine d_takeP 1 rfl rfl (by kernel_rfl) (by kernel_rfl) (by kernel_rfl) (pw_move rfl) ?_
    refine d_takeP 2 rfl rfl (by kernel_rfl) (by kernel_rfl) (by kernel_rfl) (pw_subSh Tryz.underlying9 rfl rfl (by omega) (by omega)) ?_
    refine dT 3 rfl pM ?_
    refine d_takeP 9 rfl rfl (by kernel_rfl) (by kernel_rfl) (by kernel_rfl) (pw_move rfl) ?_
    refine d_takeP 10 rfl rfl (by kernel_rfl) (by kernel_rfl) (by kernel_rfl) (pw_move rfl) ?_
    refine d_takeP 11 rfl rfl (by kernel_rfl) (by kernel_rfl) (by kernel_rfl) (pw_subSl Tryz.underlying9 rfl rfl (by omega) (by omega)) ?_
    refine dOX 4 rfl (o_callGM 0 3 4 (pv := some (v0)) (Go.Proofs.enters_of Tryz.func94 (by kernel_rfl) rfl) (c_spec_l1Byte (((code))) ((i215)) ((h216)) (by omega) (by omega) (by omega)) rfl rfl (.cur rfl .nil) rfl (fun ⟨_, _, _⟩ => rfl) (fun _ => rfl) (fun ⟨_, _, _⟩ => rfl) rfl rfl) ?_
    rintro ⟨⟨x22, i223, h224⟩, hq25⟩
    try dsimp only at hq25
    try dsimp only
    obtain ⟨q26, q27⟩ := hq25
    refine dT 5 rfl (p_conv Tryz.underlying3 Tryz.underlying5 rfl) ?_
    refine dO 6 rfl (o_lit1 4 (e := 5) (sz := 1) (zs := [.int .u8 0]) (enc := encU) (IntKind.u8.wrap (x22)) rfl rfl (by kernel_rfl) rfl rfl rfl rfl rfl rfl (.cons .sc .nil)) ?_
    refine dT 7 rfl (p_convBSo Tryz.underlying22 Tryz.underlying5 Tryz.underlying9 rfl rfl) ?_
    refine dT 8 rfl (p_cat rfl rfl (by (simp only [List.length_append, List.length_take, List.length_drop, bytesOf, List.length_map, List.length_cons, List.length_nil]; omega))) ?_
    refine dT 12 rfl (p_cat rfl rfl (by (simp only [List.length_append, List.length_take, List.length_drop, bytesOf, List.length_map, List.length_cons, List.length_nil]; omega))) ?_
    refine dT 13 rfl pA ?_
    refine d_end (by kernel_rfl) ?_
    refine t_ret Tryz.func59 (.tmp rfl .nil) rfl fun E S w u hI hd => ?_
    refine post_mkG (⟨((s).take ((x8)).toNat) ++ (bytesOf ([IntKind.u8.wrap (x22)])) ++ ((s).drop ((x8)).toNat), (i223), (h224)⟩) ?_ hI hd ?_ ⟨rfl, trivial⟩ rfl rfl <;> clear hI hd
    · (try dsimp only) <;> (refine ⟨?_, by omega⟩; (try dsimp only); (try simp only [List.length_append, List.length_take, List.length_drop, bytesOf, List.length_map, List.length_cons, List.length_nil]); omega)
    · rfl
   ·
    have h21' := of_decide_eq_false h21
    refine tsr ?_
    refine r_op oB ?_
    refine r_op oA ?_
    refine r_end ?_
    refine t_cond rfl (fun h28 => ?_) (fun h28 => ?_)
    ·
     have h28' := of_decide_eq_true h28
     refine tsr ?_
     refine r_op oM ?_
     refine r_op oM ?_
     refine r_op (o_subSh rfl Tryz.underlying9 rfl rfl (by omega) (by omega)) ?_
     refine r_op oA ?_
     refine r_end ?_
     refine t_ret Tryz.func59 (.tmp rfl .nil) rfl fun E S w u hI hd => ?_
     refine post_mkG (⟨(s).take ((x8)).toNat, (i215), (h216)⟩) ?_ hI hd ?_ ⟨rfl, trivial⟩ rfl rfl <;> clear hI hd
     · (try dsimp only) <;> (refine ⟨?_, by omega⟩; (try dsimp only); (try simp only [List.length_append, List.length_take, List.length_drop, bytesOf, List.length_map, List.length_cons, List.length_nil]); omega)
     · rfl
    ·
     have h28' := of_decide_eq_false h28
     refine t_skip ?_
     refine t_endblock ?_
     refine t_seq ?_
     refine t_draw (fun i => !(Nat.beq i 8)) (by kernel_rfl) ?_
     refine d_takeP 0 rfl rfl (by kernel_rfl) (by kernel_rfl) (by kernel_rfl) (pw_move rfl) ?_
     refine d_takeP 1 rfl rfl (by kernel_rfl) (by kernel_rfl) (by kernel_rfl) (pw_move rfl) ?_
     refine d_takeP 2 rfl rfl (by kernel_rfl) (by kernel_rfl) (by kernel_rfl) (pw_subSh Tryz.underlying9 rfl rfl (by omega) (by omega)) ?_
     refine d_takeP 3 rfl rfl (by kernel_rfl) (by kernel_rfl) (by kernel_rfl) (pw_move rfl) ?_
     refine d_takeP 4 rfl rfl (by kernel_rfl) (by kernel_rfl) (by kernel_rfl) (pw_move rfl) ?_
     refine dT 7 rfl pM ?_
     refine d_takeP 15 rfl rfl (by kernel_rfl) (by kernel_rfl) (by kernel_rfl) (pw_move rfl) ?_
     refine d_takeP 16 rfl rfl (by kernel_rfl) (by kernel_rfl) (by kernel_rfl) (pw_move rfl) ?_
     obtain ⟨z29, hz30, b31⟩ := at_get (xs := s) (n := (x8)) (by omega) (by omega)
     refine d_threeX 5 8 17 rfl rfl rfl (by kernel_rfl) rfl rfl rfl (osX (o_indexS rfl Tryz.underlying9 rfl rfl b31 hz30)) (o_callGM 0 3 4 (pv := some (v0)) (Go.Proofs.enters_of Tryz.func41 (by kernel_rfl) rfl) (c_spec_l1Below (((code))) ((i215)) ((h216)) (255) (by omega) (by omega) (by omega) (by omega) (by omega)) rfl rfl (.cur rfl (.cons rfl .nil)) rfl (fun ⟨_, _, _⟩ => rfl) (fun _ => rfl) (fun ⟨_, _, _⟩ => rfl) rfl rfl) (osX oB) ?_ ?_ ?_
     ·
      rintro ⟨⟩
      refine d_threeX 6 8 17 rfl rfl rfl (by kernel_rfl) rfl rfl rfl (osX (o_conv rfl Tryz.underlying5 Tryz.underlying3 rfl)) (o_callGM 0 3 4 (pv := some (v0)) (Go.Proofs.enters_of Tryz.func41 (by kernel_rfl) rfl) (c_spec_l1Below (((code))) ((i215)) ((h216)) (255) (by omega) (by omega) (by omega) (by omega) (by omega)) rfl rfl (.cur rfl (.cons rfl .nil)) rfl (fun ⟨_, _, _⟩ => rfl) (fun _ => rfl) (fun ⟨_, _, _⟩ => rfl) rfl rfl) (osX oB) ?_ ?_ ?_
      ·
       rintro ⟨⟩
       refine d_twoX 8 17 rfl rfl (by kernel_rfl) rfl rfl (o_callGM 0 3 4 (pv := some (v0)) (Go.Proofs.enters_of Tryz.func41 (by kernel_rfl) rfl) (c_spec_l1Below (((code))) ((i215)) ((h216)) (255) (by omega) (by omega) (by omega) (by omega) (by omega)) rfl rfl (.cur rfl (.cons rfl .nil)) rfl (fun ⟨_, _, _⟩ => rfl) (fun _ => rfl) (fun ⟨_, _, _⟩ => rfl) rfl rfl) (osX oB) ?_ ?_
       ·
        rintro ⟨⟨x44, i245, h246⟩, hq47⟩
        try dsimp only at hq47
        try dsimp only
        obtain ⟨q48, q49⟩ := hq47
        refine dT 9 rfl pB ?_
        refine dT 10 rfl (p_binD rfl rfl (xor_d)) ?_
        refine dT 11 rfl (p_conv Tryz.underlying3 Tryz.underlying5 rfl) ?_
        refine dT 17 rfl pB ?_
        refine dT 18 rfl (p_subSl Tryz.underlying9 rfl rfl (by (simp only [IntKind.wrap_i64] at *; omega)) (by (simp only [IntKind.wrap_i64] at *; omega))) ?_
        refine dO 12 rfl (o_lit1 4 (e := 5) (sz := 1) (zs := [.int .u8 0]) (enc := encU) (IntKind.u8.wrap (xorI (IntKind.i64.wrap (z29.toNat : Int)) (IntKind.i64.wrap (1 + (x44))))) rfl rfl (by kernel_rfl) rfl rfl rfl rfl rfl rfl (.cons .sc .nil)) ?_
        refine dT 13 rfl (p_convBSo Tryz.underlying22 Tryz.underlying5 Tryz.underlying9 rfl rfl) ?_
        refine dT 14 rfl (p_cat rfl rfl (by (simp only [List.length_append, List.length_take, List.length_drop, bytesOf, List.length_map, List.length_cons, List.length_nil]; omega))) ?_
        refine dT 19 rfl (p_cat rfl rfl (by (simp only [List.length_append, List.length_take, List.length_drop, bytesOf, List.length_map, List.length_cons, List.length_nil]; omega))) ?_
        refine dT 20 rfl pA ?_
        refine d_end (by kernel_rfl) ?_
        refine t_ret Tryz.func59 (.tmp rfl .nil) rfl fun E S w u hI hd => ?_
        refine post_mkG (⟨((s).take ((x8)).toNat) ++ (bytesOf ([IntKind.u8.wrap (xorI (IntKind.i64.wrap (z29.toNat : Int)) (IntKind.i64.wrap (1 + (x44))))])) ++ ((s).drop (IntKind.i64.wrap ((x8) + 1)).toNat), (i245), (h246)⟩) ?_ hI hd ?_ ⟨rfl, trivial⟩ rfl rfl <;> clear hI hd
        · (try dsimp only) <;> (refine ⟨?_, by omega⟩; (try dsimp only); (try simp only [List.length_append, List.length_take, List.length_drop, bytesOf, List.length_map, List.length_cons, List.length_nil]); omega)
        · rfl
       ·
        rintro ⟨⟩
        refine d_takeP 18 rfl rfl (by kernel_rfl) (by kernel_rfl) (by kernel_rfl) (pw_subSl Tryz.underlying9 rfl rfl (by (simp only [IntKind.wrap_i64] at *; omega)) (by (simp only [IntKind.wrap_i64] at *; omega))) ?_
        refine dOX 8 rfl (o_callGM 0 3 4 (pv := some (v0)) (Go.Proofs.enters_of Tryz.func41 (by kernel_rfl) rfl) (c_spec_l1Below (((code))) ((i215)) ((h216)) (255) (by omega) (by omega) (by omega) (by omega) (by omega)) rfl rfl (.cur rfl (.cons rfl .nil)) rfl (fun ⟨_, _, _⟩ => rfl) (fun _ => rfl) (fun ⟨_, _, _⟩ => rfl) rfl rfl) ?_
        rintro ⟨⟨x50, i251, h252⟩, hq53⟩
        try dsimp only at hq53
        try dsimp only
        obtain ⟨q54, q55⟩ := hq53
        refine dT 9 rfl pB ?_
        refine dT 10 rfl (p_binD rfl rfl (xor_d)) ?_
        refine dT 11 rfl (p_conv Tryz.underlying3 Tryz.underlying5 rfl) ?_
        refine dO 12 rfl (o_lit1 4 (e := 5) (sz := 1) (zs := [.int .u8 0]) (enc := encU) (IntKind.u8.wrap (xorI (IntKind.i64.wrap (z29.toNat : Int)) (IntKind.i64.wrap (1 + (x50))))) rfl rfl (by kernel_rfl) rfl rfl rfl rfl rfl rfl (.cons .sc .nil)) ?_
        refine dT 13 rfl (p_convBSo Tryz.underlying22 Tryz.underlying5 Tryz.underlying9 rfl rfl) ?_
        refine dT 14 rfl (p_cat rfl rfl (by (simp only [List.length_append, List.length_take, List.length_drop, bytesOf, List.length_map, List.length_cons, List.length_nil]; omega))) ?_
        refine dT 19 rfl (p_cat rfl rfl (by (simp only [List.length_append, List.length_take, List.length_drop, bytesOf, List.length_map, List.length_cons, List.length_nil]; omega))) ?_
        refine dT 20 rfl pA ?_
        refine d_end (by kernel_rfl) ?_
        refine t_ret Tryz.func59 (.tmp rfl .nil) rfl fun E S w u hI hd => ?_
        refine post_mkG (⟨((s).take ((x8)).toNat) ++ (bytesOf ([IntKind.u8.wrap (xorI (IntKind.i64.wrap (z29.toNat : Int)) (IntKind.i64.wrap (1 + (x50))))])) ++ ((s).drop (IntKind.i64.wrap ((x8) + 1)).toNat), (i251), (h252)⟩) ?_ hI hd ?_ ⟨rfl, trivial⟩ rfl rfl <;> clear hI hd
        · (try dsimp only) <;> (refine ⟨?_, by omega⟩; (try dsimp only); (try simp only [List.length_append, List.length_take, List.length_drop, bytesOf, List.length_map, List.length_cons, List.length_nil]); omega)
        · rfl
      ·
       rintro ⟨⟨x38, i239, h240⟩, hq41⟩
       try dsimp only at hq41
       try dsimp only
       obtain ⟨q42, q43⟩ := hq41
       refine dT 6 rfl (p_conv Tryz.underlying5 Tryz.underlying3 rfl) ?_
       refine dT 9 rfl pB ?_
       refine dT 10 rfl (p_binD rfl rfl (xor_d)) ?_
       refine dT 11 rfl (p_conv Tryz.underlying3 Tryz.underlying5 rfl) ?_
       refine dT 17 rfl pB ?_
       refine dT 18 rfl (p_subSl Tryz.underlying9 rfl rfl (by (simp only [IntKind.wrap_i64] at *; omega)) (by (simp only [IntKind.wrap_i64] at *; omega))) ?_
       refine dO 12 rfl (o_lit1 4 (e := 5) (sz := 1) (zs := [.int .u8 0]) (enc := encU) (IntKind.u8.wrap (xorI (IntKind.i64.wrap (z29.toNat : Int)) (IntKind.i64.wrap (1 + (x38))))) rfl rfl (by kernel_rfl) rfl rfl rfl rfl rfl rfl (.cons .sc .nil)) ?_
       refine dT 13 rfl (p_convBSo Tryz.underlying22 Tryz.underlying5 Tryz.underlying9 rfl rfl) ?_
       refine dT 14 rfl (p_cat rfl rfl (by (simp only [List.length_append, List.length_take, List.length_drop, bytesOf, List.length_map, List.length_cons, List.length_nil]; omega))) ?_
       refine dT 19 rfl (p_cat rfl rfl (by (simp only [List.length_append, List.length_take, List.length_drop, bytesOf, List.length_map, List.length_cons, List.length_nil]; omega))) ?_
       refine dT 20 rfl pA ?_
       refine d_end (by kernel_rfl) ?_
       refine t_ret Tryz.func59 (.tmp rfl .nil) rfl fun E S w u hI hd => ?_
       refine post_mkG (⟨((s).take ((x8)).toNat) ++ (bytesOf ([IntKind.u8.wrap (xorI (IntKind.i64.wrap (z29.toNat : Int)) (IntKind.i64.wrap (1 + (x38))))])) ++ ((s).drop (IntKind.i64.wrap ((x8) + 1)).toNat), (i239), (h240)⟩) ?_ hI hd ?_ ⟨rfl, trivial⟩ rfl rfl <;> clear hI hd
       · (try dsimp only) <;> (refine ⟨?_, by omega⟩; (try dsimp only); (try simp only [List.length_append, List.length_take, List.length_drop, bytesOf, List.length_map, List.length_cons, List.length_nil]); omega)
       · rfl
      ·
       rintro ⟨⟩
       refine d_takeP 18 rfl rfl (by kernel_rfl) (by kernel_rfl) (by kernel_rfl) (pw_subSl Tryz.underlying9 rfl rfl (by (simp only [IntKind.wrap_i64] at *; omega)) (by (simp only [IntKind.wrap_i64] at *; omega))) ?_
       refine d_twoX 6 8 rfl rfl (by kernel_rfl) rfl rfl (osX (o_conv rfl Tryz.underlying5 Tryz.underlying3 rfl)) (o_callGM 0 3 4 (pv := some (v0)) (Go.Proofs.enters_of Tryz.func41 (by kernel_rfl) rfl) (c_spec_l1Below (((code))) ((i215)) ((h216)) (255) (by omega) (by omega) (by omega) (by omega) (by omega)) rfl rfl (.cur rfl (.cons rfl .nil)) rfl (fun ⟨_, _, _⟩ => rfl) (fun _ => rfl) (fun ⟨_, _, _⟩ => rfl) rfl rfl) ?_ ?_
       ·
        rintro ⟨⟩
        refine dOX 8 rfl (o_callGM 0 3 4 (pv := some (v0)) (Go.Proofs.enters_of Tryz.func41 (by kernel_rfl) rfl) (c_spec_l1Below (((code))) ((i215)) ((h216)) (255) (by omega) (by omega) (by omega) (by omega) (by omega)) rfl rfl (.cur rfl (.cons rfl .nil)) rfl (fun ⟨_, _, _⟩ => rfl) (fun _ => rfl) (fun ⟨_, _, _⟩ => rfl) rfl rfl) ?_
        rintro ⟨⟨x62, i263, h264⟩, hq65⟩
        try dsimp only at hq65
        try dsimp only
        obtain ⟨q66, q67⟩ := hq65
        refine dT 9 rfl pB ?_
        refine dT 10 rfl (p_binD rfl rfl (xor_d)) ?_
        refine dT 11 rfl (p_conv Tryz.underlying3 Tryz.underlying5 rfl) ?_
        refine dO 12 rfl (o_lit1 4 (e := 5) (sz := 1) (zs := [.int .u8 0]) (enc := encU) (IntKind.u8.wrap (xorI (IntKind.i64.wrap (z29.toNat : Int)) (IntKind.i64.wrap (1 + (x62))))) rfl rfl (by kernel_rfl) rfl rfl rfl rfl rfl rfl (.cons .sc .nil)) ?_
        refine dT 13 rfl (p_convBSo Tryz.underlying22 Tryz.underlying5 Tryz.underlying9 rfl rfl) ?_
        refine dT 14 rfl (p_cat rfl rfl (by (simp only [List.length_append, List.length_take, List.length_drop, bytesOf, List.length_map, List.length_cons, List.length_nil]; omega))) ?_
        refine dT 19 rfl (p_cat rfl rfl (by (simp only [List.length_append, List.length_take, List.length_drop, bytesOf, List.length_map, List.length_cons, List.length_nil]; omega))) ?_
        refine dT 20 rfl pA ?_
        refine d_end (by kernel_rfl) ?_
        refine t_ret Tryz.func59 (.tmp rfl .nil) rfl fun E S w u hI hd => ?_
        refine post_mkG (⟨((s).take ((x8)).toNat) ++ (bytesOf ([IntKind.u8.wrap (xorI (IntKind.i64.wrap (z29.toNat : Int)) (IntKind.i64.wrap (1 + (x62))))])) ++ ((s).drop (IntKind.i64.wrap ((x8) + 1)).toNat), (i263), (h264)⟩) ?_ hI hd ?_ ⟨rfl, trivial⟩ rfl rfl <;> clear hI hd
        · (try dsimp only) <;> (refine ⟨?_, by omega⟩; (try dsimp only); (try simp only [List.length_append, List.length_take, List.length_drop, bytesOf, List.length_map, List.length_cons, List.length_nil]); omega)
        · rfl
       ·
        rintro ⟨⟨x56, i257, h258⟩, hq59⟩
        try dsimp only at hq59
        try dsimp only
        obtain ⟨q60, q61⟩ := hq59
        refine dT 6 rfl (p_conv Tryz.underlying5 Tryz.underlying3 rfl) ?_
        refine dT 9 rfl pB ?_
        refine dT 10 rfl (p_binD rfl rfl (xor_d)) ?_
        refine dT 11 rfl (p_conv Tryz.underlying3 Tryz.underlying5 rfl) ?_
        refine dO 12 rfl (o_lit1 4 (e := 5) (sz := 1) (zs := [.int .u8 0]) (enc := encU) (IntKind.u8.wrap (xorI (IntKind.i64.wrap (z29.toNat : Int)) (IntKind.i64.wrap (1 + (x56))))) rfl rfl (by kernel_rfl) rfl rfl rfl rfl rfl rfl (.cons .sc .nil)) ?_
        refine dT 13 rfl (p_convBSo Tryz.underlying22 Tryz.underlying5 Tryz.underlying9 rfl rfl) ?_
        refine dT 14 rfl (p_cat rfl rfl (by (simp only [List.length_append, List.length_take, List.length_drop, bytesOf, List.length_map, List.length_cons, List.length_nil]; omega))) ?_
        refine dT 19 rfl (p_cat rfl rfl (by (simp only [List.length_append, List.length_take, List.length_drop, bytesOf, List.length_map, List.length_cons, List.length_nil]; omega))) ?_
        refine dT 20 rfl pA ?_
        refine d_end (by kernel_rfl) ?_
        refine t_ret Tryz.func59 (.tmp rfl .nil) rfl fun E S w u hI hd => ?_
        refine post_mkG (⟨((s).take ((x8)).toNat) ++ (bytesOf ([IntKind.u8.wrap (xorI (IntKind.i64.wrap (z29.toNat : Int)) (IntKind.i64.wrap (1 + (x56))))])) ++ ((s).drop (IntKind.i64.wrap ((x8) + 1)).toNat), (i257), (h258)⟩) ?_ hI hd ?_ ⟨rfl, trivial⟩ rfl rfl <;> clear hI hd
        · (try dsimp only) <;> (refine ⟨?_, by omega⟩; (try dsimp only); (try simp only [List.length_append, List.length_take, List.length_drop, bytesOf, List.length_map, List.length_cons, List.length_nil]); omega)
        · rfl
     ·
      rintro ⟨⟨x32, i233, h234⟩, hq35⟩
      try dsimp only at hq35
      try dsimp only
      obtain ⟨q36, q37⟩ := hq35
      obtain ⟨z68, hz69, b70⟩ := at_get (xs := s) (n := (x8)) (by omega) (by omega)
      refine dT 5 rfl (p_indexS Tryz.underlying9 rfl rfl b70 hz69) ?_
      refine dT 6 rfl (p_conv Tryz.underlying5 Tryz.underlying3 rfl) ?_
      refine dT 9 rfl pB ?_
      refine dT 10 rfl (p_binD rfl rfl (xor_d)) ?_
      refine dT 11 rfl (p_conv Tryz.underlying3 Tryz.underlying5 rfl) ?_
      refine dT 17 rfl pB ?_
      refine dT 18 rfl (p_subSl Tryz.underlying9 rfl rfl (by (simp only [IntKind.wrap_i64] at *; omega)) (by (simp only [IntKind.wrap_i64] at *; omega))) ?_
      refine dO 12 rfl (o_lit1 4 (e := 5) (sz := 1) (zs := [.int .u8 0]) (enc := encU) (IntKind.u8.wrap (xorI (IntKind.i64.wrap (z68.toNat : Int)) (IntKind.i64.wrap (1 + (x32))))) rfl rfl (by kernel_rfl) rfl rfl rfl rfl rfl rfl (.cons .sc .nil)) ?_
      refine dT 13 rfl (p_convBSo Tryz.underlying22 Tryz.underlying5 Tryz.underlying9 rfl rfl) ?_
      refine dT 14 rfl (p_cat rfl rfl (by (simp only [List.length_append, List.length_take, List.length_drop, bytesOf, List.length_map, List.length_cons, List.length_nil]; omega))) ?_
      refine dT 19 rfl (p_cat rfl rfl (by (simp only [List.length_append, List.length_take, List.length_drop, bytesOf, List.length_map, List.length_cons, List.length_nil]; omega))) ?_
      refine dT 20 rfl pA ?_
      refine d_end (by kernel_rfl) ?_
      refine t_ret Tryz.func59 (.tmp rfl .nil) rfl fun E S w u hI hd => ?_
      refine post_mkG (⟨((s).take ((x8)).toNat) ++ (bytesOf ([IntKind.u8.wrap (xorI (IntKind.i64.wrap (z68.toNat : Int)) (IntKind.i64.wrap (1 + (x32))))])) ++ ((s).drop (IntKind.i64.wrap ((x8) + 1)).toNat), (i233), (h234)⟩) ?_ hI hd ?_ ⟨rfl, trivial⟩ rfl rfl <;> clear hI hd
      · (try dsimp only) <;> (refine ⟨?_, by omega⟩; (try dsimp only); (try simp only [List.length_append, List.length_take, List.length_drop, bytesOf, List.length_map, List.length_cons, List.length_nil]); omega)
      · rfl
     ·
      rintro ⟨⟩
      refine d_takeP 18 rfl rfl (by kernel_rfl) (by kernel_rfl) (by kernel_rfl) (pw_subSl Tryz.underlying9 rfl rfl (by (simp only [IntKind.wrap_i64] at *; omega)) (by (simp only [IntKind.wrap_i64] at *; omega))) ?_
      obtain ⟨z71, hz72, b73⟩ := at_get (xs := s) (n := (x8)) (by omega) (by omega)
      refine d_twoX 5 8 rfl rfl (by kernel_rfl) rfl rfl (osX (o_indexS rfl Tryz.underlying9 rfl rfl b73 hz72)) (o_callGM 0 3 4 (pv := some (v0)) (Go.Proofs.enters_of Tryz.func41 (by kernel_rfl) rfl) (c_spec_l1Below (((code))) ((i215)) ((h216)) (255) (by omega) (by omega) (by omega) (by omega) (by omega)) rfl rfl (.cur rfl (.cons rfl .nil)) rfl (fun ⟨_, _, _⟩ => rfl) (fun _ => rfl) (fun ⟨_, _, _⟩ => rfl) rfl rfl) ?_ ?_
      ·
       rintro ⟨⟩
       refine d_twoX 6 8 rfl rfl (by kernel_rfl) rfl rfl (osX (o_conv rfl Tryz.underlying5 Tryz.underlying3 rfl)) (o_callGM 0 3 4 (pv := some (v0)) (Go.Proofs.enters_of Tryz.func41 (by kernel_rfl) rfl) (c_spec_l1Below (((code))) ((i215)) ((h216)) (255) (by omega) (by omega) (by omega) (by omega) (by omega)) rfl rfl (.cur rfl (.cons rfl .nil)) rfl (fun ⟨_, _, _⟩ => rfl) (fun _ => rfl) (fun ⟨_, _, _⟩ => rfl) rfl rfl) ?_ ?_
       ·
        rintro ⟨⟩
        refine dOX 8 rfl (o_callGM 0 3 4 (pv := some (v0)) (Go.Proofs.enters_of Tryz.func41 (by kernel_rfl) rfl) (c_spec_l1Below (((code))) ((i215)) ((h216)) (255) (by omega) (by omega) (by omega) (by omega) (by omega)) rfl rfl (.cur rfl (.cons rfl .nil)) rfl (fun ⟨_, _, _⟩ => rfl) (fun _ => rfl) (fun ⟨_, _, _⟩ => rfl) rfl rfl) ?_
        rintro ⟨⟨x86, i287, h288⟩, hq89⟩
        try dsimp only at hq89
        try dsimp only
        obtain ⟨q90, q91⟩ := hq89
        refine dT 9 rfl pB ?_
        refine dT 10 rfl (p_binD rfl rfl (xor_d)) ?_
        refine dT 11 rfl (p_conv Tryz.underlying3 Tryz.underlying5 rfl) ?_
        refine dO 12 rfl (o_lit1 4 (e := 5) (sz := 1) (zs := [.int .u8 0]) (enc := encU) (IntKind.u8.wrap (xorI (IntKind.i64.wrap (z71.toNat : Int)) (IntKind.i64.wrap (1 + (x86))))) rfl rfl (by kernel_rfl) rfl rfl rfl rfl rfl rfl (.cons .sc .nil)) ?_
        refine dT 13 rfl (p_convBSo Tryz.underlying22 Tryz.underlying5 Tryz.underlying9 rfl rfl) ?_
        refine dT 14 rfl (p_cat rfl rfl (by (simp only [List.length_append, List.length_take, List.length_drop, bytesOf, List.length_map, List.length_cons, List.length_nil]; omega))) ?_
        refine dT 19 rfl (p_cat rfl rfl (by (simp only [List.length_append, List.length_take, List.length_drop, bytesOf, List.length_map, List.length_cons, List.length_nil]; omega))) ?_
        refine dT 20 rfl pA ?_
        refine d_end (by kernel_rfl) ?_
        refine t_ret Tryz.func59 (.tmp rfl .nil) rfl fun E S w u hI hd => ?_
        refine post_mkG (⟨((s).take ((x8)).toNat) ++ (bytesOf ([IntKind.u8.wrap (xorI (IntKind.i64.wrap (z71.toNat : Int)) (IntKind.i64.wrap (1 + (x86))))])) ++ ((s).drop (IntKind.i64.wrap ((x8) + 1)).toNat), (i287), (h288)⟩) ?_ hI hd ?_ ⟨rfl, trivial⟩ rfl rfl <;> clear hI hd
        · (try dsimp only) <;> (refine ⟨?_, by omega⟩; (try dsimp only); (try simp only [List.length_append, List.length_take, List.length_drop, bytesOf, List.length_map, List.length_cons, List.length_nil]); omega)
        · rfl
       ·
        rintro ⟨⟨x80, i281, h282⟩, hq83⟩
        try dsimp only at hq83
        try dsimp only
        obtain ⟨q84, q85⟩ := hq83
        refine dT 6 rfl (p_conv Tryz.underlying5 Tryz.underlying3 rfl) ?_
        refine dT 9 rfl pB ?_
        refine dT 10 rfl (p_binD rfl rfl (xor_d)) ?_
        refine dT 11 rfl (p_conv Tryz.underlying3 Tryz.underlying5 rfl) ?_
        refine dO 12 rfl (o_lit1 4 (e := 5) (sz := 1) (zs := [.int .u8 0]) (enc := encU) (IntKind.u8.wrap (xorI (IntKind.i64.wrap (z71.toNat : Int)) (IntKind.i64.wrap (1 + (x80))))) rfl rfl (by kernel_rfl) rfl rfl rfl rfl rfl rfl (.cons .sc .nil)) ?_
        refine dT 13 rfl (p_convBSo Tryz.underlying22 Tryz.underlying5 Tryz.underlying9 rfl rfl) ?_
        refine dT 14 rfl (p_cat rfl rfl (by (simp only [List.length_append, List.length_take, List.length_drop, bytesOf, List.length_map, List.length_cons, List.length_nil]; omega))) ?_
        refine dT 19 rfl (p_cat rfl rfl (by (simp only [List.length_append, List.length_take, List.length_drop, bytesOf, List.length_map, List.length_cons, List.length_nil]; omega))) ?_
        refine dT 20 rfl pA ?_
        refine d_end (by kernel_rfl) ?_
        refine t_ret Tryz.func59 (.tmp rfl .nil) rfl fun E S w u hI hd => ?_
        refine post_mkG (⟨((s).take ((x8)).toNat) ++ (bytesOf ([IntKind.u8.wrap (xorI (IntKind.i64.wrap (z71.toNat : Int)) (IntKind.i64.wrap (1 + (x80))))])) ++ ((s).drop (IntKind.i64.wrap ((x8) + 1)).toNat), (i281), (h282)⟩) ?_ hI hd ?_ ⟨rfl, trivial⟩ rfl rfl <;> clear hI hd
        · (try dsimp only) <;> (refine ⟨?_, by omega⟩; (try dsimp only); (try simp only [List.length_append, List.length_take, List.length_drop, bytesOf, List.length_map, List.length_cons, List.length_nil]); omega)
        · rfl
      ·
       rintro ⟨⟨x74, i275, h276⟩, hq77⟩
       try dsimp only at hq77
       try dsimp only
       obtain ⟨q78, q79⟩ := hq77
       obtain ⟨z92, hz93, b94⟩ := at_get (xs := s) (n := (x8)) (by omega) (by omega)
       refine dT 5 rfl (p_indexS Tryz.underlying9 rfl rfl b94 hz93) ?_
       refine dT 6 rfl (p_conv Tryz.underlying5 Tryz.underlying3 rfl) ?_
       refine dT 9 rfl pB ?_
       refine dT 10 rfl (p_binD rfl rfl (xor_d)) ?_
       refine dT 11 rfl (p_conv Tryz.underlying3 Tryz.underlying5 rfl) ?_
       refine dO 12 rfl (o_lit1 4 (e := 5) (sz := 1) (zs := [.int .u8 0]) (enc := encU) (IntKind.u8.wrap (xorI (IntKind.i64.wrap (z92.toNat : Int)) (IntKind.i64.wrap (1 + (x74))))) rfl rfl (by kernel_rfl) rfl rfl rfl rfl rfl rfl (.cons .sc .nil)) ?_
       refine dT 13 rfl (p_convBSo Tryz.underlying22 Tryz.underlying5 Tryz.underlying9 rfl rfl) ?_
       refine dT 14 rfl (p_cat rfl rfl (by (simp only [List.length_append, List.length_take, List.length_drop, bytesOf, List.length_map, List.length_cons, List.length_nil]; omega))) ?_
       refine dT 19 rfl (p_cat rfl rfl (by (simp only [List.length_append, List.length_take, List.length_drop, bytesOf, List.length_map, List.length_cons, List.length_nil]; omega))) ?_
       refine dT 20 rfl pA ?_
       refine d_end (by kernel_rfl) ?_
       refine t_ret Tryz.func59 (.tmp rfl .nil) rfl fun E S w u hI hd => ?_
       refine post_mkG (⟨((s).take ((x8)).toNat) ++ (bytesOf ([IntKind.u8.wrap (xorI (IntKind.i64.wrap (z92.toNat : Int)) (IntKind.i64.wrap (1 + (x74))))])) ++ ((s).drop (IntKind.i64.wrap ((x8) + 1)).toNat), (i275), (h276)⟩) ?_ hI hd ?_ ⟨rfl, trivial⟩ rfl rfl <;> clear hI hd
       · (try dsimp only) <;> (refine ⟨?_, by omega⟩; (try dsimp only); (try simp only [List.length_append, List.length_take, List.length_drop, bytesOf, List.length_map, List.length_cons, List.length_nil]); omega)
       · rfl
set_option maxHeartbeats 1000000 in
set_option maxRecDepth 10000 in
theorem c_spec_l1Pick (code : List Int) (i h : Int) (l : List (List UInt8)) (hc : code.length ≤ 1048600) (hi0 : 0 ≤ i) (hi1 : i ≤ code.length) (hl : 1 ≤ l.length) (hl2 : l.length ≤ 256) : MuG Tryz.prog 58 [.c (.ptr 0 0), .c (.t none (.sl 1 encS (l)))] [.t none (.sl 1 encU (code)), .t none (.v (.int .i64 (i))), .t none (.v (.int .i64 (h)))] (fun (⟨x, i2, h2⟩ : (List UInt8) × Int × Int) => x ∈ l ∧ 0 ≤ i2 ∧ i2 ≤ code.length) (fun (⟨x, i2, h2⟩ : (List UInt8) × Int × Int) => [.t none (.sl 1 encU (code)), .t none (.v (.int .i64 (i2))), .t none (.v (.int .i64 (h2)))]) (fun (⟨x, i2, h2⟩ : (List UInt8) × Int × Int) => []) 1 (fun (⟨x, i2, h2⟩ : (List UInt8) × Int × Int) => .c (.t none (.v (.string (mkS (x)))))) := by
 refine mu_enterG Tryz.func58 rfl (Nat.le_of_ble_eq_true rfl) fun v0 w S M hM => ?_
 refine tsr ?_
 refine r_op oA ?_
 refine etr ?_
 refine r_op oM ?_
 refine r_op oM ?_
 refine r_op oM ?_
 refine r_op (o_len rfl rfl rfl) ?_
 refine r_opX (o_callGM 0 1 2 (pv := some (v0)) (Go.Proofs.enters_of Tryz.func41 (by kernel_rfl) rfl) (c_spec_l1Below (code) (i) (h) (((l).length : Int)) (by omega) (by omega) (by omega) (by omega) (by omega)) rfl rfl (.cur rfl (.cons rfl .nil)) rfl (fun ⟨_, _, _⟩ => rfl) (fun _ => rfl) (fun ⟨_, _, _⟩ => rfl) rfl rfl) ?_
 rintro ⟨⟨x1, i22, h23⟩, hq4⟩
 try dsimp only at hq4
 try dsimp only
 obtain ⟨q5, q6⟩ := hq4
 obtain ⟨z7, hz8, b9⟩ := at_get (xs := l) (n := (x1)) (by omega) (by omega)
 refine r_op (o_index rfl (by kernel_rfl) rfl rfl b9 hz8) ?_
 refine r_op (o_load1 rfl (by kernel_rfl) rfl rfl) ?_
 refine r_op oA ?_
 refine r_end ?_
 refine t_ret Tryz.func58 (.tmp rfl .nil) rfl fun E S w u hI hd => ?_
 refine post_mkG (⟨z7, (i22), (h23)⟩) ?_ hI hd ?_ ⟨rfl, trivial⟩ rfl rfl <;> clear hI hd
 · (try dsimp only) <;> (exact ⟨List.mem_of_getElem? (by assumption), by omega⟩)
 · rfl
end Go.Eng
