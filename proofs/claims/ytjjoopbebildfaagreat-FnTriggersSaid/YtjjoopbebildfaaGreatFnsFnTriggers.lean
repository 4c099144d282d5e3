/- What the functions that FnTriggers reaches answer. -/
import Derived.Test.YtjjoopbebildfaaGreatFnsFnTriggersp2
import Derived.Test.YtjjoopbebildfaaGreatEngZQ
import Derived.Test.YtjjoopbebildfaaGreatChecked
set_option linter.unusedVariables false
set_option linter.unusedSimpArgs false
namespace Go.Eng
open Go Go.RowKit Go.Proofs
set_option maxHeartbeats 1000000 in
set_option maxRecDepth 10000 in
theorem c_spec_IsValidDependency (rs : Rels) (a0 : List (Int × (List (Int)))) (a1 : List (Int × (List (Int)))) (a2 : Bool) (a3 : Int) (a4 : Int) (hrs : rs.length ≤ 4611686018427387904) (hs : szS (fun (x : Int × (List (Int))) => (x.2).length) a0 + szS (fun (x : Int × (List (Int))) => (x.2).length) a1 ≤ 1048576) : Pu Tryz.prog 67 [.c (.t none (.sl 3 (enS3 encS encI encB) (rs))), .agg [.t none (.sl 2 (enS2 encI (enSl 1 encI)) (a0)), .t none (.sl 2 (enS2 encI (enSl 1 encI)) (a1)), .t none (.v (.bool (a2))), .t none (.v (.int .i64 (a3))), .t none (.v (.int .i64 (a4)))]] [] 0 (.c (.t none (.v (.bool (depOk rs a0 a1 a2 a3 a4))))) := by
 refine pu_enter Tryz.func67 rfl (Nat.le_of_ble_eq_true rfl) fun w S => ?_
 have g0 := sz_len (f := (fun (x : Int × (List (Int))) => (x.2).length)) (l := a0); have g1 := sz_len (f := (fun (x : Int × (List (Int))) => (x.2).length)) (l := a1); have v0 := setI_len (varsL a0); have v1 := varsL_size a0
 refine tsr ?_
 refine r_op (o_box 0 rfl rfl rfl rfl) ?_
 refine r_op oA ?_
 refine r_end ?_
 refine t_seq ?_
 refine tsr ?_
 refine r_op (oF 0) ?_
 refine r_op oL ?_
 refine r_op (o_len rfl rfl rfl) ?_
 refine r_op (o_call 1 1 false (Go.Proofs.enters_of Tryz.func121 (by kernel_rfl) rfl) (c_spec_l1In (((a0).length : Int)) (1) (2)) rfl (.cons rfl (.c .t0) (.cons rfl (.c .t0) (.cons rfl (.c .t0) .nil))) rfl rfl rfl) ?_
 refine r_op (o_not rfl rfl) ?_
 refine r_end ?_
 refine t_cond rfl (fun h1 => ?_) (fun h1 => ?_)
 ·
  have h1' := of_decide_eq_false (bnt h1)
  refine tsr ?_
  refine r_op oA ?_
  refine r_end ?_
  refine t_ret Tryz.func67 (.tmp rfl .nil) rfl fun E S w u hI hd => ?_
  refine post_mk hI hd ?_ trivial rfl rfl rfl <;> clear hI hd <;> (try clear ih0) <;> (try clear ih1)
  all_goals (refine scB ?_; (try (have qA := iA (by omega))); (try (have qK := kA (by omega))); (try (have qB := any_true (p := badA rs) (l := a0) (m := m) (by assumption) (by unfold badA; grind))); (try (have qC := any_true (p := badA rs) (l := a1) (m := n) (by assumption) (by unfold badA; grind))); (try (have qS := srcA_at (rs := rs) (r := (by assumption).1) (ts := (by assumption).2) (by assumption); have qD := any_true (p := srcA rs) (l := a1) (m := n) (by assumption) (by grind))); clear hs g0 g1 v0 v1; unfold depOk atomsOk; grind)
 ·
  have h1' := of_decide_eq_true (bnf h1)
  refine t_skip ?_
  refine t_seq ?_
  refine tsr ?_
  refine r_op oA ?_
  refine r_end ?_
  refine t_block ?_
  refine t_loopL (fun m => ⟨[(0, some (.c (.t none (.sl 3 (enS3 encS encI encB) (rs))))), (3, some (.c (.ptr 0 0))), (5, some (.c (.t none (.v (.int .i64 ((m : Int)))))))], [(0, some (.box [.t none (.sl 2 (enS2 encI (enSl 1 encI)) (a0)), .t none (.sl 2 (enS2 encI (enSl 1 encI)) (a1)), .t none (.v (.bool (a2))), .t none (.v (.int .i64 (a3))), .t none (.v (.int .i64 (a4)))]))], 1⟩ : Nat → St) (fun m => m ≤ a0.length ∧ ∀ j z, j < m → a0[j]? = some z → badA rs z = false) (fun m => a0.length - m) 0 ⟨⟨rfl, ⟨rfl, ⟨rfl, trivial⟩⟩⟩, ⟨rfl, trivial⟩, rfl⟩ (by exact ⟨Nat.zero_le _, fun j z h => by omega⟩) ?_
  rintro m hI ih0
  try dsimp only at hI ih0
  obtain ⟨i1, i2⟩ := hI; have iA : a0.length ≤ m → a0.any (badA rs) = false := fun e => any_false i2 e
  refine t_seq ?_
  refine tsr ?_
  refine r_op oM ?_
  refine r_op (oF 0) ?_
  refine r_op oL ?_
  refine r_op (o_len rfl rfl rfl) ?_
  refine r_op oB ?_
  refine r_end ?_
  refine t_cond rfl (fun h2 => ?_) (fun h2 => ?_)
  ·
   have h2' := of_decide_eq_true h2
   refine t_skip ?_
   refine t_seq ?_
   refine t_block ?_
   refine tsr ?_
   refine r_op oM ?_
   refine r_op (oF 0) ?_
   refine r_op oL ?_
   refine r_op oM ?_
   obtain ⟨z3, hz4, b5⟩ := at_get (xs := a0) (n := (m : Int)) (by omega) (by omega)
   refine r_op (o_index rfl (by kernel_rfl) rfl rfl b5 hz4) ?_
   refine r_op (o_loadA rfl (n := 2) (by kernel_rfl) (by kernel_rfl) rfl rfl) ?_
   refine r_op (o_call 1 1 false (Go.Proofs.enters_of Tryz.func115 (by kernel_rfl) rfl) (c_spec_IsValidAtom (rs) (z3.1) (z3.2) (by omega) (by (have e1 := sz_at (f := (fun (x : Int × (List (Int))) => (x.2).length)) (l := a0) (m := m) (by assumption); (try dsimp only at e1); omega))) rfl (.cons rfl (.c .t0) (.cons rfl (.agg (.cons .t0 (.cons .t0 .nil))) .nil)) rfl rfl rfl) ?_
   refine r_op (o_not rfl rfl) ?_
   refine r_end ?_
   refine t_cond rfl (fun h6 => ?_) (fun h6 => ?_)
   ·
    have h6' := (bnt h6)
    refine tsr ?_
    refine r_op oA ?_
    refine r_end ?_
    refine t_ret Tryz.func67 (.tmp rfl .nil) rfl fun E S w u hI hd => ?_
    refine post_mk hI hd ?_ trivial rfl rfl rfl <;> clear hI hd <;> (try clear ih0) <;> (try clear ih1)
    all_goals (refine scB ?_; (try (have qA := iA (by omega))); (try (have qK := kA (by omega))); (try (have qB := any_true (p := badA rs) (l := a0) (m := m) hz4 (by unfold badA; grind))); (try (have qC := any_true (p := badA rs) (l := a1) (m := n) hz4 (by unfold badA; grind))); (try (have qS := srcA_at (rs := rs) (r := z3.1) (ts := z3.2) (by assumption); have qD := any_true (p := srcA rs) (l := a1) (m := n) hz4 (by grind))); clear hs g0 g1 v0 v1; unfold depOk atomsOk; grind)
   ·
    have h6' := (bnf h6)
    refine t_skip ?_
    refine t_endblock ?_
    refine t_region ?_
    refine r_op oM ?_
    refine r_op oB ?_
    refine r_op oA ?_
    refine r_end ?_
    refine t_le ?_ (ih0 (m + 1) (by (try dsimp only); omega) (by (try dsimp only); exact ⟨by omega, no_step i2 (by assumption) rfl (by unfold badA; grind)⟩))
    exact ⟨⟨rfl, ⟨rfl, ⟨(eqI (wr64 (by omega) (by omega))), trivial⟩⟩⟩, ⟨rfl, trivial⟩, rfl⟩
  ·
   have h2' := of_decide_eq_false h2
   refine t_exit rfl ?_
   refine t_seq ?_
   refine tsr ?_
   refine r_op (oF 2) ?_
   refine r_op oL ?_
   refine r_end ?_
   refine t_cond rfl (fun h7 => ?_) (fun h7 => ?_)
   ·
    have h7' := h7
    refine tsr ?_
    refine r_op (oF 0) ?_
    refine r_op oL ?_
    refine r_op (o_call 1 2 false (Go.Proofs.enters_of Tryz.func68 (by kernel_rfl) rfl) (c_spec_Variables (a0) (by omega)) rfl (.cons rfl (.c .t0) .nil) rfl rfl rfl) ?_
    refine r_op oA ?_
    refine etr ?_
    refine r_op (oF 1) ?_
    refine r_op oL ?_
    refine r_op (o_len rfl rfl rfl) ?_
    refine r_op oB ?_
    refine r_op oM ?_
    refine r_guard rfl rfl rfl (fun g8 => ?_) (fun g8 => ?_)
    ·
     have g8' := of_decide_eq_true g8
     refine r_op oM ?_
     refine r_guard rfl rfl rfl (fun _ => ?_) (nc g8)
     refine r_op (oF 3) ?_
     refine r_guard rfl rfl rfl (fun _ => ?_) (nc g8)
     refine r_op oL ?_
     refine r_guard rfl rfl rfl (fun _ => ?_) (nc g8)
     refine r_op (o_call 2 2 false (Go.Proofs.enters_of Tryz.func69 (by kernel_rfl) rfl) (c_spec_l4Has (setI (varsL (a0))) (a3) (by omega)) rfl (.cons rfl (.c (.own rfl)) (.cons rfl (.c .t0) .nil)) rfl rfl rfl) ?_
     refine r_op (o_pickT rfl rfl g8 rfl) ?_
     refine r_op oM ?_
     refine r_guard rfl rfl rfl (fun g9 => ?_) (fun g9 => ?_)
     ·
      have g9' := g9
      refine r_op oM ?_
      refine r_guard rfl rfl rfl (fun _ => ?_) (nc g9)
      refine r_op (oF 4) ?_
      refine r_guard rfl rfl rfl (fun _ => ?_) (nc g9)
      refine r_op oL ?_
      refine r_guard rfl rfl rfl (fun _ => ?_) (nc g9)
      refine r_op (o_call 2 2 false (Go.Proofs.enters_of Tryz.func69 (by kernel_rfl) rfl) (c_spec_l4Has (setI (varsL (a0))) (a4) (by omega)) rfl (.cons rfl (.c (.own rfl)) (.cons rfl (.c .t0) .nil)) rfl rfl rfl) ?_
      refine r_op (o_pickT rfl rfl g9 rfl) ?_
      refine r_op oM ?_
      refine r_guard rfl rfl rfl (fun g10 => ?_) (fun g10 => ?_)
      ·
       have g10' := g10
       refine r_op (oF 3) ?_
       refine r_guard rfl rfl rfl (fun _ => ?_) (nc g10)
       refine r_op oL ?_
       refine r_guard rfl rfl rfl (fun _ => ?_) (nc g10)
       refine r_op (oF 4) ?_
       refine r_guard rfl rfl rfl (fun _ => ?_) (nc g10)
       refine r_op oL ?_
       refine r_guard rfl rfl rfl (fun _ => ?_) (nc g10)
       refine r_op oB ?_
       refine r_op (o_pickT rfl rfl g10 rfl) ?_
       refine r_op oA ?_
       refine r_end ?_
       refine t_ret Tryz.func67 (.tmp rfl .nil) rfl fun E S w u hI hd => ?_
       refine post_mk hI hd ?_ trivial rfl rfl rfl <;> clear hI hd <;> (try clear ih0) <;> (try clear ih1)
       all_goals (refine scB ?_; (try (have qA := iA (by omega))); (try (have qK := kA (by omega))); (try (have qB := any_true (p := badA rs) (l := a0) (m := m) (by assumption) (by unfold badA; grind))); (try (have qC := any_true (p := badA rs) (l := a1) (m := n) (by assumption) (by unfold badA; grind))); (try (have qS := srcA_at (rs := rs) (r := (by assumption).1) (ts := (by assumption).2) (by assumption); have qD := any_true (p := srcA rs) (l := a1) (m := n) (by assumption) (by grind))); clear hs g0 g1 v0 v1; unfold depOk atomsOk; grind)
      ·
       have g10' := g10
       refine r_guard rfl rfl rfl (ncf g10) (fun _ => ?_)
       refine r_guard rfl rfl rfl (ncf g10) (fun _ => ?_)
       refine r_guard rfl rfl rfl (ncf g10) (fun _ => ?_)
       refine r_guard rfl rfl rfl (ncf g10) (fun _ => ?_)
       refine r_op (o_pickF rfl rfl g10 rfl) ?_
       refine r_op oA ?_
       refine r_end ?_
       refine t_ret Tryz.func67 (.tmp rfl .nil) rfl fun E S w u hI hd => ?_
       refine post_mk hI hd ?_ trivial rfl rfl rfl <;> clear hI hd <;> (try clear ih0) <;> (try clear ih1)
       all_goals (refine scB ?_; (try (have qA := iA (by omega))); (try (have qK := kA (by omega))); (try (have qB := any_true (p := badA rs) (l := a0) (m := m) (by assumption) (by unfold badA; grind))); (try (have qC := any_true (p := badA rs) (l := a1) (m := n) (by assumption) (by unfold badA; grind))); (try (have qS := srcA_at (rs := rs) (r := (by assumption).1) (ts := (by assumption).2) (by assumption); have qD := any_true (p := srcA rs) (l := a1) (m := n) (by assumption) (by grind))); clear hs g0 g1 v0 v1; unfold depOk atomsOk; grind)
     ·
      have g9' := g9
      refine r_guard rfl rfl rfl (ncf g9) (fun _ => ?_)
      refine r_guard rfl rfl rfl (ncf g9) (fun _ => ?_)
      refine r_guard rfl rfl rfl (ncf g9) (fun _ => ?_)
      refine r_op (o_pickF rfl rfl g9 rfl) ?_
      refine r_op oM ?_
      refine r_guard rfl rfl rfl (ncf rfl) (fun _ => ?_)
      refine r_guard rfl rfl rfl (ncf rfl) (fun _ => ?_)
      refine r_guard rfl rfl rfl (ncf rfl) (fun _ => ?_)
      refine r_guard rfl rfl rfl (ncf rfl) (fun _ => ?_)
      refine r_guard rfl rfl rfl (ncf rfl) (fun _ => ?_)
      refine r_op (o_pickF rfl rfl rfl rfl) ?_
      refine r_op oA ?_
      refine r_end ?_
      refine t_ret Tryz.func67 (.tmp rfl .nil) rfl fun E S w u hI hd => ?_
      refine post_mk hI hd ?_ trivial rfl rfl rfl <;> clear hI hd <;> (try clear ih0) <;> (try clear ih1)
      all_goals (refine scB ?_; (try (have qA := iA (by omega))); (try (have qK := kA (by omega))); (try (have qB := any_true (p := badA rs) (l := a0) (m := m) (by assumption) (by unfold badA; grind))); (try (have qC := any_true (p := badA rs) (l := a1) (m := n) (by assumption) (by unfold badA; grind))); (try (have qS := srcA_at (rs := rs) (r := (by assumption).1) (ts := (by assumption).2) (by assumption); have qD := any_true (p := srcA rs) (l := a1) (m := n) (by assumption) (by grind))); clear hs g0 g1 v0 v1; unfold depOk atomsOk; grind)
    ·
     have g8' := of_decide_eq_false g8
     refine r_guard rfl rfl rfl (ncf g8) (fun _ => ?_)
     refine r_guard rfl rfl rfl (ncf g8) (fun _ => ?_)
     refine r_guard rfl rfl rfl (ncf g8) (fun _ => ?_)
     refine r_op (o_pickF rfl rfl g8 rfl) ?_
     refine r_op oM ?_
     refine r_guard rfl rfl rfl (ncf rfl) (fun _ => ?_)
     refine r_guard rfl rfl rfl (ncf rfl) (fun _ => ?_)
     refine r_guard rfl rfl rfl (ncf rfl) (fun _ => ?_)
     refine r_guard rfl rfl rfl (ncf rfl) (fun _ => ?_)
     refine r_op (o_pickF rfl rfl rfl rfl) ?_
     refine r_op oM ?_
     refine r_guard rfl rfl rfl (ncf rfl) (fun _ => ?_)
     refine r_guard rfl rfl rfl (ncf rfl) (fun _ => ?_)
     refine r_guard rfl rfl rfl (ncf rfl) (fun _ => ?_)
     refine r_guard rfl rfl rfl (ncf rfl) (fun _ => ?_)
     refine r_guard rfl rfl rfl (ncf rfl) (fun _ => ?_)
     refine r_op (o_pickF rfl rfl rfl rfl) ?_
     refine r_op oA ?_
     refine r_end ?_
     refine t_ret Tryz.func67 (.tmp rfl .nil) rfl fun E S w u hI hd => ?_
     refine post_mk hI hd ?_ trivial rfl rfl rfl <;> clear hI hd <;> (try clear ih0) <;> (try clear ih1)
     all_goals (refine scB ?_; (try (have qA := iA (by omega))); (try (have qK := kA (by omega))); (try (have qB := any_true (p := badA rs) (l := a0) (m := m) (by assumption) (by unfold badA; grind))); (try (have qC := any_true (p := badA rs) (l := a1) (m := n) (by assumption) (by unfold badA; grind))); (try (have qS := srcA_at (rs := rs) (r := (by assumption).1) (ts := (by assumption).2) (by assumption); have qD := any_true (p := srcA rs) (l := a1) (m := n) (by assumption) (by grind))); clear hs g0 g1 v0 v1; unfold depOk atomsOk; grind)
   ·
    have h7' := h7
    refine t_skip ?_
    refine t_seq ?_
    refine tsr ?_
    refine r_op oA ?_
    refine r_end ?_
    refine t_block ?_
    refine t_loopL (fun n => ⟨[(0, some (.c (.t none (.sl 3 (enS3 encS encI encB) (rs))))), (3, some (.c (.ptr 0 0))), (7, some (.c (.t none (.v (.int .i64 ((n : Int)))))))], [(0, some (.box [.t none (.sl 2 (enS2 encI (enSl 1 encI)) (a0)), .t none (.sl 2 (enS2 encI (enSl 1 encI)) (a1)), .t none (.v (.bool (a2))), .t none (.v (.int .i64 (a3))), .t none (.v (.int .i64 (a4)))]))], 1⟩ : Nat → St) (fun n => n ≤ a1.length ∧ ∀ j z, j < n → a1[j]? = some z → (badA rs z || srcA rs z) = false) (fun n => a1.length - n) 0 ⟨⟨rfl, ⟨rfl, ⟨rfl, trivial⟩⟩⟩, ⟨rfl, trivial⟩, rfl⟩ (by exact ⟨Nat.zero_le _, fun j z h => by omega⟩) ?_
    rintro n hI ih1
    try dsimp only at hI ih1
    obtain ⟨k1, k2⟩ := hI; (have kA : a1.length ≤ n → a1.any (badA rs) = false ∧ a1.any (srcA rs) = false := fun e => ⟨any_false (fun j z h h2 => by have := k2 j z h h2; simp_all) e, any_false (fun j z h h2 => by have := k2 j z h h2; simp_all) e⟩)
    refine t_seq ?_
    refine tsr ?_
    refine r_op oM ?_
    refine r_op (oF 1) ?_
    refine r_op oL ?_
    refine r_op (o_len rfl rfl rfl) ?_
    refine r_op oB ?_
    refine r_end ?_
    refine t_cond rfl (fun h11 => ?_) (fun h11 => ?_)
    ·
     have h11' := of_decide_eq_true h11
     refine t_skip ?_
     refine t_seq ?_
     refine t_block ?_
     refine tsr ?_
     refine r_op oM ?_
     refine r_op (oF 1) ?_
     refine r_op oL ?_
     refine r_op oM ?_
     obtain ⟨z12, hz13, b14⟩ := at_get (xs := a1) (n := (n : Int)) (by omega) (by omega)
     refine r_op (o_index rfl (by kernel_rfl) rfl rfl b14 hz13) ?_
     refine r_op (o_loadA rfl (n := 2) (by kernel_rfl) (by kernel_rfl) rfl rfl) ?_
     refine r_op (o_call 1 1 false (Go.Proofs.enters_of Tryz.func115 (by kernel_rfl) rfl) (c_spec_IsValidAtom (rs) (z12.1) (z12.2) (by omega) (by (have e1 := sz_at (f := (fun (x : Int × (List (Int))) => (x.2).length)) (l := a1) (m := n) (by assumption); (try dsimp only at e1); omega))) rfl (.cons rfl (.c .t0) (.cons rfl (.agg (.cons .t0 (.cons .t0 .nil))) .nil)) rfl rfl rfl) ?_
     refine r_op (o_not rfl rfl) ?_
     refine r_op oM ?_
     refine r_guard rfl rfl rfl (fun g15 => ?_) (fun g15 => ?_)
     ·
      have g15' := (bnf g15)
      refine r_op oM ?_
      refine r_guard rfl rfl rfl (fun _ => ?_) (ncf g15)
      refine r_op (oF 1) ?_
      refine r_guard rfl rfl rfl (fun _ => ?_) (ncf g15)
      refine r_op oL ?_
      refine r_guard rfl rfl rfl (fun _ => ?_) (ncf g15)
      refine r_op oM ?_
      refine r_guard rfl rfl rfl (fun _ => ?_) (ncf g15)
      refine r_op (o_index rfl (by kernel_rfl) rfl rfl b14 hz13) ?_
      refine r_guard rfl rfl rfl (fun _ => ?_) (ncf g15)
      refine r_op (o_field rfl (off := 0) (by kernel_rfl) rfl) ?_
      refine r_guard rfl rfl rfl (fun _ => ?_) (ncf g15)
      refine r_op (o_load1 rfl (by kernel_rfl) rfl rfl) ?_
      refine r_guard rfl rfl rfl (fun _ => ?_) (ncf g15)
      obtain ⟨z16, hz17, b18⟩ := at_get (xs := rs) (n := z12.1) (by exact (atom_idx (by assumption)).1) (by exact (atom_idx (by assumption)).2)
      refine r_op (o_index rfl (by kernel_rfl) rfl rfl b18 hz17) ?_
      refine r_guard rfl rfl rfl (fun _ => ?_) (ncf g15)
      refine r_op (o_field rfl (off := 2) (by kernel_rfl) rfl) ?_
      refine r_guard rfl rfl rfl (fun _ => ?_) (ncf g15)
      refine r_op (o_load1 rfl (by kernel_rfl) rfl rfl) ?_
      refine r_op (o_pickF rfl rfl g15 rfl) ?_
      refine r_end ?_
      refine t_cond rfl (fun h19 => ?_) (fun h19 => ?_)
      ·
       have h19' := h19
       refine tsr ?_
       refine r_op oA ?_
       refine r_end ?_
       refine t_ret Tryz.func67 (.tmp rfl .nil) rfl fun E S w u hI hd => ?_
       refine post_mk hI hd ?_ trivial rfl rfl rfl <;> clear hI hd <;> (try clear ih0) <;> (try clear ih1)
       all_goals (refine scB ?_; (try (have qA := iA (by omega))); (try (have qK := kA (by omega))); (try (have qB := any_true (p := badA rs) (l := a0) (m := m) hz13 (by unfold badA; grind))); (try (have qC := any_true (p := badA rs) (l := a1) (m := n) hz13 (by unfold badA; grind))); (try (have qS := srcA_at (rs := rs) (r := z12.1) (ts := z12.2) hz17; have qD := any_true (p := srcA rs) (l := a1) (m := n) hz13 (by grind))); clear hs g0 g1 v0 v1; unfold depOk atomsOk; grind)
      ·
       have h19' := h19
       refine t_skip ?_
       refine t_endblock ?_
       refine t_region ?_
       refine r_op oM ?_
       refine r_op oB ?_
       refine r_op oA ?_
       refine r_end ?_
       refine t_le ?_ (ih1 (n + 1) (by (try dsimp only); omega) (by (try dsimp only); exact ⟨by omega, no_step (p := fun z => badA rs z || srcA rs z) k2 (by assumption) rfl (by have q1 := srcA_at (rs := rs) (r := z12.1) (ts := z12.2) hz17; unfold badA; grind)⟩))
       exact ⟨⟨rfl, ⟨rfl, ⟨(eqI (wr64 (by omega) (by omega))), trivial⟩⟩⟩, ⟨rfl, trivial⟩, rfl⟩
     ·
      have g15' := (bnt g15)
      refine r_guard rfl rfl rfl (nc g15) (fun _ => ?_)
      refine r_guard rfl rfl rfl (nc g15) (fun _ => ?_)
      refine r_guard rfl rfl rfl (nc g15) (fun _ => ?_)
      refine r_guard rfl rfl rfl (nc g15) (fun _ => ?_)
      refine r_guard rfl rfl rfl (nc g15) (fun _ => ?_)
      refine r_guard rfl rfl rfl (nc g15) (fun _ => ?_)
      refine r_guard rfl rfl rfl (nc g15) (fun _ => ?_)
      refine r_guard rfl rfl rfl (nc g15) (fun _ => ?_)
      refine r_guard rfl rfl rfl (nc g15) (fun _ => ?_)
      refine r_op (o_pickT rfl rfl g15 rfl) ?_
      refine r_end ?_
      refine t_cond rfl (fun _ => ?_) (nc rfl)
      refine tsr ?_
      refine r_op oA ?_
      refine r_end ?_
      refine t_ret Tryz.func67 (.tmp rfl .nil) rfl fun E S w u hI hd => ?_
      refine post_mk hI hd ?_ trivial rfl rfl rfl <;> clear hI hd <;> (try clear ih0) <;> (try clear ih1)
      all_goals (refine scB ?_; (try (have qA := iA (by omega))); (try (have qK := kA (by omega))); (try (have qB := any_true (p := badA rs) (l := a0) (m := m) hz13 (by unfold badA; grind))); (try (have qC := any_true (p := badA rs) (l := a1) (m := n) hz13 (by unfold badA; grind))); (try (have qS := srcA_at (rs := rs) (r := z12.1) (ts := z12.2) (by assumption); have qD := any_true (p := srcA rs) (l := a1) (m := n) hz13 (by grind))); clear hs g0 g1 v0 v1; unfold depOk atomsOk; grind)
    ·
     have h11' := of_decide_eq_false h11
     refine t_exit rfl ?_
     refine tsr ?_
     refine r_op (oF 1) ?_
     refine r_op oL ?_
     refine r_op (o_len rfl rfl rfl) ?_
     refine r_op (o_call 1 1 false (Go.Proofs.enters_of Tryz.func121 (by kernel_rfl) rfl) (c_spec_l1In (((a1).length : Int)) (1) (2)) rfl (.cons rfl (.c .t0) (.cons rfl (.c .t0) (.cons rfl (.c .t0) .nil))) rfl rfl rfl) ?_
     refine r_op oM ?_
     refine r_guard rfl rfl rfl (fun g20 => ?_) (fun g20 => ?_)
     ·
      have g20' := of_decide_eq_true g20
      refine r_op (oF 3) ?_
      refine r_guard rfl rfl rfl (fun _ => ?_) (nc g20)
      refine r_op oL ?_
      refine r_guard rfl rfl rfl (fun _ => ?_) (nc g20)
      refine r_op oB ?_
      refine r_op (o_pickT rfl rfl g20 rfl) ?_
      refine r_op oM ?_
      refine r_guard rfl rfl rfl (fun g21 => ?_) (fun g21 => ?_)
      ·
       have g21' := of_decide_eq_true g21
       refine r_op (oF 4) ?_
       refine r_guard rfl rfl rfl (fun _ => ?_) (nc g21)
       refine r_op oL ?_
       refine r_guard rfl rfl rfl (fun _ => ?_) (nc g21)
       refine r_op oB ?_
       refine r_op (o_pickT rfl rfl g21 rfl) ?_
       refine r_op oA ?_
       refine r_end ?_
       refine t_ret Tryz.func67 (.tmp rfl .nil) rfl fun E S w u hI hd => ?_
       refine post_mk hI hd ?_ trivial rfl rfl rfl <;> clear hI hd <;> (try clear ih0) <;> (try clear ih1)
       all_goals (refine scB ?_; (try (have qA := iA (by omega))); (try (have qK := kA (by omega))); (try (have qB := any_true (p := badA rs) (l := a0) (m := m) (by assumption) (by unfold badA; grind))); (try (have qC := any_true (p := badA rs) (l := a1) (m := n) (by assumption) (by unfold badA; grind))); (try (have qS := srcA_at (rs := rs) (r := (by assumption).1) (ts := (by assumption).2) (by assumption); have qD := any_true (p := srcA rs) (l := a1) (m := n) (by assumption) (by grind))); clear hs g0 g1 v0 v1; unfold depOk atomsOk; grind)
      ·
       have g21' := of_decide_eq_false g21
       refine r_guard rfl rfl rfl (ncf g21) (fun _ => ?_)
       refine r_guard rfl rfl rfl (ncf g21) (fun _ => ?_)
       refine r_op (o_pickF rfl rfl g21 rfl) ?_
       refine r_op oA ?_
       refine r_end ?_
       refine t_ret Tryz.func67 (.tmp rfl .nil) rfl fun E S w u hI hd => ?_
       refine post_mk hI hd ?_ trivial rfl rfl rfl <;> clear hI hd <;> (try clear ih0) <;> (try clear ih1)
       all_goals (refine scB ?_; (try (have qA := iA (by omega))); (try (have qK := kA (by omega))); (try (have qB := any_true (p := badA rs) (l := a0) (m := m) (by assumption) (by unfold badA; grind))); (try (have qC := any_true (p := badA rs) (l := a1) (m := n) (by assumption) (by unfold badA; grind))); (try (have qS := srcA_at (rs := rs) (r := (by assumption).1) (ts := (by assumption).2) (by assumption); have qD := any_true (p := srcA rs) (l := a1) (m := n) (by assumption) (by grind))); clear hs g0 g1 v0 v1; unfold depOk atomsOk; grind)
     ·
      have g20' := of_decide_eq_false g20
      refine r_guard rfl rfl rfl (ncf g20) (fun _ => ?_)
      refine r_guard rfl rfl rfl (ncf g20) (fun _ => ?_)
      refine r_op (o_pickF rfl rfl g20 rfl) ?_
      refine r_op oM ?_
      refine r_guard rfl rfl rfl (ncf rfl) (fun _ => ?_)
      refine r_guard rfl rfl rfl (ncf rfl) (fun _ => ?_)
      refine r_guard rfl rfl rfl (ncf rfl) (fun _ => ?_)
      refine r_op (o_pickF rfl rfl rfl rfl) ?_
      refine r_op oA ?_
      refine r_end ?_
      refine t_ret Tryz.func67 (.tmp rfl .nil) rfl fun E S w u hI hd => ?_
      refine post_mk hI hd ?_ trivial rfl rfl rfl <;> clear hI hd <;> (try clear ih0) <;> (try clear ih1)
      all_goals (refine scB ?_; (try (have qA := iA (by omega))); (try (have qK := kA (by omega))); (try (have qB := any_true (p := badA rs) (l := a0) (m := m) (by assumption) (by unfold badA; grind))); (try (have qC := any_true (p := badA rs) (l := a1) (m := n) (by assumption) (by unfold badA; grind))); (try (have qS := srcA_at (rs := rs) (r := (by assumption).1) (ts := (by assumption).2) (by assumption); have qD := any_true (p := srcA rs) (l := a1) (m := n) (by assumption) (by grind))); clear hs g0 g1 v0 v1; unfold depOk atomsOk; grind)
def ob_c_spec_Instantiate : Option (List Int) → List (Nat × Option Ob)
 | none => []
 | some q => [(3, some (.row none 3 true 1 encI (q)))]
def res_c_spec_Instantiate (r : Int) (ts : List Int) (b : List Int) : Option (List Int) → AV
 | none => .tup [(true, [.t none (.v (.int .i64 (0))), .t none (.v (.slice none 0 0))]), (false, [.t none (.v (.bool (false)))])]
 | some q => .tup [(true, [.t none (.v (.int .i64 (r))), .own 3]), (false, [.t none (.v (.bool (true)))])]
set_option maxHeartbeats 1000000 in
set_option maxRecDepth 10000 in
theorem c_spec_Instantiate (r : Int) (ts : List Int) (b : List Int) (hl : ts.length ≤ 1048576) (ho : ∀ x ∈ ts, okI x) (hob : ∀ x ∈ b, okI x) (mo : Option (List Int)) (hm : instV b ts = mo) : Pu Tryz.prog 18 [.agg [.t none (.v (.int .i64 (r))), .t none (.sl 1 encI (ts))], .c (.t none (.sl 1 encI (b)))] (ob_c_spec_Instantiate mo) 4 (res_c_spec_Instantiate r ts b mo) := by
 refine pu_enter Tryz.func18 rfl (Nat.le_of_ble_eq_true rfl) fun w S => ?_
 refine tsr ?_
 refine r_op (o_box 0 rfl rfl rfl rfl) ?_
 refine r_op (o_alloc 1 (zs := [.int .i64 (0), .slice none 0 0]) rfl rfl (by kernel_rfl) rfl) ?_
 refine r_op oA ?_
 refine etr ?_
 refine r_op (oF 0) ?_
 refine r_op oL ?_
 refine r_op (o_build rfl (pl := [(0, 1), (1, 1)]) (zs := [.int .i64 (0), .slice none 0 0]) (by kernel_rfl) (by kernel_rfl) rfl rfl rfl) ?_
 refine r_op (o_alloc 2 (zs := [.int .i64 (0), .slice none 0 0]) rfl rfl (by kernel_rfl) rfl) ?_
 refine r_op (oS 2) ?_
 refine r_end ?_
 refine t_seq ?_
 refine tsr ?_
 refine r_op oA ?_
 refine r_end ?_
 refine t_block ?_
 refine gt_nilb 3 (b := 2) (o := 1) (et := 3) (sz := 1) true encI rfl rfl rfl ?_
 refine t_loopL (fun (m, acc) => ⟨[(1, some (.c (.t none (.sl 1 encI (b))))), (2, some (.c (.ptr 0 0))), (4, some (.c (.ptr 1 0))), (6, some (.c (.ptr 2 0))), (7, some (.c (.t none (.v (.int .i64 ((m : Int)))))))], [(0, some (.box [.t none (.v (.int .i64 (r))), .t none (.sl 1 encI (ts))])), (1, some (.box [.t none (.v (.int .i64 (0))), .t none (.v (.slice none 0 0))])), (2, some (.box [.t none (.v (.int .i64 (r))), .own 3])), (3, some (.row none 3 true 1 encI (acc)))], 4⟩ : Nat × List Int → St) (fun (m, acc) => m ≤ ts.length ∧ instV b (ts.take m) = some acc) (fun (m, acc) => ts.length - m) (0, []) ⟨⟨rfl, ⟨rfl, ⟨rfl, ⟨rfl, ⟨rfl, trivial⟩⟩⟩⟩⟩, ⟨rfl, ⟨rfl, ⟨rfl, ⟨rfl, trivial⟩⟩⟩⟩, rfl⟩ (by exact ⟨Nat.zero_le _, rfl⟩) ?_
 rintro ⟨m, acc⟩ hI ih0
 try dsimp only at hI ih0
 obtain ⟨i1, i2⟩ := hI
 refine t_seq ?_
 refine tsr ?_
 refine r_op oM ?_
 refine r_op (oF 1) ?_
 refine r_op oL ?_
 refine r_op (o_len rfl rfl rfl) ?_
 refine r_op oB ?_
 refine r_end ?_
 refine t_cond rfl (fun h1 => ?_) (fun h1 => ?_)
 ·
  have h1' := of_decide_eq_true h1
  refine t_skip ?_
  refine t_seq ?_
  refine t_block ?_
  refine tsr ?_
  refine r_op (oF 1) ?_
  refine r_op oL ?_
  refine r_op oM ?_
  obtain ⟨z2, hz3, b4⟩ := at_get (xs := ts) (n := (m : Int)) (by omega) (by omega)
  refine r_op (o_index rfl (by kernel_rfl) rfl rfl b4 hz3) ?_
  refine r_op (o_load1 rfl (by kernel_rfl) rfl rfl) ?_
  refine r_op oB ?_
  refine r_op oA ?_
  refine r_end ?_
  refine t_seq ?_
  refine tsr ?_
  refine r_op (oF 1) ?_
  refine r_op oL ?_
  refine r_op oM ?_
  refine r_op (o_index rfl (by kernel_rfl) rfl rfl b4 hz3) ?_
  refine r_op (o_load1 rfl (by kernel_rfl) rfl rfl) ?_
  refine r_op oB ?_
  refine r_end ?_
  refine t_cond rfl (fun h5 => ?_) (fun h5 => ?_)
  ·
   have h5' := of_decide_eq_true h5
   refine t_seq ?_
   refine tsr ?_
   refine r_op (oF 1) ?_
   refine r_op oL ?_
   refine r_op oM ?_
   refine r_op (o_index rfl (by kernel_rfl) rfl rfl b4 hz3) ?_
   refine r_op (o_load1 rfl (by kernel_rfl) rfl rfl) ?_
   refine r_op oM ?_
   refine r_op (o_len rfl rfl rfl) ?_
   refine r_op oB ?_
   refine r_end ?_
   refine t_cond rfl (fun h6 => ?_) (fun h6 => ?_)
   ·
    have h6' := of_decide_eq_true h6
    refine tsr ?_
    refine r_op (o_build rfl (pl := [(0, 1), (1, 1)]) (zs := [.int .i64 (0), .slice none 0 0]) (by kernel_rfl) (by kernel_rfl) rfl rfl rfl) ?_
    refine r_op (oS 2) ?_
    refine r_op oA ?_
    refine r_end ?_
    refine t_ret Tryz.func18 (.cells (n := 2) (by kernel_rfl) (by kernel_rfl) rfl rfl rfl (.tmp rfl .nil)) rfl fun E S w u hI hd => ?_
    obtain rfl : mo = none := by rw [← hm]; exact inst_none i2 (by assumption) rfl (inst_far (by assumption) (by assumption))
    refine post_mk hI hd ?_ trivial rfl rfl rfl <;> clear hI hd <;> (try clear ih0)
    all_goals (rfl)
   ·
    have h6' := of_decide_eq_false h6
    refine t_skip ?_
    refine t_region ?_
    refine r_op oM ?_
    refine r_op (oF 1) ?_
    refine r_op oL ?_
    refine r_op oM ?_
    refine r_op (o_index rfl (by kernel_rfl) rfl rfl b4 hz3) ?_
    refine r_op (o_load1 rfl (by kernel_rfl) rfl rfl) ?_
    obtain ⟨z7, hz8, b9⟩ := at_get (xs := b) (n := z2) (by omega) (by omega)
    refine r_op (o_index rfl (by kernel_rfl) rfl rfl b9 hz8) ?_
    refine r_op (o_load1 rfl (by kernel_rfl) rfl rfl) ?_
    refine r_op oA ?_
    refine r_end ?_
    refine t_seq ?_
    refine tsr ?_
    refine r_op oM ?_
    refine r_op (o_call 4 4 false (Go.Proofs.enters_of Tryz.func62 (by kernel_rfl) rfl) (c_spec_IsValidValue (z7) (by exact (hob _ (List.mem_of_getElem? (by assumption))).1) (by exact (hob _ (List.mem_of_getElem? (by assumption))).2)) rfl (.cons rfl (.c .t0) .nil) rfl rfl rfl) ?_
    refine r_op (o_not rfl rfl) ?_
    refine r_op oM ?_
    refine r_guard rfl rfl rfl (fun g10 => ?_) (fun g10 => ?_)
    ·
     have g10' := of_decide_eq_true (bnf g10)
     refine r_op (oF 1) ?_
     refine r_guard rfl rfl rfl (fun _ => ?_) (ncf g10)
     refine r_op oL ?_
     refine r_guard rfl rfl rfl (fun _ => ?_) (ncf g10)
     refine r_op oM ?_
     refine r_guard rfl rfl rfl (fun _ => ?_) (ncf g10)
     refine r_op (o_index rfl (by kernel_rfl) rfl rfl b4 hz3) ?_
     refine r_guard rfl rfl rfl (fun _ => ?_) (ncf g10)
     refine r_op (o_load1 rfl (by kernel_rfl) rfl rfl) ?_
     refine r_guard rfl rfl rfl (fun _ => ?_) (ncf g10)
     refine r_op oB ?_
     refine r_guard rfl rfl rfl (fun _ => ?_) (ncf g10)
     refine r_op oM ?_
     refine r_guard rfl rfl rfl (fun g11 => ?_) (fun g11 => ?_)
     ·
      have g11' := of_decide_eq_true g11
      refine r_op oM ?_
      refine r_guard rfl rfl rfl (fun _ => ?_) (nc g11)
      refine r_op oB ?_
      refine r_guard rfl rfl rfl (fun _ => ?_) (ncf g10)
      refine r_op (o_pickT rfl rfl g11 rfl) ?_
      refine r_op (o_pickF rfl rfl g10 rfl) ?_
      refine r_end ?_
      refine t_cond rfl (fun h12 => ?_) (fun h12 => ?_)
      ·
       have h12' := of_decide_eq_true h12
       refine tsr ?_
       refine r_op (o_build rfl (pl := [(0, 1), (1, 1)]) (zs := [.int .i64 (0), .slice none 0 0]) (by kernel_rfl) (by kernel_rfl) rfl rfl rfl) ?_
       refine r_op (oS 2) ?_
       refine r_op oA ?_
       refine r_end ?_
       refine t_ret Tryz.func18 (.cells (n := 2) (by kernel_rfl) (by kernel_rfl) rfl rfl rfl (.tmp rfl .nil)) rfl fun E S w u hI hd => ?_
       obtain rfl : mo = none := by exfalso; have e := ho _ (List.mem_of_getElem? (l := ts) (by assumption)); unfold okI at e; simp only [IntKind.wrap_i64] at *; omega
       refine post_mk hI hd ?_ trivial rfl rfl rfl <;> clear hI hd <;> (try clear ih0)
       all_goals (rfl)
      ·
       have h12' := of_decide_eq_false h12
       refine t_skip ?_
       refine t_region ?_
       refine r_op (oF 1) ?_
       refine r_op oL ?_
       refine r_op oM ?_
       refine r_op (o_litS 4 (e := 3) (sz := 1) (zs := [.int .i64 (0)]) rfl rfl (by kernel_rfl) rfl rfl rfl rfl rfl) ?_
       refine r_op (o_append 3 (e := 3) (sz := 1) (by' := 8) (z7) rfl (by kernel_rfl) rfl rfl rfl rfl rfl rfl (.cons .sc .nil) rfl (by omega) (by omega)) ?_
       refine r_op (oF 1) ?_
       refine r_op (oS 1) ?_
       refine r_end ?_
       refine t_endblock ?_
       refine t_region ?_
       refine r_op oM ?_
       refine r_op oB ?_
       refine r_op oA ?_
       refine r_end ?_
       refine t_le ?_ (ih0 (m + 1, acc ++ [z7]) (by (try dsimp only); omega) (by (try dsimp only); exact ⟨by omega, by exfalso; omega⟩))
       exact ⟨⟨rfl, ⟨rfl, ⟨rfl, ⟨rfl, ⟨(eqI (wrS (by omega))), trivial⟩⟩⟩⟩⟩, ⟨rfl, ⟨rfl, ⟨rfl, ⟨rfl, trivial⟩⟩⟩⟩, rfl⟩
     ·
      have g11' := of_decide_eq_false g11
      refine r_guard rfl rfl rfl (ncf g11) (fun _ => ?_)
      refine r_guard rfl rfl rfl (fun _ => ?_) (ncf g10)
      refine r_op (o_pickF rfl rfl g11 rfl) ?_
      refine r_op (o_pickF rfl rfl g10 rfl) ?_
      refine r_end ?_
      refine t_cond rfl (ncf rfl) (fun _ => ?_)
      refine t_skip ?_
      refine t_region ?_
      refine r_op (oF 1) ?_
      refine r_op oL ?_
      refine r_op oM ?_
      refine r_op (o_litS 4 (e := 3) (sz := 1) (zs := [.int .i64 (0)]) rfl rfl (by kernel_rfl) rfl rfl rfl rfl rfl) ?_
      refine r_op (o_append 3 (e := 3) (sz := 1) (by' := 8) (z7) rfl (by kernel_rfl) rfl rfl rfl rfl rfl rfl (.cons .sc .nil) rfl (by (have := instV_len i2; simp at this; omega)) (by (have := instV_len i2; simp at this; omega))) ?_
      refine r_op (oF 1) ?_
      refine r_op (oS 1) ?_
      refine r_end ?_
      refine t_endblock ?_
      refine t_region ?_
      refine r_op oM ?_
      refine r_op oB ?_
      refine r_op oA ?_
      refine r_end ?_
      refine t_le ?_ (ih0 (m + 1, acc ++ [z7]) (by (try dsimp only); omega) (by (try dsimp only); exact ⟨by omega, inst_step i2 (by assumption) rfl (inst_good (by assumption) (by assumption) (by assumption))⟩))
      exact ⟨⟨rfl, ⟨rfl, ⟨rfl, ⟨rfl, ⟨(eqI (wrS (by omega))), trivial⟩⟩⟩⟩⟩, ⟨rfl, ⟨rfl, ⟨rfl, ⟨rfl, trivial⟩⟩⟩⟩, rfl⟩
    ·
     have g10' := of_decide_eq_false (bnt g10)
     refine r_guard rfl rfl rfl (nc g10) (fun _ => ?_)
     refine r_guard rfl rfl rfl (nc g10) (fun _ => ?_)
     refine r_guard rfl rfl rfl (nc g10) (fun _ => ?_)
     refine r_guard rfl rfl rfl (nc g10) (fun _ => ?_)
     refine r_guard rfl rfl rfl (nc g10) (fun _ => ?_)
     refine r_guard rfl rfl rfl (nc g10) (fun _ => ?_)
     refine r_skip rfl rfl rfl ?_
     refine r_skip rfl rfl rfl ?_
     refine r_guard rfl rfl rfl (nc g10) (fun _ => ?_)
     refine r_op (o_pickT rfl rfl g10 rfl) ?_
     refine r_end ?_
     refine t_cond rfl (fun _ => ?_) (nc rfl)
     refine tsr ?_
     refine r_op (o_build rfl (pl := [(0, 1), (1, 1)]) (zs := [.int .i64 (0), .slice none 0 0]) (by kernel_rfl) (by kernel_rfl) rfl rfl rfl) ?_
     refine r_op (oS 2) ?_
     refine r_op oA ?_
     refine r_end ?_
     refine t_ret Tryz.func18 (.cells (n := 2) (by kernel_rfl) (by kernel_rfl) rfl rfl rfl (.tmp rfl .nil)) rfl fun E S w u hI hd => ?_
     obtain rfl : mo = none := by rw [← hm]; exact inst_none i2 (by assumption) rfl (inst_bad (by assumption) (by assumption) (by assumption))
     refine post_mk hI hd ?_ trivial rfl rfl rfl <;> clear hI hd <;> (try clear ih0)
     all_goals (rfl)
  ·
   have h5' := of_decide_eq_false h5
   refine t_skip ?_
   refine t_seq ?_
   refine tsr ?_
   refine r_op oM ?_
   refine r_op (o_call 4 4 false (Go.Proofs.enters_of Tryz.func62 (by kernel_rfl) rfl) (c_spec_IsValidValue (IntKind.i64.wrap ((-1) - z2)) (by exact wr_lo _) (by exact wr_hi _)) rfl (.cons rfl (.c .t0) .nil) rfl rfl rfl) ?_
   refine r_op (o_not rfl rfl) ?_
   refine r_op oM ?_
   refine r_guard rfl rfl rfl (fun g13 => ?_) (fun g13 => ?_)
   ·
    have g13' := of_decide_eq_true (bnf g13)
    refine r_op (oF 1) ?_
    refine r_guard rfl rfl rfl (fun _ => ?_) (ncf g13)
    refine r_op oL ?_
    refine r_guard rfl rfl rfl (fun _ => ?_) (ncf g13)
    refine r_op oM ?_
    refine r_guard rfl rfl rfl (fun _ => ?_) (ncf g13)
    refine r_op (o_index rfl (by kernel_rfl) rfl rfl b4 hz3) ?_
    refine r_guard rfl rfl rfl (fun _ => ?_) (ncf g13)
    refine r_op (o_load1 rfl (by kernel_rfl) rfl rfl) ?_
    refine r_guard rfl rfl rfl (fun _ => ?_) (ncf g13)
    refine r_op oB ?_
    refine r_guard rfl rfl rfl (fun _ => ?_) (ncf g13)
    refine r_op oM ?_
    refine r_guard rfl rfl rfl (fun g14 => ?_) (fun g14 => ?_)
    ·
     have g14' := of_decide_eq_true g14
     refine r_op oM ?_
     refine r_guard rfl rfl rfl (fun _ => ?_) (nc g14)
     refine r_op oB ?_
     refine r_guard rfl rfl rfl (fun _ => ?_) (ncf g13)
     refine r_op (o_pickT rfl rfl g14 rfl) ?_
     refine r_op (o_pickF rfl rfl g13 rfl) ?_
     refine r_end ?_
     refine t_cond rfl (fun h15 => ?_) (fun h15 => ?_)
     ·
      have h15' := of_decide_eq_true h15
      refine tsr ?_
      refine r_op (o_build rfl (pl := [(0, 1), (1, 1)]) (zs := [.int .i64 (0), .slice none 0 0]) (by kernel_rfl) (by kernel_rfl) rfl rfl rfl) ?_
      refine r_op (oS 2) ?_
      refine r_op oA ?_
      refine r_end ?_
      refine t_ret Tryz.func18 (.cells (n := 2) (by kernel_rfl) (by kernel_rfl) rfl rfl rfl (.tmp rfl .nil)) rfl fun E S w u hI hd => ?_
      obtain rfl : mo = none := by exfalso; have e := ho _ (List.mem_of_getElem? (l := ts) (by assumption)); unfold okI at e; simp only [IntKind.wrap_i64] at *; omega
      refine post_mk hI hd ?_ trivial rfl rfl rfl <;> clear hI hd <;> (try clear ih0)
      all_goals (rfl)
     ·
      have h15' := of_decide_eq_false h15
      refine t_skip ?_
      refine t_region ?_
      refine r_op (oF 1) ?_
      refine r_op oL ?_
      refine r_op oM ?_
      refine r_op (o_litS 4 (e := 3) (sz := 1) (zs := [.int .i64 (0)]) rfl rfl (by kernel_rfl) rfl rfl rfl rfl rfl) ?_
      refine r_op (o_append 3 (e := 3) (sz := 1) (by' := 8) (IntKind.i64.wrap ((-1) - z2)) rfl (by kernel_rfl) rfl rfl rfl rfl rfl rfl (.cons .sc .nil) rfl (by (have := instV_len i2; simp at this; omega)) (by (have := instV_len i2; simp at this; omega))) ?_
      refine r_op (oF 1) ?_
      refine r_op (oS 1) ?_
      refine r_end ?_
      refine t_endblock ?_
      refine t_region ?_
      refine r_op oM ?_
      refine r_op oB ?_
      refine r_op oA ?_
      refine r_end ?_
      refine t_le ?_ (ih0 (m + 1, acc ++ [IntKind.i64.wrap ((-1) - z2)]) (by (try dsimp only); omega) (by (try dsimp only); exact ⟨by omega, inst_step i2 (by assumption) rfl (inst_goodn (by omega) (ho _ (List.mem_of_getElem? (by assumption))).1 (by assumption))⟩))
      exact ⟨⟨rfl, ⟨rfl, ⟨rfl, ⟨rfl, ⟨(eqI (wrS (by omega))), trivial⟩⟩⟩⟩⟩, ⟨rfl, ⟨rfl, ⟨rfl, ⟨rfl, trivial⟩⟩⟩⟩, rfl⟩
    ·
     have g14' := of_decide_eq_false g14
     refine r_guard rfl rfl rfl (ncf g14) (fun _ => ?_)
     refine r_guard rfl rfl rfl (fun _ => ?_) (ncf g13)
     refine r_op (o_pickF rfl rfl g14 rfl) ?_
     refine r_op (o_pickF rfl rfl g13 rfl) ?_
     refine r_end ?_
     refine t_cond rfl (ncf rfl) (fun _ => ?_)
     refine t_skip ?_
     refine t_region ?_
     refine r_op (oF 1) ?_
     refine r_op oL ?_
     refine r_op oM ?_
     refine r_op (o_litS 4 (e := 3) (sz := 1) (zs := [.int .i64 (0)]) rfl rfl (by kernel_rfl) rfl rfl rfl rfl rfl) ?_
     refine r_op (o_append 3 (e := 3) (sz := 1) (by' := 8) (IntKind.i64.wrap ((-1) - z2)) rfl (by kernel_rfl) rfl rfl rfl rfl rfl rfl (.cons .sc .nil) rfl (by omega) (by omega)) ?_
     refine r_op (oF 1) ?_
     refine r_op (oS 1) ?_
     refine r_end ?_
     refine t_endblock ?_
     refine t_region ?_
     refine r_op oM ?_
     refine r_op oB ?_
     refine r_op oA ?_
     refine r_end ?_
     refine t_le ?_ (ih0 (m + 1, acc ++ [IntKind.i64.wrap ((-1) - z2)]) (by (try dsimp only); omega) (by (try dsimp only); exact ⟨by omega, by exfalso; omega⟩))
     exact ⟨⟨rfl, ⟨rfl, ⟨rfl, ⟨rfl, ⟨(eqI (wrS (by omega))), trivial⟩⟩⟩⟩⟩, ⟨rfl, ⟨rfl, ⟨rfl, ⟨rfl, trivial⟩⟩⟩⟩, rfl⟩
   ·
    have g13' := of_decide_eq_false (bnt g13)
    refine r_guard rfl rfl rfl (nc g13) (fun _ => ?_)
    refine r_guard rfl rfl rfl (nc g13) (fun _ => ?_)
    refine r_guard rfl rfl rfl (nc g13) (fun _ => ?_)
    refine r_guard rfl rfl rfl (nc g13) (fun _ => ?_)
    refine r_guard rfl rfl rfl (nc g13) (fun _ => ?_)
    refine r_guard rfl rfl rfl (nc g13) (fun _ => ?_)
    refine r_skip rfl rfl rfl ?_
    refine r_skip rfl rfl rfl ?_
    refine r_guard rfl rfl rfl (nc g13) (fun _ => ?_)
    refine r_op (o_pickT rfl rfl g13 rfl) ?_
    refine r_end ?_
    refine t_cond rfl (fun _ => ?_) (nc rfl)
    refine tsr ?_
    refine r_op (o_build rfl (pl := [(0, 1), (1, 1)]) (zs := [.int .i64 (0), .slice none 0 0]) (by kernel_rfl) (by kernel_rfl) rfl rfl rfl) ?_
    refine r_op (oS 2) ?_
    refine r_op oA ?_
    refine r_end ?_
    refine t_ret Tryz.func18 (.cells (n := 2) (by kernel_rfl) (by kernel_rfl) rfl rfl rfl (.tmp rfl .nil)) rfl fun E S w u hI hd => ?_
    obtain rfl : mo = none := by rw [← hm]; exact inst_none i2 (by assumption) rfl (inst_badn (by omega) (ho _ (List.mem_of_getElem? (by assumption))).1 (by assumption))
    refine post_mk hI hd ?_ trivial rfl rfl rfl <;> clear hI hd <;> (try clear ih0)
    all_goals (rfl)
 ·
  have h1' := of_decide_eq_false h1
  refine t_exit rfl ?_
  refine tsr ?_
  refine r_op (oC 2) ?_
  refine r_op (oS 2) ?_
  refine r_op oA ?_
  refine r_end ?_
  refine t_ret Tryz.func18 (.cells (n := 2) (by kernel_rfl) (by kernel_rfl) rfl rfl rfl (.tmp rfl .nil)) rfl fun E S w u hI hd => ?_
  obtain rfl : mo = some acc := by rw [← hm]; rw [List.take_of_length_le (by omega)] at i2; exact i2
  refine post_mk hI hd ?_ ⟨eqR ?_, trivial⟩ rfl rfl rfl <;> clear hI hd <;> (try clear ih0)
  all_goals (rfl)
set_option maxHeartbeats 1000000 in
set_option maxRecDepth 10000 in
theorem c_spec_IsTrigger (rs : Rels) (fs : Atoms) (a0 : List (Int × (List (Int)))) (a1 : List (Int × (List (Int)))) (a2 : Bool) (a3 : Int) (a4 : Int) (b : List Int) (hrs : rs.length ≤ 4611686018427387904) (hfs : szS (fun (x : Int × (List (Int))) => (x.2).length) fs ≤ 1048576) (ho : ∀ z ∈ fs, ∀ x ∈ z.2, okI x) (hs : szS (fun (x : Int × (List (Int))) => (x.2).length) a0 + szS (fun (x : Int × (List (Int))) => (x.2).length) a1 ≤ 1048576) (hoa : ∀ z ∈ a0, ∀ x ∈ z.2, okI x) (hob : ∀ x ∈ b, okI x) (hbl : b.length ≤ 1048576) : Pu Tryz.prog 26 [.agg [.t none (.sl 3 (enS3 encS encI encB) (rs)), .t none (.sl 2 (enS2 encI (enSl 1 encI)) (fs))], .agg [.t none (.sl 2 (enS2 encI (enSl 1 encI)) (a0)), .t none (.sl 2 (enS2 encI (enSl 1 encI)) (a1)), .t none (.v (.bool (a2))), .t none (.v (.int .i64 (a3))), .t none (.v (.int .i64 (a4)))], .c (.t none (.sl 1 encI (b)))] [] 0 (.c (.t none (.v (.bool (trgOk rs fs a0 a1 a2 a3 a4 b))))) := by
 refine pu_enter Tryz.func26 rfl (Nat.le_of_ble_eq_true rfl) fun w S => ?_
 have g0 := sz_len (f := (fun (x : Int × (List (Int))) => (x.2).length)) (l := a0); have v0 := setI_len (varsL a0); have v1 := varsL_size a0
 refine tsr ?_
 refine r_op (o_box 0 rfl rfl rfl rfl) ?_
 refine r_op (o_box 1 rfl rfl rfl rfl) ?_
 refine r_op oA ?_
 refine r_end ?_
 refine t_seq ?_
 refine tsr ?_
 refine r_op (oC 2) ?_
 refine r_op (o_call 2 2 false (Go.Proofs.enters_of Tryz.func34 (by kernel_rfl) rfl) (c_spec_IsValidInstance (rs) (fs) (by omega) (by omega) (by omega)) rfl (.cons rfl (.agg (.cons .t0 (.cons .t0 .nil))) .nil) rfl rfl rfl) ?_
 refine r_op (o_not rfl rfl) ?_
 refine r_op oM ?_
 refine r_guard rfl rfl rfl (fun g1 => ?_) (fun g1 => ?_)
 ·
  have g1' := (bnf g1)
  refine r_op (oF 0) ?_
  refine r_guard rfl rfl rfl (fun _ => ?_) (ncf g1)
  refine r_op oL ?_
  refine r_guard rfl rfl rfl (fun _ => ?_) (ncf g1)
  refine r_op (oC 5) ?_
  refine r_guard rfl rfl rfl (fun _ => ?_) (ncf g1)
  refine r_op (o_call 2 2 false (Go.Proofs.enters_of Tryz.func67 (by kernel_rfl) rfl) (c_spec_IsValidDependency (rs) (a0) (a1) (a2) (a3) (a4) (by omega) (by omega)) rfl (.cons rfl (.c .t0) (.cons rfl (.agg (.cons .t0 (.cons .t0 (.cons .t0 (.cons .t0 (.cons .t0 .nil)))))) .nil)) rfl rfl rfl) ?_
  refine r_guard rfl rfl rfl (fun _ => ?_) (ncf g1)
  refine r_op (o_not rfl rfl) ?_
  refine r_op (o_pickF rfl rfl g1 rfl) ?_
  refine r_op oM ?_
  refine r_guard rfl rfl rfl (fun g2 => ?_) (fun g2 => ?_)
  ·
   have g2' := (bnf g2)
   refine r_op oM ?_
   refine r_guard rfl rfl rfl (fun _ => ?_) (ncf g2)
   refine r_op (o_len rfl rfl rfl) ?_
   refine r_guard rfl rfl rfl (fun _ => ?_) (ncf g2)
   refine r_op oB ?_
   refine r_op (o_pickF rfl rfl g2 rfl) ?_
   refine r_end ?_
   refine t_cond rfl (fun h3 => ?_) (fun h3 => ?_)
   ·
    have h3' := of_decide_eq_true h3
    refine tsr ?_
    refine r_op oA ?_
    refine r_end ?_
    refine t_ret Tryz.func26 (.tmp rfl .nil) rfl fun E S w u hI hd => ?_
    refine post_mk hI hd ?_ trivial rfl rfl rfl <;> clear hI hd <;> (try clear ih0) <;> (try clear ih1)
    all_goals (refine scB ?_; (unfold trgOk; clear hrs hfs ho hs hoa hob g0 v0 v1; grind))
   ·
    have h3' := of_decide_eq_false h3
    refine t_skip ?_
    refine tsr ?_
    refine r_op (oF 0) ?_
    refine r_op oL ?_
    refine r_op (o_call 2 3 false (Go.Proofs.enters_of Tryz.func68 (by kernel_rfl) rfl) (c_spec_Variables (a0) (by omega)) rfl (.cons rfl (.c .t0) .nil) rfl rfl rfl) ?_
    refine r_op oA ?_
    refine r_end ?_
    refine t_seq ?_
    refine tsr ?_
    refine r_op oA ?_
    refine r_end ?_
    refine t_block ?_
    refine t_loopL (fun m => ⟨[(2, some (.c (.t none (.sl 1 encI (b))))), (3, some (.c (.ptr 0 0))), (4, some (.c (.ptr 1 0))), (7, some (.c (.own 2))), (8, some (.c (.t none (.v (.int .i64 ((m : Int)))))))], [(0, some (.box [.t none (.sl 3 (enS3 encS encI encB) (rs)), .t none (.sl 2 (enS2 encI (enSl 1 encI)) (fs))])), (1, some (.box [.t none (.sl 2 (enS2 encI (enSl 1 encI)) (a0)), .t none (.sl 2 (enS2 encI (enSl 1 encI)) (a1)), .t none (.v (.bool (a2))), .t none (.v (.int .i64 (a3))), .t none (.v (.int .i64 (a4)))])), (2, some (.row none 3 true 1 encI (setI (varsL (a0)))))], 3⟩ : Nat → St) (fun m => m ≤ b.length ∧ ∀ j, j < m → varStep (setI (varsL a0)) b j = true) (fun m => b.length - m) 0 ⟨⟨rfl, ⟨rfl, ⟨rfl, ⟨rfl, ⟨rfl, trivial⟩⟩⟩⟩⟩, ⟨rfl, ⟨rfl, ⟨rfl, trivial⟩⟩⟩, rfl⟩ (by exact ⟨Nat.zero_le _, fun j h => by omega⟩) ?_
    rintro m hI ih0
    try dsimp only at hI ih0
    obtain ⟨i1, i2⟩ := hI
    refine t_seq ?_
    refine tsr ?_
    refine r_op oM ?_
    refine r_op oM ?_
    refine r_op (o_len rfl rfl rfl) ?_
    refine r_op oB ?_
    refine r_end ?_
    refine t_cond rfl (fun h4 => ?_) (fun h4 => ?_)
    ·
     have h4' := of_decide_eq_true h4
     refine t_skip ?_
     refine t_seq ?_
     refine t_block ?_
     refine t_seq ?_
     refine t_draw (fun _ => true) (by kernel_rfl) ?_
     refine dT 0 rfl pM ?_
     refine dT 1 rfl pM ?_
     refine dT 3 rfl pM ?_
     refine dT 4 rfl pM ?_
     obtain ⟨z5, hz6, b7⟩ := at_get (xs := b) (n := (m : Int)) (by omega) (by omega)
     refine dT 5 rfl (p_index (by kernel_rfl) rfl rfl b7 hz6) ?_
     refine dT 6 rfl (p_load1 (by kernel_rfl) rfl rfl) ?_
     refine dO 2 rfl (o_call 3 3 false (Go.Proofs.enters_of Tryz.func69 (by kernel_rfl) rfl) (c_spec_l4Has (setI (varsL (a0))) ((m : Int)) (by omega)) rfl (.cons rfl (.c (.own rfl)) (.cons rfl (.c .t0) .nil)) rfl rfl rfl) ?_
     refine dO 7 rfl (o_call 3 3 false (Go.Proofs.enters_of Tryz.func70 (by kernel_rfl) rfl) (c_spec_l11None ) rfl .nil rfl rfl rfl) ?_
     refine dT 8 rfl pB ?_
     refine dT 9 rfl (p_eqB Tryz.underlying4 rfl rfl) ?_
     refine d_end (by kernel_rfl) ?_
     refine t_cond rfl (fun h8 => ?_) (fun h8 => ?_)
     ·
      have h8' := h8
      try simp only [decide_eq_true_eq, decide_eq_false_iff_not, Bool.not_eq_true', Bool.not_eq_false', Bool.not_false, Bool.not_true] at h8'
      refine tsr ?_
      refine r_op oA ?_
      refine r_end ?_
      refine t_ret Tryz.func26 (.tmp rfl .nil) rfl fun E S w u hI hd => ?_
      refine post_mk hI hd ?_ trivial rfl rfl rfl <;> clear hI hd <;> (try clear ih0) <;> (try clear ih1)
      all_goals (refine scB ?_; ((have e : varsOk (setI (varsL a0)) b = false := varsOk_not (m := m) (by omega) (by rw [varStep_at (V := setI (varsL a0)) (m := m) hz6]; (exact vs_bad2 (by assumption)))); (unfold trgOk; rw [e]; simp; done)))
     ·
      have h8' := h8
      try simp only [decide_eq_true_eq, decide_eq_false_iff_not, Bool.not_eq_true', Bool.not_eq_false', Bool.not_false, Bool.not_true] at h8'
      refine t_skip ?_
      refine t_endblock ?_
      refine t_region ?_
      refine r_op oM ?_
      refine r_op oB ?_
      refine r_op oA ?_
      refine r_end ?_
      refine t_le ?_ (ih0 (m + 1) (by (try dsimp only); omega) (by (try dsimp only); exact ⟨by omega, step_all i2 (by rw [varStep_at (V := setI (varsL a0)) (m := m) hz6]; (exact vs_ok2 (by assumption)))⟩))
      exact ⟨⟨rfl, ⟨rfl, ⟨rfl, ⟨rfl, ⟨(eqI (wr64 (by omega) (by omega))), trivial⟩⟩⟩⟩⟩, ⟨rfl, ⟨rfl, ⟨rfl, trivial⟩⟩⟩, rfl⟩
    ·
     have h4' := of_decide_eq_false h4
     refine t_exit rfl ?_
     refine t_seq ?_
     refine tsr ?_
     refine r_op oA ?_
     refine r_end ?_
     refine t_block ?_
     refine t_loopL (fun n => ⟨[(2, some (.c (.t none (.sl 1 encI (b))))), (3, some (.c (.ptr 0 0))), (4, some (.c (.ptr 1 0))), (9, some (.c (.t none (.v (.int .i64 ((n : Int)))))))], [(0, some (.box [.t none (.sl 3 (enS3 encS encI encB) (rs)), .t none (.sl 2 (enS2 encI (enSl 1 encI)) (fs))])), (1, some (.box [.t none (.sl 2 (enS2 encI (enSl 1 encI)) (a0)), .t none (.sl 2 (enS2 encI (enSl 1 encI)) (a1)), .t none (.v (.bool (a2))), .t none (.v (.int .i64 (a3))), .t none (.v (.int .i64 (a4)))])), (2, some (.row none 3 true 1 encI (setI (varsL (a0)))))], 3⟩ : Nat → St) (fun n => n ≤ a0.length ∧ ∀ j z, j < n → a0[j]? = some z → trgStep fs b z = true) (fun n => a0.length - n) 0 ⟨⟨rfl, ⟨rfl, ⟨rfl, ⟨rfl, trivial⟩⟩⟩⟩, ⟨rfl, ⟨rfl, ⟨rfl, trivial⟩⟩⟩, rfl⟩ (by exact ⟨Nat.zero_le _, fun j z h => by omega⟩) ?_
     rintro n hI ih1
     try dsimp only at hI ih1
     obtain ⟨k1, k2⟩ := hI
     refine t_seq ?_
     refine tsr ?_
     refine r_op oM ?_
     refine r_op (oF 0) ?_
     refine r_op oL ?_
     refine r_op (o_len rfl rfl rfl) ?_
     refine r_op oB ?_
     refine r_end ?_
     refine t_cond rfl (fun h9 => ?_) (fun h9 => ?_)
     ·
      have h9' := of_decide_eq_true h9
      refine t_skip ?_
      refine t_seq ?_
      refine t_block ?_
      refine tsr ?_
      refine r_op (oF 0) ?_
      refine r_op oL ?_
      refine r_op oM ?_
      obtain ⟨z10, hz11, b12⟩ := at_get (xs := a0) (n := (n : Int)) (by omega) (by omega)
      refine r_op (o_index rfl (by kernel_rfl) rfl rfl b12 hz11) ?_
      refine r_op (o_loadA rfl (n := 2) (by kernel_rfl) (by kernel_rfl) rfl rfl) ?_
      refine r_op oM ?_
      rcases hm13 : instV (b) (z10.2) with _ | q15
      ·
       refine r_op (o_call 3 7 false (Go.Proofs.enters_of Tryz.func18 (by kernel_rfl) rfl) (c_spec_Instantiate (z10.1) (z10.2) (b) (by (have e1 := sz_at (f := (fun (x : Int × (List (Int))) => (x.2).length)) (l := a0) (m := n) (by assumption); (try dsimp only at e1); omega)) (by exact hoa _ (List.mem_of_getElem? (by assumption))) (by omega) _ hm13) rfl (.cons rfl (.agg (.cons .t0 (.cons .t0 .nil))) (.cons rfl (.c .t0) .nil)) rfl rfl rfl) ?_
       refine r_op oM ?_
       refine r_op (o_extract rfl rfl rfl rfl) ?_
       refine r_op (o_extract rfl rfl rfl rfl) ?_
       refine r_op (o_alloc 7 (zs := [.int .i64 (0), .slice none 0 0]) rfl rfl (by kernel_rfl) rfl) ?_
       refine r_op (oS 2) ?_
       refine r_op oA ?_
       refine etr ?_
       refine r_op oM ?_
       refine r_op (o_not rfl rfl) ?_
       refine r_op oM ?_
       refine r_guard rfl rfl rfl (nc rfl) (fun _ => ?_)
       refine r_guard rfl rfl rfl (nc rfl) (fun _ => ?_)
       refine r_guard rfl rfl rfl (nc rfl) (fun _ => ?_)
       refine r_guard rfl rfl rfl (nc rfl) (fun _ => ?_)
       refine r_op (o_pickT rfl rfl rfl rfl) ?_
       refine r_end ?_
       refine t_cond rfl (fun _ => ?_) (nc rfl)
       refine tsr ?_
       refine r_op oA ?_
       refine r_end ?_
       refine t_ret Tryz.func26 (.tmp rfl .nil) rfl fun E S w u hI hd => ?_
       refine post_mk hI hd ?_ trivial rfl rfl rfl <;> clear hI hd <;> (try clear ih0) <;> (try clear ih1)
       all_goals (refine scB ?_; ((have e : a0.all (trgStep fs b) = false := all_not hz11 (by exact trg_none (by assumption))); (unfold trgOk; rw [e]; simp; done)))
      ·
       refine r_op (o_call 3 7 false (Go.Proofs.enters_of Tryz.func18 (by kernel_rfl) rfl) (c_spec_Instantiate (z10.1) (z10.2) (b) (by (have e1 := sz_at (f := (fun (x : Int × (List (Int))) => (x.2).length)) (l := a0) (m := n) (by assumption); (try dsimp only at e1); omega)) (by exact hoa _ (List.mem_of_getElem? (by assumption))) (by omega) _ hm13) rfl (.cons rfl (.agg (.cons .t0 (.cons .t0 .nil))) (.cons rfl (.c .t0) .nil)) rfl rfl rfl) ?_
       refine r_op oM ?_
       refine r_op (o_extract rfl rfl rfl rfl) ?_
       refine r_op (o_extract rfl rfl rfl rfl) ?_
       refine r_op (o_alloc 7 (zs := [.int .i64 (0), .slice none 0 0]) rfl rfl (by kernel_rfl) rfl) ?_
       refine r_op (oS 2) ?_
       refine r_op oA ?_
       refine etr ?_
       refine r_op oM ?_
       refine r_op (o_not rfl rfl) ?_
       refine r_op oM ?_
       refine r_guard rfl rfl rfl (fun _ => ?_) (ncf rfl)
       refine r_op (oC 2) ?_
       refine r_guard rfl rfl rfl (fun _ => ?_) (ncf rfl)
       refine r_op (oC 2) ?_
       refine r_guard rfl rfl rfl (fun _ => ?_) (ncf rfl)
       refine r_op (o_call 8 8 false (Go.Proofs.enters_of Tryz.func71 (by kernel_rfl) rfl) (c_spec_l5Place (rs) (fs) ((z10.1)) ((q15)) (by omega) (by (have e5 := instV_len (by assumption); have e1 := sz_at (f := (fun (x : Int × (List (Int))) => (x.2).length)) (l := a0) (m := n) (by assumption); (try dsimp only at e1); omega))) rfl (.cons rfl (.agg (.cons .t0 (.cons .t0 .nil))) (.cons rfl (.agg (.cons .t0 (.cons (.own rfl) .nil))) .nil)) rfl rfl rfl) ?_
       refine r_guard rfl rfl rfl (fun _ => ?_) (ncf rfl)
       refine r_op oB ?_
       refine r_op (o_pickF rfl rfl rfl rfl) ?_
       refine r_end ?_
       refine t_cond rfl (fun h16 => ?_) (fun h16 => ?_)
       ·
        have h16' := of_decide_eq_true h16
        refine tsr ?_
        refine r_op oA ?_
        refine r_end ?_
        refine t_ret Tryz.func26 (.tmp rfl .nil) rfl fun E S w u hI hd => ?_
        refine post_mk hI hd ?_ trivial rfl rfl rfl <;> clear hI hd <;> (try clear ih0) <;> (try clear ih1)
        all_goals (refine scB ?_; ((have e : a0.all (trgStep fs b) = false := all_not hz11 (by (rw [trg_some (by assumption)]; unfold hasF; rw [← idx_any]; exact decide_eq_false (by omega)))); (unfold trgOk; rw [e]; simp; done)))
       ·
        have h16' := of_decide_eq_false h16
        refine t_skip ?_
        refine t_endblock ?_
        refine t_region ?_
        refine r_op oM ?_
        refine r_op oB ?_
        refine r_op oA ?_
        refine r_end ?_
        refine t_le ?_ (ih1 (n + 1) (by (try dsimp only); omega) (by (try dsimp only); exact ⟨by omega, yes_step k2 hz11 rfl (by rw [trg_some (by assumption)]; unfold hasF; rw [← idx_any]; exact decide_eq_true (by omega))⟩))
        exact ⟨⟨rfl, ⟨rfl, ⟨rfl, ⟨(eqI (wr64 (by omega) (by omega))), trivial⟩⟩⟩⟩, ⟨rfl, ⟨rfl, ⟨rfl, trivial⟩⟩⟩, rfl⟩
     ·
      have h9' := of_decide_eq_false h9
      refine t_exit rfl ?_
      refine tsr ?_
      refine r_op oA ?_
      refine r_end ?_
      refine t_ret Tryz.func26 (.tmp rfl .nil) rfl fun E S w u hI hd => ?_
      refine post_mk hI hd ?_ trivial rfl rfl rfl <;> clear hI hd <;> (try clear ih0) <;> (try clear ih1)
      all_goals (refine scB ?_; (unfold trgOk; rw [varsOk_end i2 (by omega), all_yes k2 (by omega)]; clear hrs hfs ho hs hoa hob g0 v0 v1; grind))
  ·
   have g2' := (bnt g2)
   refine r_guard rfl rfl rfl (nc g2) (fun _ => ?_)
   refine r_guard rfl rfl rfl (nc g2) (fun _ => ?_)
   refine r_op (o_pickT rfl rfl g2 rfl) ?_
   refine r_end ?_
   refine t_cond rfl (fun _ => ?_) (nc rfl)
   refine tsr ?_
   refine r_op oA ?_
   refine r_end ?_
   refine t_ret Tryz.func26 (.tmp rfl .nil) rfl fun E S w u hI hd => ?_
   refine post_mk hI hd ?_ trivial rfl rfl rfl <;> clear hI hd <;> (try clear ih0) <;> (try clear ih1)
   all_goals (refine scB ?_; (unfold trgOk; clear hrs hfs ho hs hoa hob g0 v0 v1; grind))
 ·
  have g1' := (bnt g1)
  refine r_guard rfl rfl rfl (nc g1) (fun _ => ?_)
  refine r_guard rfl rfl rfl (nc g1) (fun _ => ?_)
  refine r_guard rfl rfl rfl (nc g1) (fun _ => ?_)
  refine r_guard rfl rfl rfl (nc g1) (fun _ => ?_)
  refine r_op (o_pickT rfl rfl g1 rfl) ?_
  refine r_op oM ?_
  refine r_guard rfl rfl rfl (nc rfl) (fun _ => ?_)
  refine r_guard rfl rfl rfl (nc rfl) (fun _ => ?_)
  refine r_guard rfl rfl rfl (nc rfl) (fun _ => ?_)
  refine r_op (o_pickT rfl rfl rfl rfl) ?_
  refine r_end ?_
  refine t_cond rfl (fun _ => ?_) (nc rfl)
  refine tsr ?_
  refine r_op oA ?_
  refine r_end ?_
  refine t_ret Tryz.func26 (.tmp rfl .nil) rfl fun E S w u hI hd => ?_
  refine post_mk hI hd ?_ trivial rfl rfl rfl <;> clear hI hd <;> (try clear ih0) <;> (try clear ih1)
  all_goals (refine scB ?_; (unfold trgOk; clear hrs hfs ho hs hoa hob g0 v0 v1; grind))
set_option maxHeartbeats 1000000 in
set_option maxRecDepth 10000 in
theorem c_spec_HasExtension (rs : Rels) (fs l : Atoms) (b : List Int) (hrs : rs.length ≤ 4611686018427387904) (hfs : szS (fun (x : Int × (List (Int))) => (x.2).length) fs ≤ 1048576) (hll : szS (fun (x : Int × (List (Int))) => (x.2).length) l ≤ 1048576) (ho : ∀ z ∈ fs, ∀ x ∈ z.2, okI x) (hbl : b.length ≤ 1048576) : Pu Tryz.prog 19 [.agg [.t none (.sl 3 (enS3 encS encI encB) (rs)), .t none (.sl 2 (enS2 encI (enSl 1 encI)) (fs))], .c (.t none (.sl 2 (enS2 encI (enSl 1 encI)) (l))), .c (.t none (.sl 1 encI (b)))] [] 0 (.c (.t none (.v (.bool (hasE rs fs l b))))) := by
 refine pu_enter Tryz.func19 rfl (Nat.le_of_ble_eq_true rfl) fun w S => ?_
 have gl := sz_len (f := (fun (x : Int × (List (Int))) => (x.2).length)) (l := l)
 refine tsr ?_
 refine r_op (o_box 0 rfl rfl rfl rfl) ?_
 refine r_op oA ?_
 refine etr ?_
 refine r_op (oC 2) ?_
 refine r_op oM ?_
 refine r_op (o_call 1 1 false (Go.Proofs.enters_of Tryz.func53 (by kernel_rfl) rfl) (c_spec_l11Ok (rs) (fs) (l) (by omega) (by omega) (by omega) (by omega)) rfl (.cons rfl (.agg (.cons .t0 (.cons .t0 .nil))) (.cons rfl (.c .t0) .nil)) rfl rfl rfl) ?_
 refine r_op oM ?_
 refine r_guard rfl rfl rfl (fun g1 => ?_) (fun g1 => ?_)
 ·
  have g1' := g1
  refine r_op oM ?_
  refine r_guard rfl rfl rfl (fun _ => ?_) (nc g1)
  refine r_op (o_len rfl rfl rfl) ?_
  refine r_guard rfl rfl rfl (fun _ => ?_) (nc g1)
  refine r_op oB ?_
  refine r_op (o_pickT rfl rfl g1 rfl) ?_
  refine r_op oM ?_
  refine r_guard rfl rfl rfl (fun g2 => ?_) (fun g2 => ?_)
  ·
   have g2' := of_decide_eq_true g2
   refine r_op (oC 2) ?_
   refine r_guard rfl rfl rfl (fun _ => ?_) (nc g2)
   refine r_op oM ?_
   refine r_guard rfl rfl rfl (fun _ => ?_) (nc g2)
   refine r_op oM ?_
   refine r_guard rfl rfl rfl (fun _ => ?_) (nc g2)
   refine r_op (o_call 1 2 false (Go.Proofs.enters_of Tryz.func54 (by kernel_rfl) rfl) (c_spec_l11Walk (rs) (fs) (l) (0) (b) (by exact (mt_pre (by assumption)).1) (by exact (mt_pre (by assumption)).2.1) (by omega) (by exact (mt_pre (by assumption)).2.2.1) (by exact (mt_pre (by assumption)).2.2.2) (by omega)) rfl (.cons rfl (.agg (.cons .t0 (.cons .t0 .nil))) (.cons rfl (.c .t0) (.cons rfl (.c .t0) (.cons rfl (.c .t0) .nil)))) rfl rfl rfl) ?_
   refine r_guard rfl rfl rfl (fun _ => ?_) (nc g2)
   refine r_op (o_leno rfl rfl rfl rfl) ?_
   refine r_guard rfl rfl rfl (fun _ => ?_) (nc g2)
   refine r_op oB ?_
   refine r_op (o_pickT rfl rfl g2 rfl) ?_
   refine r_op oA ?_
   refine r_end ?_
   refine t_ret Tryz.func19 (.tmp rfl .nil) rfl fun E S w u hI hd => ?_
   refine post_mk hI hd ?_ trivial rfl rfl rfl <;> clear hI hd
   all_goals (refine scB ?_; (try simp only [show (0 : Int).toNat = 0 from rfl, List.drop_zero] at *); clear hrs hfs hll ho gl; unfold hasE; grind)
  ·
   have g2' := of_decide_eq_false g2
   refine r_guard rfl rfl rfl (ncf g2) (fun _ => ?_)
   refine r_guard rfl rfl rfl (ncf g2) (fun _ => ?_)
   refine r_guard rfl rfl rfl (ncf g2) (fun _ => ?_)
   refine r_guard rfl rfl rfl (ncf g2) (fun _ => ?_)
   refine r_guard rfl rfl rfl (ncf g2) (fun _ => ?_)
   refine r_op (o_pickF rfl rfl g2 rfl) ?_
   refine r_op oA ?_
   refine r_end ?_
   refine t_ret Tryz.func19 (.tmp rfl .nil) rfl fun E S w u hI hd => ?_
   refine post_mk hI hd ?_ trivial rfl rfl rfl <;> clear hI hd
   all_goals (refine scB ?_; (try simp only [show (0 : Int).toNat = 0 from rfl, List.drop_zero] at *); clear hrs hfs hll ho gl; unfold hasE; grind)
 ·
  have g1' := g1
  refine r_guard rfl rfl rfl (ncf g1) (fun _ => ?_)
  refine r_guard rfl rfl rfl (ncf g1) (fun _ => ?_)
  refine r_op (o_pickF rfl rfl g1 rfl) ?_
  refine r_op oM ?_
  refine r_guard rfl rfl rfl (ncf rfl) (fun _ => ?_)
  refine r_guard rfl rfl rfl (ncf rfl) (fun _ => ?_)
  refine r_guard rfl rfl rfl (ncf rfl) (fun _ => ?_)
  refine r_guard rfl rfl rfl (ncf rfl) (fun _ => ?_)
  refine r_guard rfl rfl rfl (ncf rfl) (fun _ => ?_)
  refine r_guard rfl rfl rfl (ncf rfl) (fun _ => ?_)
  refine r_op (o_pickF rfl rfl rfl rfl) ?_
  refine r_op oA ?_
  refine r_end ?_
  refine t_ret Tryz.func19 (.tmp rfl .nil) rfl fun E S w u hI hd => ?_
  refine post_mk hI hd ?_ trivial rfl rfl rfl <;> clear hI hd
  all_goals (refine scB ?_; (try simp only [show (0 : Int).toNat = 0 from rfl, List.drop_zero] at *); clear hrs hfs hll ho gl; unfold hasE; grind)
set_option maxHeartbeats 1000000 in
set_option maxRecDepth 10000 in
theorem c_spec_IsActiveTrigger (rs : Rels) (fs : Atoms) (a0 : List (Int × (List (Int)))) (a1 : List (Int × (List (Int)))) (a2 : Bool) (a3 : Int) (a4 : Int) (b : List Int) (hrs : rs.length ≤ 4611686018427387904) (hfs : szS (fun (x : Int × (List (Int))) => (x.2).length) fs ≤ 1048576) (ho : ∀ z ∈ fs, ∀ x ∈ z.2, okI x) (hs : szS (fun (x : Int × (List (Int))) => (x.2).length) a0 + szS (fun (x : Int × (List (Int))) => (x.2).length) a1 ≤ 1048576) (hoa : ∀ z ∈ a0, ∀ x ∈ z.2, okI x) (hob : ∀ x ∈ b, okI x) (hbl : b.length ≤ 1048576) : Pu Tryz.prog 25 [.agg [.t none (.sl 3 (enS3 encS encI encB) (rs)), .t none (.sl 2 (enS2 encI (enSl 1 encI)) (fs))], .agg [.t none (.sl 2 (enS2 encI (enSl 1 encI)) (a0)), .t none (.sl 2 (enS2 encI (enSl 1 encI)) (a1)), .t none (.v (.bool (a2))), .t none (.v (.int .i64 (a3))), .t none (.v (.int .i64 (a4)))], .c (.t none (.sl 1 encI (b)))] [] 0 (.c (.t none (.v (.bool (actOk rs fs a0 a1 a2 a3 a4 b))))) := by
 refine pu_enter Tryz.func25 rfl (Nat.le_of_ble_eq_true rfl) fun w S => ?_
 have g0 := sz_len (f := (fun (x : Int × (List (Int))) => (x.2).length)) (l := a0); have v0 := setI_len (varsL a0); have v1 := varsL_size a0
 refine tsr ?_
 refine r_op (o_box 0 rfl rfl rfl rfl) ?_
 refine r_op (o_box 1 rfl rfl rfl rfl) ?_
 refine r_op oA ?_
 refine r_end ?_
 refine t_seq ?_
 refine tsr ?_
 refine r_op (oC 2) ?_
 refine r_op (oC 5) ?_
 refine r_op oM ?_
 refine r_op (o_call 2 2 false (Go.Proofs.enters_of Tryz.func26 (by kernel_rfl) rfl) (c_spec_IsTrigger (rs) (fs) (a0) (a1) (a2) (a3) (a4) (b) (by omega) (by omega) (by omega) (by omega) (by omega) (by omega) (by omega)) rfl (.cons rfl (.agg (.cons .t0 (.cons .t0 .nil))) (.cons rfl (.agg (.cons .t0 (.cons .t0 (.cons .t0 (.cons .t0 (.cons .t0 .nil)))))) (.cons rfl (.c .t0) .nil))) rfl rfl rfl) ?_
 refine r_op (o_not rfl rfl) ?_
 refine r_end ?_
 refine t_cond rfl (fun h1 => ?_) (fun h1 => ?_)
 ·
  have h1' := (bnt h1)
  refine tsr ?_
  refine r_op oA ?_
  refine r_end ?_
  refine t_ret Tryz.func25 (.tmp rfl .nil) rfl fun E S w u hI hd => ?_
  refine post_mk hI hd ?_ trivial rfl rfl rfl <;> clear hI hd
  all_goals (refine scB ?_; unfold actOk; clear hrs hfs ho hs hoa hob g0 v0 v1; (grind))
 ·
  have h1' := (bnf h1)
  refine t_skip ?_
  refine t_seq ?_
  refine tsr ?_
  refine r_op (oF 2) ?_
  refine r_op oL ?_
  refine r_end ?_
  refine t_cond rfl (fun h2 => ?_) (fun h2 => ?_)
  ·
   have h2' := h2
   refine t_seq ?_
   refine t_draw (fun _ => true) (by kernel_rfl) ?_
   refine dT 0 rfl pM ?_
   refine dT 1 rfl (pF 3) ?_
   refine dT 2 rfl pL ?_
   obtain ⟨z3, hz4, b5⟩ := at_get (xs := b) (n := a3) (by exact (trg_idx (by assumption) (by assumption)).1.1) (by exact (trg_idx (by assumption) (by assumption)).1.2)
   refine dT 3 rfl (p_index (by kernel_rfl) rfl rfl b5 hz4) ?_
   refine dT 4 rfl (p_load1 (by kernel_rfl) rfl rfl) ?_
   refine dT 5 rfl pM ?_
   refine dT 6 rfl (pF 4) ?_
   refine dT 7 rfl pL ?_
   obtain ⟨z6, hz7, b8⟩ := at_get (xs := b) (n := a4) (by exact (trg_idx (by assumption) (by assumption)).2.1) (by exact (trg_idx (by assumption) (by assumption)).2.2)
   refine dT 8 rfl (p_index (by kernel_rfl) rfl rfl b8 hz7) ?_
   refine dT 9 rfl (p_load1 (by kernel_rfl) rfl rfl) ?_
   refine dT 10 rfl pB ?_
   refine dT 11 rfl pA ?_
   refine d_end (by kernel_rfl) ?_
   refine t_ret Tryz.func25 (.tmp rfl .nil) rfl fun E S w u hI hd => ?_
   refine post_mk hI hd ?_ trivial rfl rfl rfl <;> clear hI hd
   all_goals (refine scB ?_; unfold actOk; clear hrs hfs ho hs hoa hob g0 v0 v1; (have e1 := getD_at hz4; have e2 := getD_at hz7; rw [e1, e2]; grind))
  ·
   have h2' := h2
   refine t_skip ?_
   refine tsr ?_
   refine r_op (oC 2) ?_
   refine r_op (oF 1) ?_
   refine r_op oL ?_
   refine r_op oM ?_
   refine r_op (o_call 2 2 false (Go.Proofs.enters_of Tryz.func19 (by kernel_rfl) rfl) (c_spec_HasExtension (rs) (fs) (a1) (b) (by omega) (by omega) (by omega) (by omega) (by omega)) rfl (.cons rfl (.agg (.cons .t0 (.cons .t0 .nil))) (.cons rfl (.c .t0) (.cons rfl (.c .t0) .nil))) rfl rfl rfl) ?_
   refine r_op (o_not rfl rfl) ?_
   refine r_op oA ?_
   refine r_end ?_
   refine t_ret Tryz.func25 (.tmp rfl .nil) rfl fun E S w u hI hd => ?_
   refine post_mk hI hd ?_ trivial rfl rfl rfl <;> clear hI hd
   all_goals (refine scB ?_; unfold actOk; clear hrs hfs ho hs hoa hob g0 v0 v1; (grind))
set_option maxHeartbeats 1000000 in
set_option maxRecDepth 10000 in
theorem c_spec_ActiveTriggers (rs : Rels) (fs : Atoms) (a0 : List (Int × (List (Int)))) (a1 : List (Int × (List (Int)))) (a2 : Bool) (a3 : Int) (a4 : Int) (hrs : rs.length ≤ 4611686018427387904) (hfs : szS (fun (x : Int × (List (Int))) => (x.2).length) fs ≤ 1048576) (ho : ∀ z ∈ fs, ∀ x ∈ z.2, okI x) (hs : szS (fun (x : Int × (List (Int))) => (x.2).length) a0 + szS (fun (x : Int × (List (Int))) => (x.2).length) a1 ≤ 1048576) (hoa : ∀ z ∈ a0, ∀ x ∈ z.2, okI x) : Pu Tryz.prog 27 [.agg [.t none (.sl 3 (enS3 encS encI encB) (rs)), .t none (.sl 2 (enS2 encI (enSl 1 encI)) (fs))], .agg [.t none (.sl 2 (enS2 encI (enSl 1 encI)) (a0)), .t none (.sl 2 (enS2 encI (enSl 1 encI)) (a1)), .t none (.v (.bool (a2))), .t none (.v (.int .i64 (a3))), .t none (.v (.int .i64 (a4)))]] [(2, some (.row none 34 true 1 (enSl 1 encI) (actL rs fs a0 a1 a2 a3 a4)))] 3 (.c (.own 2)) := by
 refine pu_enter Tryz.func27 rfl (Nat.le_of_ble_eq_true rfl) fun w S => ?_
 have g0 := sz_len (f := (fun (x : Int × (List (Int))) => (x.2).length)) (l := a0); have g1 := findL_len rs fs a0
 refine tsr ?_
 refine r_op (o_box 0 rfl rfl rfl rfl) ?_
 refine r_op (o_box 1 rfl rfl rfl rfl) ?_
 refine r_op oA ?_
 refine etr ?_
 refine r_op (o_lit0 2 (e := 34) (sz := 1) (zs := [.slice none 0 0]) (enSl 1 encI) rfl rfl (by kernel_rfl) rfl) ?_
 refine r_op oA ?_
 refine r_end ?_
 refine t_seq ?_
 refine tsr ?_
 refine r_op (oF 0) ?_
 refine r_op oL ?_
 refine r_op (oC 5) ?_
 refine r_op (o_call 3 3 false (Go.Proofs.enters_of Tryz.func67 (by kernel_rfl) rfl) (c_spec_IsValidDependency (rs) (a0) (a1) (a2) (a3) (a4) (by omega) (by omega)) rfl (.cons rfl (.c .t0) (.cons rfl (.agg (.cons .t0 (.cons .t0 (.cons .t0 (.cons .t0 (.cons .t0 .nil)))))) .nil)) rfl rfl rfl) ?_
 refine r_op (o_not rfl rfl) ?_
 refine r_end ?_
 refine t_cond rfl (fun h1 => ?_) (fun h1 => ?_)
 ·
  have h1' := (bnt h1)
  refine tsr ?_
  refine r_op oM ?_
  refine r_op oA ?_
  refine r_end ?_
  refine t_ret Tryz.func27 (.tmp rfl .nil) rfl fun E S w u hI hd => ?_
  refine post_mk hI hd ?_ ⟨eqR ?_, trivial⟩ rfl rfl rfl <;> clear hI hd <;> (try clear ih0)
  all_goals first | rfl | ((exact actL_no (by simp_all; done)))
 ·
  have h1' := (bnf h1)
  refine t_skip ?_
  refine tsr ?_
  refine r_op (oC 2) ?_
  refine r_op (oF 0) ?_
  refine r_op oL ?_
  refine r_op (o_call 3 5 false (Go.Proofs.enters_of Tryz.func11 (by kernel_rfl) rfl) (c_spec_FindMatches (rs) (fs) (a0) (by omega) (by omega) (by omega) (by omega)) rfl (.cons rfl (.agg (.cons .t0 (.cons .t0 .nil))) (.cons rfl (.c .t0) .nil)) rfl rfl rfl) ?_
  refine r_op oA ?_
  refine r_end ?_
  refine t_seq ?_
  refine tsr ?_
  refine r_op oA ?_
  refine r_end ?_
  refine t_block ?_
  refine gt_sum 4 rfl ?_
  refine t_loopL (fun (vs, m) => ⟨[(2, some (.c (.ptr 0 0))), (3, some (.c (.ptr 1 0))), (4, some (.c (.t none (.v (.slice none 0 0))))), (5, some (.c (.own 2))), (6, some (.c (.own 4))), (7, some (.c (.t none (.v (.int .i64 ((m : Int)))))))], [(0, some (.box [.t none (.sl 3 (enS3 encS encI encB) (rs)), .t none (.sl 2 (enS2 encI (enSl 1 encI)) (fs))])), (1, some (.box [.t none (.sl 2 (enS2 encI (enSl 1 encI)) (a0)), .t none (.sl 2 (enS2 encI (enSl 1 encI)) (a1)), .t none (.v (.bool (a2))), .t none (.v (.int .i64 (a3))), .t none (.v (.int .i64 (a4)))])), (2, some (.row none 34 true 1 (enSl 1 encI) (((findL rs fs a0).take m).filter (actOk rs fs a0 a1 a2 a3 a4)))), (4, some (.row none 34 true 1 (encK (enSl 1 encI)) (tkL vs (findL rs fs a0))))], 5⟩ : List Value × Nat → St) (fun (vs, m) => vs.length = m ∧ m ≤ (findL rs fs a0).length) (fun (vs, m) => (findL rs fs a0).length - m) ([], 0) ⟨⟨rfl, ⟨rfl, ⟨rfl, ⟨rfl, ⟨rfl, ⟨rfl, trivial⟩⟩⟩⟩⟩⟩, ⟨rfl, ⟨rfl, ⟨rfl, ⟨rfl, trivial⟩⟩⟩⟩, rfl⟩ (by exact ⟨rfl, Nat.zero_le _⟩) ?_
  rintro ⟨vs, m⟩ hI ih0
  try dsimp only at hI ih0
  obtain ⟨i0, i1⟩ := hI; have tl := tkL_len (vs := vs) (L := findL rs fs a0) (by omega); have fr := filt_room (p := actOk rs fs a0 a1 a2 a3 a4) (L := findL rs fs a0) (m := m) g1
  refine t_seq ?_
  refine tsr ?_
  refine r_op oM ?_
  refine r_op oM ?_
  refine r_op (o_leno rfl rfl rfl rfl) ?_
  refine r_op oB ?_
  refine r_end ?_
  refine t_cond rfl (fun h2 => ?_) (fun h2 => ?_)
  ·
   have h2' := of_decide_eq_true h2
   refine t_skip ?_
   refine t_seq ?_
   refine t_block ?_
   refine t_seq ?_
   obtain ⟨z3, hz4, b5⟩ := at_get (xs := findL rs fs a0) (n := (m : Int)) (by omega) (by omega)
   refine gt_take0 5 4 rfl rfl (tkL_at (by omega) hz4) fun e6 v7 => ?_
   refine t_draw (fun _ => true) (by kernel_rfl) ?_
   refine dT 0 rfl (pC 2) ?_
   refine dT 1 rfl (pC 5) ?_
   refine dT 2 rfl pM ?_
   refine dT 3 rfl pM ?_
   obtain ⟨z8, hz9, b10⟩ := at_get (xs := (tkL vs (findL rs fs a0)).set (m : Int).toNat (.inl v7)) (n := (m : Int)) (by omega) (by (rw [List.length_set]; omega))
   refine dT 4 rfl (p_indexo (by kernel_rfl) rfl rfl rfl b10 (at_lt b10 hz9)) ?_
   refine dT 5 rfl (p_loadpin (k := 5) (o := 0) (by kernel_rfl) rfl rfl (tk_got (by omega) (by omega)) rfl) ?_
   refine dO 6 rfl (o_call 6 6 false (Go.Proofs.enters_of Tryz.func25 (by kernel_rfl) rfl) (c_spec_IsActiveTrigger (rs) (fs) (a0) (a1) (a2) (a3) (a4) (z3) (by omega) (by omega) (by omega) (by omega) (by omega) (by exact findL_ok (fun f hf => ho f hf) (List.mem_of_getElem? (by assumption))) (by (have e5 := findL_five (List.mem_of_getElem? (by assumption)); omega))) rfl (.cons rfl (.agg (.cons .t0 (.cons .t0 .nil))) (.cons rfl (.agg (.cons .t0 (.cons .t0 (.cons .t0 (.cons .t0 (.cons .t0 .nil)))))) (.cons rfl (.c (.own rfl)) .nil))) rfl rfl rfl) ?_
   refine d_end (by kernel_rfl) ?_
   refine t_cond rfl (fun h11 => ?_) (fun h11 => ?_)
   ·
    have h11' := h11
    refine t_region ?_
    refine r_op oM ?_
    refine r_op oM ?_
    refine r_op oM ?_
    refine r_op (o_indexo rfl (by kernel_rfl) rfl rfl rfl b10 (at_lt b10 hz9)) ?_
    refine r_op (o_loadpin rfl (k := 5) (o := 0) (by kernel_rfl) rfl rfl (tk_got (by omega) (by omega)) rfl) ?_
    refine r_op (o_litS 6 (e := 34) (sz := 1) (zs := [.slice none 0 0]) rfl rfl (by kernel_rfl) rfl rfl rfl rfl rfl) ?_
    refine r_op (o_append 2 (e := 34) (sz := 1) (by' := 24) (z3) rfl (by kernel_rfl) rfl rfl rfl rfl rfl rfl (.take (.own rfl) rfl .nil) rfl (by omega) (by omega)) ?_
    refine r_op oA ?_
    refine r_end ?_
    refine t_endblock ?_
    refine t_region ?_
    refine r_op oM ?_
    refine r_op oB ?_
    refine r_op oA ?_
    refine r_end ?_
    refine t_le ?_ (ih0 (vs ++ [v7], m + 1) (by (try dsimp only); omega) (by (try dsimp only); exact ⟨by simp; omega, by omega⟩))
    exact ⟨⟨rfl, ⟨rfl, ⟨rfl, ⟨rfl, ⟨rfl, ⟨(eqI (wr64 (by omega) (by omega))), trivial⟩⟩⟩⟩⟩⟩, ⟨rfl, ⟨rfl, ⟨(eqR (by exact filt_hit hz4 rfl (by assumption))), ⟨(eqR (tkL_set i0 (by omega))), trivial⟩⟩⟩⟩, rfl⟩
   ·
    have h11' := h11
    refine t_skip ?_
    refine t_endblock ?_
    refine t_region ?_
    refine r_op oM ?_
    refine r_op oB ?_
    refine r_op oA ?_
    refine r_end ?_
    refine t_le ?_ (ih0 (vs ++ [v7], m + 1) (by (try dsimp only); omega) (by (try dsimp only); exact ⟨by simp; omega, by omega⟩))
    exact ⟨⟨rfl, ⟨rfl, ⟨rfl, ⟨rfl, ⟨rfl, ⟨(eqI (wr64 (by omega) (by omega))), trivial⟩⟩⟩⟩⟩⟩, ⟨rfl, ⟨rfl, ⟨(eqR (by exact filt_miss hz4 rfl (by assumption))), ⟨(eqR (tkL_set i0 (by omega))), trivial⟩⟩⟩⟩, rfl⟩
  ·
   have h2' := of_decide_eq_false h2
   refine t_exit rfl ?_
   refine tsr ?_
   refine r_op oM ?_
   refine r_op oA ?_
   refine r_end ?_
   refine t_ret Tryz.func27 (.tmp rfl .nil) rfl fun E S w u hI hd => ?_
   refine post_mk hI hd ?_ ⟨eqR ?_, trivial⟩ rfl rfl rfl <;> clear hI hd <;> (try clear ih0)
   all_goals first | rfl | ((exact actL_yes (by assumption) (by omega)))
set_option maxHeartbeats 1000000 in
set_option maxRecDepth 10000 in
theorem c_laws_sameInts (a b : List Int) (ha : a.length ≤ 4611686018427387904) : Pu Tryz.prog 32 [.c (.t none (.sl 1 encI (a))), .c (.t none (.sl 1 encI (b)))] [] 0 (.c (.t none (.v (.bool (decide (a = b)))))) := by
 refine pu_enter Tryz.func32 rfl (Nat.le_of_ble_eq_true rfl) fun w S => ?_
 refine tsr ?_
 refine r_op oA ?_
 refine r_end ?_
 refine t_seq ?_
 refine tsr ?_
 refine r_op oM ?_
 refine r_op (o_len rfl rfl rfl) ?_
 refine r_op oM ?_
 refine r_op (o_len rfl rfl rfl) ?_
 refine r_op oB ?_
 refine r_end ?_
 refine t_cond rfl (fun h1 => ?_) (fun h1 => ?_)
 ·
  have h1' := of_decide_eq_true h1
  refine tsr ?_
  refine r_op oA ?_
  refine r_end ?_
  refine t_ret Tryz.func32 (.tmp rfl .nil) rfl fun E S w u hI hd => ?_
  refine post_mk hI hd ?_ trivial rfl rfl rfl <;> clear hI hd <;> (try clear ih0)
  all_goals ((have : a ≠ b := by rintro rfl; simp at *); simp [this])
 ·
  have h1' := of_decide_eq_false h1
  refine t_skip ?_
  refine t_seq ?_
  refine tsr ?_
  refine r_op oA ?_
  refine r_end ?_
  refine t_block ?_
  refine t_loopL (fun m => ⟨[(0, some (.c (.t none (.sl 1 encI (a))))), (1, some (.c (.t none (.sl 1 encI (b))))), (5, some (.c (.t none (.v (.int .i64 ((m : Int)))))))], [], 0⟩ : Nat → St) (fun m => m ≤ a.length ∧ a.length = b.length ∧ a.take m = b.take m) (fun m => a.length - m) 0 ⟨⟨rfl, ⟨rfl, ⟨rfl, trivial⟩⟩⟩, trivial, rfl⟩ (by exact ⟨Nat.zero_le _, by omega, rfl⟩) ?_
  rintro m hI ih0
  try dsimp only at hI ih0
  obtain ⟨i1, i2, i3⟩ := hI
  refine t_seq ?_
  refine tsr ?_
  refine r_op oM ?_
  refine r_op oM ?_
  refine r_op (o_len rfl rfl rfl) ?_
  refine r_op oB ?_
  refine r_end ?_
  refine t_cond rfl (fun h2 => ?_) (fun h2 => ?_)
  ·
   have h2' := of_decide_eq_true h2
   refine t_skip ?_
   refine t_seq ?_
   refine t_block ?_
   refine t_seq ?_
   refine t_draw (fun _ => true) (by kernel_rfl) ?_
   refine dT 0 rfl pM ?_
   refine dT 1 rfl pM ?_
   obtain ⟨z3, hz4, b5⟩ := at_get (xs := a) (n := (m : Int)) (by omega) (by omega)
   refine dT 2 rfl (p_index (by kernel_rfl) rfl rfl b5 hz4) ?_
   refine dT 3 rfl (p_load1 (by kernel_rfl) rfl rfl) ?_
   refine dT 4 rfl pM ?_
   refine dT 5 rfl pM ?_
   obtain ⟨z6, hz7, b8⟩ := at_get (xs := b) (n := (m : Int)) (by omega) (by omega)
   refine dT 6 rfl (p_index (by kernel_rfl) rfl rfl b8 hz7) ?_
   refine dT 7 rfl (p_load1 (by kernel_rfl) rfl rfl) ?_
   refine dT 8 rfl pB ?_
   refine d_end (by kernel_rfl) ?_
   refine t_cond rfl (fun h9 => ?_) (fun h9 => ?_)
   ·
    have h9' := of_decide_eq_true h9
    refine tsr ?_
    refine r_op oA ?_
    refine r_end ?_
    refine t_ret Tryz.func32 (.tmp rfl .nil) rfl fun E S w u hI hd => ?_
    refine post_mk hI hd ?_ trivial rfl rfl rfl <;> clear hI hd <;> (try clear ih0)
    all_goals (have := ne_at (a := a) (b := b) (by assumption) (by assumption) (by assumption); simp_all)
   ·
    have h9' := of_decide_eq_false h9
    refine t_skip ?_
    refine t_endblock ?_
    refine t_region ?_
    refine r_op oM ?_
    refine r_op oB ?_
    refine r_op oA ?_
    refine r_end ?_
    refine t_le ?_ (ih0 (m + 1) (by (try dsimp only); omega) (by (try dsimp only); exact ⟨by omega, i2, take_same i3 (same_at (by assumption) (by assumption) (by omega))⟩))
    exact ⟨⟨rfl, ⟨rfl, ⟨(eqI (wr64 (by omega) (by omega))), trivial⟩⟩⟩, trivial, rfl⟩
  ·
   have h2' := of_decide_eq_false h2
   refine t_exit rfl ?_
   refine tsr ?_
   refine r_op oA ?_
   refine r_end ?_
   refine t_ret Tryz.func32 (.tmp rfl .nil) rfl fun E S w u hI hd => ?_
   refine post_mk hI hd ?_ trivial rfl rfl rfl <;> clear hI hd <;> (try clear ih0)
   all_goals ((obtain rfl : m = a.length := by omega); rw [List.take_length, i2, List.take_length] at i3; simp [i3])
set_option maxHeartbeats 1000000 in
set_option maxRecDepth 10000 in
theorem c_laws_sameRows (a b : List (List (Int))) (hs : szS (fun (x : List (Int)) => (x).length) a ≤ 1048576) : Pu Tryz.prog 10 [.c (.t none (.sl 1 (enSl 1 encI) (a))), .c (.t none (.sl 1 (enSl 1 encI) (b)))] [] 0 (.c (.t none (.v (.bool (decide (a = b)))))) := by
 refine pu_enter Tryz.func10 rfl (Nat.le_of_ble_eq_true rfl) fun w S => ?_
 have gl := sz_len (f := (fun (x : List (Int)) => (x).length)) (l := a)
 refine tsr ?_
 refine r_op oA ?_
 refine r_end ?_
 refine t_seq ?_
 refine tsr ?_
 refine r_op oM ?_
 refine r_op (o_len rfl rfl rfl) ?_
 refine r_op oM ?_
 refine r_op (o_len rfl rfl rfl) ?_
 refine r_op oB ?_
 refine r_end ?_
 refine t_cond rfl (fun h1 => ?_) (fun h1 => ?_)
 ·
  have h1' := of_decide_eq_true h1
  refine tsr ?_
  refine r_op oA ?_
  refine r_end ?_
  refine t_ret Tryz.func10 (.tmp rfl .nil) rfl fun E S w u hI hd => ?_
  refine post_mk hI hd ?_ trivial rfl rfl rfl <;> clear hI hd <;> (try clear ih0)
  all_goals ((have : a ≠ b := by rintro rfl; simp at *); simp [this])
 ·
  have h1' := of_decide_eq_false h1
  refine t_skip ?_
  refine t_seq ?_
  refine tsr ?_
  refine r_op oA ?_
  refine r_end ?_
  refine t_block ?_
  refine t_loopL (fun m => ⟨[(0, some (.c (.t none (.sl 1 (enSl 1 encI) (a))))), (1, some (.c (.t none (.sl 1 (enSl 1 encI) (b))))), (5, some (.c (.t none (.v (.int .i64 ((m : Int)))))))], [], 0⟩ : Nat → St) (fun m => m ≤ a.length ∧ a.length = b.length ∧ a.take m = b.take m) (fun m => a.length - m) 0 ⟨⟨rfl, ⟨rfl, ⟨rfl, trivial⟩⟩⟩, trivial, rfl⟩ (by exact ⟨Nat.zero_le _, by omega, rfl⟩) ?_
  rintro m hI ih0
  try dsimp only at hI ih0
  obtain ⟨i1, i2, i3⟩ := hI
  refine t_seq ?_
  refine tsr ?_
  refine r_op oM ?_
  refine r_op oM ?_
  refine r_op (o_len rfl rfl rfl) ?_
  refine r_op oB ?_
  refine r_end ?_
  refine t_cond rfl (fun h2 => ?_) (fun h2 => ?_)
  ·
   have h2' := of_decide_eq_true h2
   refine t_skip ?_
   refine t_seq ?_
   refine t_block ?_
   refine t_seq ?_
   refine t_draw (fun _ => true) (by kernel_rfl) ?_
   refine dT 0 rfl pM ?_
   refine dT 1 rfl pM ?_
   obtain ⟨z3, hz4, b5⟩ := at_get (xs := a) (n := (m : Int)) (by omega) (by omega)
   refine dT 2 rfl (p_index (by kernel_rfl) rfl rfl b5 hz4) ?_
   refine dT 3 rfl (p_load1 (by kernel_rfl) rfl rfl) ?_
   refine dT 4 rfl pM ?_
   refine dT 5 rfl pM ?_
   obtain ⟨z6, hz7, b8⟩ := at_get (xs := b) (n := (m : Int)) (by omega) (by omega)
   refine dT 6 rfl (p_index (by kernel_rfl) rfl rfl b8 hz7) ?_
   refine dT 7 rfl (p_load1 (by kernel_rfl) rfl rfl) ?_
   refine dO 8 rfl (o_call 0 0 false (Go.Proofs.enters_of Tryz.func32 (by kernel_rfl) rfl) (c_laws_sameInts (z3) (z6) (by (have e1 := sz_at (f := (fun (x : List (Int)) => (x).length)) (l := a) (m := m) (by assumption); (try dsimp only at e1); omega))) rfl (.cons rfl (.c .t0) (.cons rfl (.c .t0) .nil)) rfl rfl rfl) ?_
   refine dT 9 rfl (p_not rfl) ?_
   refine d_end (by kernel_rfl) ?_
   refine t_cond rfl (fun h9 => ?_) (fun h9 => ?_)
   ·
    have h9' := of_decide_eq_false (bnt h9)
    refine tsr ?_
    refine r_op oA ?_
    refine r_end ?_
    refine t_ret Tryz.func10 (.tmp rfl .nil) rfl fun E S w u hI hd => ?_
    refine post_mk hI hd ?_ trivial rfl rfl rfl <;> clear hI hd <;> (try clear ih0)
    all_goals (have := ne_at (a := a) (b := b) (by assumption) (by assumption) (by assumption); simp_all)
   ·
    have h9' := of_decide_eq_true (bnf h9)
    refine t_skip ?_
    refine t_endblock ?_
    refine t_region ?_
    refine r_op oM ?_
    refine r_op oB ?_
    refine r_op oA ?_
    refine r_end ?_
    refine t_le ?_ (ih0 (m + 1) (by (try dsimp only); omega) (by (try dsimp only); exact ⟨by omega, i2, take_same i3 (same_at (by assumption) (by assumption) (by assumption))⟩))
    exact ⟨⟨rfl, ⟨rfl, ⟨(eqI (wr64 (by omega) (by omega))), trivial⟩⟩⟩, trivial, rfl⟩
  ·
   have h2' := of_decide_eq_false h2
   refine t_exit rfl ?_
   refine tsr ?_
   refine r_op oA ?_
   refine r_end ?_
   refine t_ret Tryz.func10 (.tmp rfl .nil) rfl fun E S w u hI hd => ?_
   refine post_mk hI hd ?_ trivial rfl rfl rfl <;> clear hI hd <;> (try clear ih0)
   all_goals ((obtain rfl : m = a.length := by omega); rw [List.take_length, i2, List.take_length] at i3; simp [i3])
set_option maxHeartbeats 1000000 in
set_option maxRecDepth 10000 in
theorem c_laws_inRows (l : List (List Int)) (x : List Int) (hs : szS (fun (x : List (Int)) => (x).length) l ≤ 1048576) : Pu Tryz.prog 15 [.c (.t none (.sl 1 (enSl 1 encI) (l))), .c (.t none (.sl 1 encI (x)))] [] 0 (.c (.t none (.v (.bool (hasR l x))))) := by
 refine pu_enter Tryz.func15 rfl (Nat.le_of_ble_eq_true rfl) fun w S => ?_
 have gl := sz_len (f := (fun (x : List (Int)) => (x).length)) (l := l)
 refine tsr ?_
 refine r_op oA ?_
 refine r_end ?_
 refine t_seq ?_
 refine tsr ?_
 refine r_op oA ?_
 refine r_end ?_
 refine t_block ?_
 refine t_loopL (fun m => ⟨[(0, some (.c (.t none (.sl 1 (enSl 1 encI) (l))))), (1, some (.c (.t none (.sl 1 encI (x))))), (5, some (.c (.t none (.v (.int .i64 ((m : Int)))))))], [], 0⟩ : Nat → St) (fun m => m ≤ l.length ∧ ∀ j z, j < m → l[j]? = some z → (fun y => decide (y = x)) z = false) (fun m => l.length - m) 0 ⟨⟨rfl, ⟨rfl, ⟨rfl, trivial⟩⟩⟩, trivial, rfl⟩ (by exact ⟨Nat.zero_le _, fun j z h => by omega⟩) ?_
 rintro m hI ih0
 try dsimp only at hI ih0
 obtain ⟨i1, i2⟩ := hI
 refine t_seq ?_
 refine tsr ?_
 refine r_op oM ?_
 refine r_op oM ?_
 refine r_op (o_len rfl rfl rfl) ?_
 refine r_op oB ?_
 refine r_end ?_
 refine t_cond rfl (fun h1 => ?_) (fun h1 => ?_)
 ·
  have h1' := of_decide_eq_true h1
  refine t_skip ?_
  refine t_seq ?_
  refine t_block ?_
  refine tsr ?_
  refine r_op oM ?_
  refine r_op oM ?_
  obtain ⟨z2, hz3, b4⟩ := at_get (xs := l) (n := (m : Int)) (by omega) (by omega)
  refine r_op (o_index rfl (by kernel_rfl) rfl rfl b4 hz3) ?_
  refine r_op (o_load1 rfl (by kernel_rfl) rfl rfl) ?_
  refine r_op oM ?_
  refine r_op (o_call 0 0 false (Go.Proofs.enters_of Tryz.func32 (by kernel_rfl) rfl) (c_laws_sameInts (z2) (x) (by (have e1 := sz_at (f := (fun (x : List (Int)) => (x).length)) (l := l) (m := m) (by assumption); (try dsimp only at e1); omega))) rfl (.cons rfl (.c .t0) (.cons rfl (.c .t0) .nil)) rfl rfl rfl) ?_
  refine r_end ?_
  refine t_cond rfl (fun h5 => ?_) (fun h5 => ?_)
  ·
   have h5' := of_decide_eq_true h5
   refine tsr ?_
   refine r_op oA ?_
   refine r_end ?_
   refine t_ret Tryz.func15 (.tmp rfl .nil) rfl fun E S w u hI hd => ?_
   refine post_mk hI hd ?_ trivial rfl rfl rfl <;> clear hI hd <;> (try clear ih0)
   all_goals (refine scB ?_; exact (any_true (p := fun y => decide (y = x)) (by assumption) (by assumption)).symm)
  ·
   have h5' := of_decide_eq_false h5
   refine t_skip ?_
   refine t_endblock ?_
   refine t_region ?_
   refine r_op oM ?_
   refine r_op oB ?_
   refine r_op oA ?_
   refine r_end ?_
   refine t_le ?_ (ih0 (m + 1) (by (try dsimp only); omega) (by (try dsimp only); exact ⟨by omega, no_step i2 (by assumption) rfl (by assumption)⟩))
   exact ⟨⟨rfl, ⟨rfl, ⟨(eqI (wr64 (by omega) (by omega))), trivial⟩⟩⟩, trivial, rfl⟩
 ·
  have h1' := of_decide_eq_false h1
  refine t_exit rfl ?_
  refine tsr ?_
  refine r_op oA ?_
  refine r_end ?_
  refine t_ret Tryz.func15 (.tmp rfl .nil) rfl fun E S w u hI hd => ?_
  refine post_mk hI hd ?_ trivial rfl rfl rfl <;> clear hI hd <;> (try clear ih0)
  all_goals (refine scB ?_; exact (any_false (p := fun y => decide (y = x)) i2 (by omega)).symm)
set_option maxHeartbeats 1000000 in
set_option maxRecDepth 10000 in
theorem c_laws_FnTriggers (code : List Int) (hcl : code.length ≤ 9223372036854775807) : Pu Tryz.prog 4 [.c (.t none (.sl 1 encU (code)))] [] 0 (.c (.t none (.v (.bool (true))))) := by
 refine pu_enter Tryz.func4 rfl (Nat.le_of_ble_eq_true rfl) fun w S => ?_
 refine tsr ?_
 refine r_op oA ?_
 refine r_end ?_
 refine t_seq ?_
 refine tsr ?_
 refine r_op oM ?_
 refine r_op (o_call 0 0 false (Go.Proofs.enters_of Tryz.func7 (by kernel_rfl) rfl) (c_laws_big (code)) rfl (.cons rfl (.c .t0) .nil) rfl rfl rfl) ?_
 refine r_end ?_
 refine t_cond rfl (fun h1 => ?_) (fun h1 => ?_)
 ·
  have h1' := of_decide_eq_true h1
  refine tsr ?_
  refine r_op oA ?_
  refine r_end ?_
  refine t_ret Tryz.func4 (.tmp rfl .nil) rfl fun E S w u hI hd => ?_
  refine post_mk hI hd ?_ trivial rfl rfl rfl <;> clear hI hd <;> (try clear ih0)
  all_goals (rfl)
 ·
  have h1' := of_decide_eq_false h1
  refine t_skip ?_
  refine tsr ?_
  refine r_op oM ?_
  refine r_opX (o_callG 0 0 (Go.Proofs.enters_of Tryz.func21 (by kernel_rfl) rfl) (c_spec_DrawIsActiveTrigger (code) (by omega)) rfl (.cons rfl (.c .t0) .nil) rfl rfl) ?_
  rintro ⟨⟨rs2, fs3, b4, hs5, e6, lv7, rv8, v9⟩, hq10⟩
  try dsimp only at hq10
  try dsimp only
  obtain ⟨q11, q12, q13, q14⟩ := hq10
  have hx0 : instL rs2 fs3 := (by assumption); obtain ⟨hx1, hx2, hx3, hx4⟩ := hx0; have xs1 := szF_L hx4; have xs3 := factL_ok hx4; have dd : depL (b4, hs5, e6, lv7, rv8) := (by assumption); have ds1 := szA_L dd.2.2.1; have ds2 := szA_L dd.2.2.2.1; have ds3 := dd.1; have ds4 := dd.2.1; have ds5 := dd.2.2.2.2; (try dsimp only at ds1 ds2 ds3 ds4 ds5); have do1 := atomL_okI dd.2.2.1; have do2 := atomL_okI dd.2.2.2.1; have AZ := actL_size rs2 fs3 b4 hs5 e6 lv7 rv8; have AL := actL_len rs2 fs3 b4 hs5 e6 lv7 rv8; have AH : hasR (actL rs2 fs3 b4 hs5 e6 lv7 rv8) v9 = actOk rs2 fs3 b4 hs5 e6 lv7 rv8 v9 := actL_has; have A5 : ∀ (i : Nat) r, (actL rs2 fs3 b4 hs5 e6 lv7 rv8)[i]? = some r → r.length = 5 ∧ ∀ x ∈ r, okI x := fun i r h => ⟨(actL_five (List.mem_of_getElem? h)).2, findL_ok xs3 (actL_five (List.mem_of_getElem? h)).1⟩; have AO : ∀ (i : Nat) r, (actL rs2 fs3 b4 hs5 e6 lv7 rv8)[i]? = some r → actOk rs2 fs3 b4 hs5 e6 lv7 rv8 r = true := fun i r h => actL_ok (List.mem_of_getElem? h); have TI : trgOk rs2 fs3 b4 hs5 e6 lv7 rv8 v9 = true → e6 = true → (0 ≤ lv7 ∧ lv7 < v9.length) ∧ (0 ≤ rv8 ∧ rv8 < v9.length) := fun h h2 => trg_idx h h2; have TA : actOk rs2 fs3 b4 hs5 e6 lv7 rv8 v9 = (trgOk rs2 fs3 b4 hs5 e6 lv7 rv8 v9 && (if e6 = true then decide (v9.getD lv7.toNat 0 ≠ v9.getD rv8.toNat 0) else !hasE rs2 fs3 hs5 v9)) := rfl
  refine r_op oM ?_
  refine r_op (o_extract rfl rfl rfl rfl) ?_
  refine r_op (o_extract rfl rfl rfl rfl) ?_
  refine r_op (o_extract rfl rfl rfl rfl) ?_
  refine r_op (o_alloc 0 (zs := [.slice none 0 0, .slice none 0 0]) rfl rfl (by kernel_rfl) rfl) ?_
  refine r_op (o_alloc 1 (zs := [.slice none 0 0, .slice none 0 0, .bool (false), .int .i64 (0), .int .i64 (0)]) rfl rfl (by kernel_rfl) rfl) ?_
  refine r_op (oS 2) ?_
  refine r_op (oS 5) ?_
  refine r_op oA ?_
  refine etr ?_
  refine r_op (oC 2) ?_
  refine r_op (oC 5) ?_
  refine r_op oM ?_
  refine r_op (o_call 2 2 false (Go.Proofs.enters_of Tryz.func22 (by kernel_rfl) rfl) (c_impl_IsActiveTrigger ((rs2)) ((fs3)) ((b4)) ((hs5)) ((e6)) ((lv7)) ((rv8)) ((v9)) (by omega) (by omega) (by omega) (by omega) (by omega) (by omega) (by omega)) rfl (.cons rfl (.agg (.cons .t0 (.cons .t0 .nil))) (.cons rfl (.agg (.cons .t0 (.cons .t0 (.cons .t0 (.cons .t0 (.cons .t0 .nil)))))) (.cons rfl (.c .t0) .nil))) rfl rfl rfl) ?_
  refine r_op oA ?_
  refine etr ?_
  refine r_op (oC 2) ?_
  refine r_op (oC 5) ?_
  refine r_op oM ?_
  refine r_op (o_call 2 2 false (Go.Proofs.enters_of Tryz.func23 (by kernel_rfl) rfl) (c_impl_IsTrigger ((rs2)) ((fs3)) ((b4)) ((hs5)) ((e6)) ((lv7)) ((rv8)) ((v9)) (by omega) (by omega) (by omega) (by omega) (by omega) (by omega) (by omega)) rfl (.cons rfl (.agg (.cons .t0 (.cons .t0 .nil))) (.cons rfl (.agg (.cons .t0 (.cons .t0 (.cons .t0 (.cons .t0 (.cons .t0 .nil)))))) (.cons rfl (.c .t0) .nil))) rfl rfl rfl) ?_
  refine r_op oA ?_
  refine etr ?_
  refine r_op (oC 2) ?_
  refine r_op (oC 5) ?_
  refine r_op (o_call 2 5 false (Go.Proofs.enters_of Tryz.func24 (by kernel_rfl) rfl) (c_impl_ActiveTriggers ((rs2)) ((fs3)) ((b4)) ((hs5)) ((e6)) ((lv7)) ((rv8)) (by omega) (by omega) (by omega) (by omega) (by omega)) rfl (.cons rfl (.agg (.cons .t0 (.cons .t0 .nil))) (.cons rfl (.agg (.cons .t0 (.cons .t0 (.cons .t0 (.cons .t0 (.cons .t0 .nil)))))) .nil)) rfl rfl rfl) ?_
  refine r_op oA ?_
  refine r_end ?_
  refine t_seq ?_
  refine tsr ?_
  refine r_op oM ?_
  refine r_op (oC 2) ?_
  refine r_op (oC 5) ?_
  refine r_op oM ?_
  refine r_op (o_call 5 5 false (Go.Proofs.enters_of Tryz.func25 (by kernel_rfl) rfl) (c_spec_IsActiveTrigger ((rs2)) ((fs3)) ((b4)) ((hs5)) ((e6)) ((lv7)) ((rv8)) ((v9)) (by omega) (by omega) (by omega) (by omega) (by omega) (by omega) (by omega)) rfl (.cons rfl (.agg (.cons .t0 (.cons .t0 .nil))) (.cons rfl (.agg (.cons .t0 (.cons .t0 (.cons .t0 (.cons .t0 (.cons .t0 .nil)))))) (.cons rfl (.c .t0) .nil))) rfl rfl rfl) ?_
  refine r_op (o_neB rfl Tryz.underlying4 rfl rfl) ?_
  refine r_op oM ?_
  refine r_guard rfl rfl rfl (fun g15 => ?_) (fun g15 => ?_)
  ·
   have g15' := g15
   refine r_op oM ?_
   refine r_guard rfl rfl rfl (fun _ => ?_) (ncf g15)
   refine r_op (oC 2) ?_
   refine r_guard rfl rfl rfl (fun _ => ?_) (ncf g15)
   refine r_op (oC 5) ?_
   refine r_guard rfl rfl rfl (fun _ => ?_) (ncf g15)
   refine r_op oM ?_
   refine r_guard rfl rfl rfl (fun _ => ?_) (ncf g15)
   refine r_op (o_call 5 5 false (Go.Proofs.enters_of Tryz.func26 (by kernel_rfl) rfl) (c_spec_IsTrigger ((rs2)) ((fs3)) ((b4)) ((hs5)) ((e6)) ((lv7)) ((rv8)) ((v9)) (by omega) (by omega) (by omega) (by omega) (by omega) (by omega) (by omega)) rfl (.cons rfl (.agg (.cons .t0 (.cons .t0 .nil))) (.cons rfl (.agg (.cons .t0 (.cons .t0 (.cons .t0 (.cons .t0 (.cons .t0 .nil)))))) (.cons rfl (.c .t0) .nil))) rfl rfl rfl) ?_
   refine r_guard rfl rfl rfl (fun _ => ?_) (ncf g15)
   refine r_op (o_neB rfl Tryz.underlying4 rfl rfl) ?_
   refine r_op (o_pickF rfl rfl g15 rfl) ?_
   refine r_op oM ?_
   refine r_guard rfl rfl rfl (fun g16 => ?_) (fun g16 => ?_)
   ·
    have g16' := g16
    refine r_op oM ?_
    refine r_guard rfl rfl rfl (fun _ => ?_) (ncf g16)
    refine r_op oM ?_
    refine r_guard rfl rfl rfl (fun g17 => ?_) (fun g17 => ?_)
    ·
     have g17' := g17
     refine r_op oM ?_
     refine r_guard rfl rfl rfl (fun _ => ?_) (nc g17)
     refine r_op (o_not rfl rfl) ?_
     refine r_guard rfl rfl rfl (fun _ => ?_) (ncf g16)
     refine r_op (o_pickT rfl rfl g17 rfl) ?_
     refine r_op (o_pickF rfl rfl g16 rfl) ?_
     refine r_op oM ?_
     refine r_guard rfl rfl rfl (fun g18 => ?_) (fun g18 => ?_)
     ·
      have g18' := (bnf g18)
      refine r_op oM ?_
      refine r_guard rfl rfl rfl (fun _ => ?_) (ncf g18)
      refine r_op (oC 2) ?_
      refine r_guard rfl rfl rfl (fun _ => ?_) (ncf g18)
      refine r_op (oC 5) ?_
      refine r_guard rfl rfl rfl (fun _ => ?_) (ncf g18)
      refine r_op (o_call 5 8 false (Go.Proofs.enters_of Tryz.func27 (by kernel_rfl) rfl) (c_spec_ActiveTriggers ((rs2)) ((fs3)) ((b4)) ((hs5)) ((e6)) ((lv7)) ((rv8)) (by omega) (by omega) (by omega) (by omega) (by omega)) rfl (.cons rfl (.agg (.cons .t0 (.cons .t0 .nil))) (.cons rfl (.agg (.cons .t0 (.cons .t0 (.cons .t0 (.cons .t0 (.cons .t0 .nil)))))) .nil)) rfl rfl rfl) ?_
      refine r_guard rfl rfl rfl (fun _ => ?_) (ncf g18)
      refine r_op (o_call 8 8 false (Go.Proofs.enters_of Tryz.func10 (by kernel_rfl) rfl) (c_laws_sameRows (actL ((rs2)) ((fs3)) ((b4)) ((hs5)) ((e6)) ((lv7)) ((rv8))) (actL ((rs2)) ((fs3)) ((b4)) ((hs5)) ((e6)) ((lv7)) ((rv8))) (by exact Nat.le_trans (actL_size _ _ _ _ _ _ _) (by decide))) rfl (.cons rfl (.c (.own rfl)) (.cons rfl (.c (.own rfl)) .nil)) rfl rfl rfl) ?_
      refine r_guard rfl rfl rfl (fun _ => ?_) (ncf g18)
      refine r_op (o_not rfl rfl) ?_
      refine r_op (o_pickF rfl rfl g18 rfl) ?_
      refine r_end ?_
      refine t_cond rfl (fun h19 => ?_) (fun h19 => ?_)
      ·
       have h19' := of_decide_eq_false (bnt h19)
       refine tsr ?_
       refine r_op oA ?_
       refine r_end ?_
       refine t_ret Tryz.func4 (.tmp rfl .nil) rfl fun E S w u hI hd => ?_
       refine post_mk hI hd ?_ trivial rfl rfl rfl <;> clear hI hd <;> (try clear ih0)
       all_goals ((exfalso; clear A5 xs3 do1 do2 TI AZ; grind))
      ·
       have h19' := of_decide_eq_true (bnf h19)
       refine t_skip ?_
       refine t_seq ?_
       refine tsr ?_
       refine r_op oA ?_
       refine r_end ?_
       refine t_block ?_
       refine t_loopL (fun m => ⟨[(3, some (.c (.ptr 0 0))), (4, some (.c (.ptr 1 0))), (5, some (.c (.t none (.sl 1 encI ((v9)))))), (6, some (.c (.t none (.v (.bool (actOk ((rs2)) ((fs3)) ((b4)) ((hs5)) ((e6)) ((lv7)) ((rv8)) ((v9)))))))), (7, some (.c (.t none (.v (.bool (trgOk ((rs2)) ((fs3)) ((b4)) ((hs5)) ((e6)) ((lv7)) ((rv8)) ((v9)))))))), (8, some (.c (.own 4))), (9, some (.c (.t none (.v (.int .i64 ((m : Int)))))))], [(0, some (.box [.t none (.sl 3 (enS3 encS encI encB) ((rs2))), .t none (.sl 2 (enS2 encI (enSl 1 encI)) ((fs3)))])), (1, some (.box [.t none (.sl 2 (enS2 encI (enSl 1 encI)) ((b4))), .t none (.sl 2 (enS2 encI (enSl 1 encI)) ((hs5))), .t none (.v (.bool ((e6)))), .t none (.v (.int .i64 ((lv7)))), .t none (.v (.int .i64 ((rv8))))])), (4, some (.row none 34 true 1 (enSl 1 encI) (actL ((rs2)) ((fs3)) ((b4)) ((hs5)) ((e6)) ((lv7)) ((rv8))))), (7, some (.row none 34 true 1 (enSl 1 encI) (actL ((rs2)) ((fs3)) ((b4)) ((hs5)) ((e6)) ((lv7)) ((rv8)))))], 8⟩ : Nat → St) (fun m => m ≤ (actL rs2 fs3 b4 hs5 e6 lv7 rv8).length) (fun m => (actL rs2 fs3 b4 hs5 e6 lv7 rv8).length - m) 0 ⟨⟨rfl, ⟨rfl, ⟨rfl, ⟨rfl, ⟨rfl, ⟨rfl, ⟨rfl, trivial⟩⟩⟩⟩⟩⟩⟩, ⟨rfl, ⟨rfl, ⟨rfl, ⟨rfl, trivial⟩⟩⟩⟩, rfl⟩ (by exact Nat.zero_le _) ?_
       rintro m hI ih0
       try dsimp only at hI ih0
       have i1 := hI
       refine t_seq ?_
       refine tsr ?_
       refine r_op oM ?_
       refine r_op oM ?_
       refine r_op (o_leno rfl rfl rfl rfl) ?_
       refine r_op oB ?_
       refine r_end ?_
       refine t_cond rfl (fun h20 => ?_) (fun h20 => ?_)
       ·
        have h20' := of_decide_eq_true h20
        refine t_skip ?_
        refine t_seq ?_
        refine t_block ?_
        refine t_seq ?_
        refine t_draw (fun _ => true) (by kernel_rfl) ?_
        refine dT 0 rfl (pC 2) ?_
        refine dT 1 rfl (pC 5) ?_
        refine dT 2 rfl pM ?_
        refine dT 3 rfl pM ?_
        obtain ⟨z21, hz22, b23⟩ := at_get (xs := actL ((rs2)) ((fs3)) ((b4)) ((hs5)) ((e6)) ((lv7)) ((rv8))) (n := (m : Int)) (by omega) (by omega)
        refine dT 4 rfl (p_indexo (by kernel_rfl) rfl rfl rfl b23 (at_lt b23 hz22)) ?_
        refine dT 5 rfl (p_load1o (by kernel_rfl) rfl rfl rfl hz22) ?_
        refine dO 6 rfl (o_call 8 8 false (Go.Proofs.enters_of Tryz.func22 (by kernel_rfl) rfl) (c_impl_IsActiveTrigger ((rs2)) ((fs3)) ((b4)) ((hs5)) ((e6)) ((lv7)) ((rv8)) (z21) (by omega) (by omega) (by omega) (by omega) (by omega) (by exact (A5 _ _ (by assumption)).2) (by (have e7 := A5 _ _ (by assumption); omega))) rfl (.cons rfl (.agg (.cons .t0 (.cons .t0 .nil))) (.cons rfl (.agg (.cons .t0 (.cons .t0 (.cons .t0 (.cons .t0 (.cons .t0 .nil)))))) (.cons rfl (.c .t1) .nil))) rfl rfl rfl) ?_
        refine dT 7 rfl (p_not rfl) ?_
        refine d_end (by kernel_rfl) ?_
        refine t_cond rfl (fun h24 => ?_) (fun h24 => ?_)
        ·
         have h24' := (bnt h24)
         refine tsr ?_
         refine r_op oA ?_
         refine r_end ?_
         refine t_ret Tryz.func4 (.tmp rfl .nil) rfl fun E S w u hI hd => ?_
         refine post_mk hI hd ?_ trivial rfl rfl rfl <;> clear hI hd <;> (try clear ih0)
         all_goals ((exfalso; clear A5 xs3 do1 do2 TI AZ; grind))
        ·
         have h24' := (bnf h24)
         refine t_skip ?_
         refine t_endblock ?_
         refine t_region ?_
         refine r_op oM ?_
         refine r_op oB ?_
         refine r_op oA ?_
         refine r_end ?_
         refine t_le ?_ (ih0 (m + 1) (by (try dsimp only); omega) (by (try dsimp only); omega))
         exact ⟨⟨rfl, ⟨rfl, ⟨rfl, ⟨rfl, ⟨rfl, ⟨rfl, ⟨(eqI (wr64 (by omega) (by omega))), trivial⟩⟩⟩⟩⟩⟩⟩, ⟨rfl, ⟨rfl, ⟨rfl, ⟨rfl, trivial⟩⟩⟩⟩, rfl⟩
       ·
        have h20' := of_decide_eq_false h20
        refine t_exit rfl ?_
        refine t_seq ?_
        refine t_draw (fun _ => true) (by kernel_rfl) ?_
        refine dT 0 rfl pM ?_
        refine dT 1 rfl pM ?_
        refine dT 2 rfl pM ?_
        refine dO 3 rfl (o_call 8 8 false (Go.Proofs.enters_of Tryz.func15 (by kernel_rfl) rfl) (c_laws_inRows (actL ((rs2)) ((fs3)) ((b4)) ((hs5)) ((e6)) ((lv7)) ((rv8))) ((v9)) (by exact Nat.le_trans (actL_size _ _ _ _ _ _ _) (by decide))) rfl (.cons rfl (.c (.own rfl)) (.cons rfl (.c .t0) .nil)) rfl rfl rfl) ?_
        refine dT 4 rfl (p_eqB Tryz.underlying4 rfl rfl) ?_
        refine dT 5 rfl pM ?_
        refine dH 6 rfl (fun _ => pM) (fun g25 => ?_) (fun g25 => ?_)
        ·
         have g25' := g25
         refine dH 7 rfl (fun _ => p_not rfl) (fun _ => ?_) (nc g25)
         refine dH 8 rfl (fun _ => pM) (fun _ => ?_) (nc g25)
         refine dH 9 rfl (fun _ => pM) (fun g26 => ?_) (fun g26 => ?_)
         ·
          have g26' := (bnf g26)
          refine dH 10 rfl (fun _ => pF 2) (fun _ => ?_) (ncf g26)
          refine dH 11 rfl (fun _ => pL) (fun _ => ?_) (ncf g26)
          refine dH 12 rfl (fun _ => pM) (fun _ => ?_) (ncf g26)
          refine dH 13 rfl (fun _ => pM) (fun g27 => ?_) (fun g27 => ?_)
          ·
           have g27' := g27
           refine dH 14 rfl (fun _ => pF 3) (fun _ => ?_) (nc g27)
           refine dH 15 rfl (fun _ => pL) (fun _ => ?_) (nc g27)
           obtain ⟨z28, hz29, b30⟩ := at_get (xs := (v9)) (n := (lv7)) (by exact (TI (by assumption) (by assumption)).1.1) (by exact (TI (by assumption) (by assumption)).1.2)
           refine dH 16 rfl (fun _ => p_index (by kernel_rfl) rfl rfl b30 hz29) (fun _ => ?_) (nc g27)
           refine dH 17 rfl (fun _ => p_load1 (by kernel_rfl) rfl rfl) (fun _ => ?_) (nc g27)
           refine dH 18 rfl (fun _ => pM) (fun _ => ?_) (nc g27)
           refine dH 19 rfl (fun _ => pF 4) (fun _ => ?_) (nc g27)
           refine dH 20 rfl (fun _ => pL) (fun _ => ?_) (nc g27)
           obtain ⟨z31, hz32, b33⟩ := at_get (xs := (v9)) (n := (rv8)) (by exact (TI (by assumption) (by assumption)).2.1) (by exact (TI (by assumption) (by assumption)).2.2)
           refine dH 21 rfl (fun _ => p_index (by kernel_rfl) rfl rfl b33 hz32) (fun _ => ?_) (nc g27)
           refine dH 22 rfl (fun _ => p_load1 (by kernel_rfl) rfl rfl) (fun _ => ?_) (nc g27)
           refine dH 23 rfl (fun _ => pB) (fun _ => ?_) (nc g27)
           refine dH 24 rfl (fun _ => p_pickT rfl g27 rfl) (fun _ => ?_) (ncf g26)
           refine dH 25 rfl (fun _ => pM) (fun _ => ?_) (ncf g26)
           refine dH 26 rfl (fun _ => pF 2) (fun g34 => ?_) (fun g34 => ?_)
           ·
            have g34' := of_decide_eq_false g34
            refine dH 27 rfl (fun _ => pL) (fun _ => ?_) (ncf g34)
            refine dH 28 rfl (fun _ => p_not rfl) (fun _ => ?_) (ncf g34)
            refine dH 29 rfl (fun _ => pM) (fun _ => ?_) (ncf g34)
            refine dH 30 rfl (fun _ => pC 2) (fun g35 => ?_) (fun g35 => ?_)
            ·
             have g35' := (bnt g35)
             refine dH 31 rfl (fun _ => pF 1) (fun _ => ?_) (nc g35)
             refine dH 32 rfl (fun _ => pL) (fun _ => ?_) (nc g35)
             refine dH 33 rfl (fun _ => pM) (fun _ => ?_) (nc g35)
             refine d_onlyG 34 rfl rfl (by kernel_rfl) rfl rfl rfl (fun _ => (o_call 8 8 false (Go.Proofs.enters_of Tryz.func14 (by kernel_rfl) rfl) (c_impl_HasExtension ((rs2)) ((fs3)) ((hs5)) ((v9)) (by omega) (by omega) (by omega) (by omega) (by omega)) rfl (.cons rfl (.agg (.cons .t0 (.cons .t0 .nil))) (.cons rfl (.c .t0) (.cons rfl (.c .t0) .nil))) rfl rfl rfl)) (fun _ => ?_) (nc g35)
             refine dH 35 rfl (fun _ => p_not rfl) (fun _ => ?_) (nc g35)
             refine dH 36 rfl (fun _ => p_pickT rfl g35 rfl) (fun _ => ?_) (ncf g34)
             refine dH 37 rfl (fun _ => p_pickF rfl g34 rfl) (fun _ => ?_) (ncf g26)
             refine dH 38 rfl (fun _ => p_eqB Tryz.underlying4 rfl rfl) (fun _ => ?_) (ncf g26)
             refine dH 39 rfl (fun _ => p_pickF rfl g26 rfl) (fun _ => ?_) (nc g25)
             refine dT 40 rfl (p_pickT rfl g25 rfl) ?_
             refine dT 41 rfl pA ?_
             refine d_end (by kernel_rfl) ?_
             refine t_ret Tryz.func4 (.tmp rfl .nil) rfl fun E S w u hI hd => ?_
             refine post_mk hI hd ?_ trivial rfl rfl rfl <;> clear hI hd <;> (try clear ih0)
             all_goals ((exfalso; clear A5 xs3 do1 do2 TI AZ; grind))
            ·
             have g35' := (bnf g35)
             refine dG 31 (ncf g35) (fun _ => ?_)
             refine dG 32 (ncf g35) (fun _ => ?_)
             refine dG 33 (ncf g35) (fun _ => ?_)
             refine dG 34 (ncf g35) (fun _ => ?_)
             refine dG 35 (ncf g35) (fun _ => ?_)
             refine dH 36 rfl (fun _ => p_pickF rfl g35 rfl) (fun _ => ?_) (ncf g34)
             refine dH 37 rfl (fun _ => p_pickF rfl g34 rfl) (fun _ => ?_) (ncf g26)
             refine dH 38 rfl (fun _ => p_eqB Tryz.underlying4 rfl rfl) (fun _ => ?_) (ncf g26)
             refine dH 39 rfl (fun _ => p_pickF rfl g26 rfl) (fun _ => ?_) (nc g25)
             refine dT 40 rfl (p_pickT rfl g25 rfl) ?_
             refine dT 41 rfl pA ?_
             refine d_end (by kernel_rfl) ?_
             refine t_ret Tryz.func4 (.tmp rfl .nil) rfl fun E S w u hI hd => ?_
             refine post_mk hI hd ?_ trivial rfl rfl rfl <;> clear hI hd <;> (try clear ih0)
             all_goals ((exfalso; clear A5 xs3 do1 do2 TI AZ; grind))
           ·
            have g34' := of_decide_eq_true g34
            refine dG 27 (nc g34) (fun _ => ?_)
            refine dG 28 (nc g34) (fun _ => ?_)
            refine dG 29 (nc g34) (fun _ => ?_)
            refine dK 30 ?_
            refine dK 31 ?_
            refine dK 32 ?_
            refine dK 33 ?_
            refine dK 34 ?_
            refine dK 35 ?_
            refine dG 36 (nc g34) (fun _ => ?_)
            refine dH 37 rfl (fun _ => p_pickT rfl g34 rfl) (fun _ => ?_) (ncf g26)
            refine dH 38 rfl (fun _ => p_eqB Tryz.underlying4 rfl rfl) (fun _ => ?_) (ncf g26)
            refine dH 39 rfl (fun _ => p_pickF rfl g26 rfl) (fun _ => ?_) (nc g25)
            refine dT 40 rfl (p_pickT rfl g25 rfl) ?_
            refine dT 41 rfl pA ?_
            refine d_end (by kernel_rfl) ?_
            refine t_ret Tryz.func4 (.tmp rfl .nil) rfl fun E S w u hI hd => ?_
            refine post_mk hI hd ?_ trivial rfl rfl rfl <;> clear hI hd <;> (try clear ih0)
            all_goals ((refine scB ?_; clear A5 xs3 do1 do2 TI AZ; grind))
          ·
           have g27' := g27
           refine dG 14 (ncf g27) (fun _ => ?_)
           refine dG 15 (ncf g27) (fun _ => ?_)
           refine dG 16 (ncf g27) (fun _ => ?_)
           refine dG 17 (ncf g27) (fun _ => ?_)
           refine dG 18 (ncf g27) (fun _ => ?_)
           refine dG 19 (ncf g27) (fun _ => ?_)
           refine dG 20 (ncf g27) (fun _ => ?_)
           refine dG 21 (ncf g27) (fun _ => ?_)
           refine dG 22 (ncf g27) (fun _ => ?_)
           refine dG 23 (ncf g27) (fun _ => ?_)
           refine dH 24 rfl (fun _ => p_pickF rfl g27 rfl) (fun _ => ?_) (ncf g26)
           refine dH 25 rfl (fun _ => pM) (fun _ => ?_) (ncf g26)
           refine dH 26 rfl (fun _ => pF 2) (fun _ => ?_) (ncf rfl)
           refine dH 27 rfl (fun _ => pL) (fun _ => ?_) (ncf rfl)
           refine dH 28 rfl (fun _ => p_not rfl) (fun _ => ?_) (ncf rfl)
           refine dH 29 rfl (fun _ => pM) (fun _ => ?_) (ncf rfl)
           refine dH 30 rfl (fun _ => pC 2) (fun g36 => ?_) (fun g36 => ?_)
           ·
            have g36' := (bnt g36)
            refine dH 31 rfl (fun _ => pF 1) (fun _ => ?_) (nc g36)
            refine dH 32 rfl (fun _ => pL) (fun _ => ?_) (nc g36)
            refine dH 33 rfl (fun _ => pM) (fun _ => ?_) (nc g36)
            refine d_onlyG 34 rfl rfl (by kernel_rfl) rfl rfl rfl (fun _ => (o_call 8 8 false (Go.Proofs.enters_of Tryz.func14 (by kernel_rfl) rfl) (c_impl_HasExtension ((rs2)) ((fs3)) ((hs5)) ((v9)) (by omega) (by omega) (by omega) (by omega) (by omega)) rfl (.cons rfl (.agg (.cons .t0 (.cons .t0 .nil))) (.cons rfl (.c .t0) (.cons rfl (.c .t0) .nil))) rfl rfl rfl)) (fun _ => ?_) (nc g36)
            refine dH 35 rfl (fun _ => p_not rfl) (fun _ => ?_) (nc g36)
            refine dH 36 rfl (fun _ => p_pickT rfl g36 rfl) (fun _ => ?_) (ncf rfl)
            refine dH 37 rfl (fun _ => p_pickF rfl rfl rfl) (fun _ => ?_) (ncf g26)
            refine dH 38 rfl (fun _ => p_eqB Tryz.underlying4 rfl rfl) (fun _ => ?_) (ncf g26)
            refine dH 39 rfl (fun _ => p_pickF rfl g26 rfl) (fun _ => ?_) (nc g25)
            refine dT 40 rfl (p_pickT rfl g25 rfl) ?_
            refine dT 41 rfl pA ?_
            refine d_end (by kernel_rfl) ?_
            refine t_ret Tryz.func4 (.tmp rfl .nil) rfl fun E S w u hI hd => ?_
            refine post_mk hI hd ?_ trivial rfl rfl rfl <;> clear hI hd <;> (try clear ih0)
            all_goals ((refine scB ?_; clear A5 xs3 do1 do2 TI AZ; grind))
           ·
            have g36' := (bnf g36)
            refine dG 31 (ncf g36) (fun _ => ?_)
            refine dG 32 (ncf g36) (fun _ => ?_)
            refine dG 33 (ncf g36) (fun _ => ?_)
            refine dG 34 (ncf g36) (fun _ => ?_)
            refine dG 35 (ncf g36) (fun _ => ?_)
            refine dH 36 rfl (fun _ => p_pickF rfl g36 rfl) (fun _ => ?_) (ncf rfl)
            refine dH 37 rfl (fun _ => p_pickF rfl rfl rfl) (fun _ => ?_) (ncf g26)
            refine dH 38 rfl (fun _ => p_eqB Tryz.underlying4 rfl rfl) (fun _ => ?_) (ncf g26)
            refine dH 39 rfl (fun _ => p_pickF rfl g26 rfl) (fun _ => ?_) (nc g25)
            refine dT 40 rfl (p_pickT rfl g25 rfl) ?_
            refine dT 41 rfl pA ?_
            refine d_end (by kernel_rfl) ?_
            refine t_ret Tryz.func4 (.tmp rfl .nil) rfl fun E S w u hI hd => ?_
            refine post_mk hI hd ?_ trivial rfl rfl rfl <;> clear hI hd <;> (try clear ih0)
            all_goals ((exfalso; clear A5 xs3 do1 do2 TI AZ; grind))
         ·
          have g26' := (bnt g26)
          refine dG 10 (nc g26) (fun _ => ?_)
          refine dG 11 (nc g26) (fun _ => ?_)
          refine dG 12 (nc g26) (fun _ => ?_)
          refine dK 13 ?_
          refine dK 14 ?_
          refine dK 15 ?_
          refine dK 16 ?_
          refine dK 17 ?_
          refine dK 18 ?_
          refine dK 19 ?_
          refine dK 20 ?_
          refine dK 21 ?_
          refine dK 22 ?_
          refine dK 23 ?_
          refine dG 24 (nc g26) (fun _ => ?_)
          refine dG 25 (nc g26) (fun _ => ?_)
          refine dK 26 ?_
          refine dK 27 ?_
          refine dK 28 ?_
          refine dK 29 ?_
          refine dK 30 ?_
          refine dK 31 ?_
          refine dK 32 ?_
          refine dK 33 ?_
          refine dK 34 ?_
          refine dK 35 ?_
          refine dK 36 ?_
          refine dG 37 (nc g26) (fun _ => ?_)
          refine dG 38 (nc g26) (fun _ => ?_)
          refine dH 39 rfl (fun _ => p_pickT rfl g26 rfl) (fun _ => ?_) (nc g25)
          refine dT 40 rfl (p_pickT rfl g25 rfl) ?_
          refine dT 41 rfl pA ?_
          refine d_end (by kernel_rfl) ?_
          refine t_ret Tryz.func4 (.tmp rfl .nil) rfl fun E S w u hI hd => ?_
          refine post_mk hI hd ?_ trivial rfl rfl rfl <;> clear hI hd <;> (try clear ih0)
          all_goals (rfl)
        ·
         have g25' := g25
         refine dG 7 (ncf g25) (fun _ => ?_)
         refine dG 8 (ncf g25) (fun _ => ?_)
         refine dK 9 ?_
         refine dK 10 ?_
         refine dK 11 ?_
         refine dK 12 ?_
         refine dK 13 ?_
         refine dK 14 ?_
         refine dK 15 ?_
         refine dK 16 ?_
         refine dK 17 ?_
         refine dK 18 ?_
         refine dK 19 ?_
         refine dK 20 ?_
         refine dK 21 ?_
         refine dK 22 ?_
         refine dK 23 ?_
         refine dK 24 ?_
         refine dK 25 ?_
         refine dK 26 ?_
         refine dK 27 ?_
         refine dK 28 ?_
         refine dK 29 ?_
         refine dK 30 ?_
         refine dK 31 ?_
         refine dK 32 ?_
         refine dK 33 ?_
         refine dK 34 ?_
         refine dK 35 ?_
         refine dK 36 ?_
         refine dK 37 ?_
         refine dK 38 ?_
         refine dG 39 (ncf g25) (fun _ => ?_)
         refine dT 40 rfl (p_pickF rfl g25 rfl) ?_
         refine dT 41 rfl pA ?_
         refine d_end (by kernel_rfl) ?_
         refine t_ret Tryz.func4 (.tmp rfl .nil) rfl fun E S w u hI hd => ?_
         refine post_mk hI hd ?_ trivial rfl rfl rfl <;> clear hI hd <;> (try clear ih0)
         all_goals ((exfalso; clear A5 xs3 do1 do2 TI AZ; grind))
     ·
      have g18' := (bnt g18)
      refine r_guard rfl rfl rfl (nc g18) (fun _ => ?_)
      refine r_guard rfl rfl rfl (nc g18) (fun _ => ?_)
      refine r_guard rfl rfl rfl (nc g18) (fun _ => ?_)
      refine r_guard rfl rfl rfl (nc g18) (fun _ => ?_)
      refine r_guard rfl rfl rfl (nc g18) (fun _ => ?_)
      refine r_op (o_pickT rfl rfl g18 rfl) ?_
      refine r_end ?_
      refine t_cond rfl (fun _ => ?_) (nc rfl)
      refine tsr ?_
      refine r_op oA ?_
      refine r_end ?_
      refine t_ret Tryz.func4 (.tmp rfl .nil) rfl fun E S w u hI hd => ?_
      refine post_mk hI hd ?_ trivial rfl rfl rfl <;> clear hI hd <;> (try clear ih0)
      all_goals ((exfalso; clear A5 xs3 do1 do2 TI AZ; grind))
    ·
     have g17' := g17
     refine r_guard rfl rfl rfl (ncf g17) (fun _ => ?_)
     refine r_guard rfl rfl rfl (fun _ => ?_) (ncf g16)
     refine r_op (o_pickF rfl rfl g17 rfl) ?_
     refine r_op (o_pickF rfl rfl g16 rfl) ?_
     refine r_op oM ?_
     refine r_guard rfl rfl rfl (fun _ => ?_) (ncf rfl)
     refine r_op oM ?_
     refine r_guard rfl rfl rfl (fun _ => ?_) (ncf rfl)
     refine r_op (oC 2) ?_
     refine r_guard rfl rfl rfl (fun _ => ?_) (ncf rfl)
     refine r_op (oC 5) ?_
     refine r_guard rfl rfl rfl (fun _ => ?_) (ncf rfl)
     refine r_op (o_call 5 8 false (Go.Proofs.enters_of Tryz.func27 (by kernel_rfl) rfl) (c_spec_ActiveTriggers ((rs2)) ((fs3)) ((b4)) ((hs5)) ((e6)) ((lv7)) ((rv8)) (by omega) (by omega) (by omega) (by omega) (by omega)) rfl (.cons rfl (.agg (.cons .t0 (.cons .t0 .nil))) (.cons rfl (.agg (.cons .t0 (.cons .t0 (.cons .t0 (.cons .t0 (.cons .t0 .nil)))))) .nil)) rfl rfl rfl) ?_
     refine r_guard rfl rfl rfl (fun _ => ?_) (ncf rfl)
     refine r_op (o_call 8 8 false (Go.Proofs.enters_of Tryz.func10 (by kernel_rfl) rfl) (c_laws_sameRows (actL ((rs2)) ((fs3)) ((b4)) ((hs5)) ((e6)) ((lv7)) ((rv8))) (actL ((rs2)) ((fs3)) ((b4)) ((hs5)) ((e6)) ((lv7)) ((rv8))) (by exact Nat.le_trans (actL_size _ _ _ _ _ _ _) (by decide))) rfl (.cons rfl (.c (.own rfl)) (.cons rfl (.c (.own rfl)) .nil)) rfl rfl rfl) ?_
     refine r_guard rfl rfl rfl (fun _ => ?_) (ncf rfl)
     refine r_op (o_not rfl rfl) ?_
     refine r_op (o_pickF rfl rfl rfl rfl) ?_
     refine r_end ?_
     refine t_cond rfl (fun h37 => ?_) (fun h37 => ?_)
     ·
      have h37' := of_decide_eq_false (bnt h37)
      refine tsr ?_
      refine r_op oA ?_
      refine r_end ?_
      refine t_ret Tryz.func4 (.tmp rfl .nil) rfl fun E S w u hI hd => ?_
      refine post_mk hI hd ?_ trivial rfl rfl rfl <;> clear hI hd <;> (try clear ih0)
      all_goals ((exfalso; clear A5 xs3 do1 do2 TI AZ; grind))
     ·
      have h37' := of_decide_eq_true (bnf h37)
      refine t_skip ?_
      refine t_seq ?_
      refine tsr ?_
      refine r_op oA ?_
      refine r_end ?_
      refine t_block ?_
      refine t_loopL (fun m => ⟨[(3, some (.c (.ptr 0 0))), (4, some (.c (.ptr 1 0))), (5, some (.c (.t none (.sl 1 encI ((v9)))))), (6, some (.c (.t none (.v (.bool (actOk ((rs2)) ((fs3)) ((b4)) ((hs5)) ((e6)) ((lv7)) ((rv8)) ((v9)))))))), (7, some (.c (.t none (.v (.bool (trgOk ((rs2)) ((fs3)) ((b4)) ((hs5)) ((e6)) ((lv7)) ((rv8)) ((v9)))))))), (8, some (.c (.own 4))), (9, some (.c (.t none (.v (.int .i64 ((m : Int)))))))], [(0, some (.box [.t none (.sl 3 (enS3 encS encI encB) ((rs2))), .t none (.sl 2 (enS2 encI (enSl 1 encI)) ((fs3)))])), (1, some (.box [.t none (.sl 2 (enS2 encI (enSl 1 encI)) ((b4))), .t none (.sl 2 (enS2 encI (enSl 1 encI)) ((hs5))), .t none (.v (.bool ((e6)))), .t none (.v (.int .i64 ((lv7)))), .t none (.v (.int .i64 ((rv8))))])), (4, some (.row none 34 true 1 (enSl 1 encI) (actL ((rs2)) ((fs3)) ((b4)) ((hs5)) ((e6)) ((lv7)) ((rv8))))), (7, some (.row none 34 true 1 (enSl 1 encI) (actL ((rs2)) ((fs3)) ((b4)) ((hs5)) ((e6)) ((lv7)) ((rv8)))))], 8⟩ : Nat → St) (fun m => m ≤ (actL rs2 fs3 b4 hs5 e6 lv7 rv8).length) (fun m => (actL rs2 fs3 b4 hs5 e6 lv7 rv8).length - m) 0 ⟨⟨rfl, ⟨rfl, ⟨rfl, ⟨rfl, ⟨rfl, ⟨rfl, ⟨rfl, trivial⟩⟩⟩⟩⟩⟩⟩, ⟨rfl, ⟨rfl, ⟨rfl, ⟨rfl, trivial⟩⟩⟩⟩, rfl⟩ (by exact Nat.zero_le _) ?_
      rintro m hI ih0
      try dsimp only at hI ih0
      have i1 := hI
      refine t_seq ?_
      refine tsr ?_
      refine r_op oM ?_
      refine r_op oM ?_
      refine r_op (o_leno rfl rfl rfl rfl) ?_
      refine r_op oB ?_
      refine r_end ?_
      refine t_cond rfl (fun h38 => ?_) (fun h38 => ?_)
      ·
       have h38' := of_decide_eq_true h38
       refine t_skip ?_
       refine t_seq ?_
       refine t_block ?_
       refine t_seq ?_
       refine t_draw (fun _ => true) (by kernel_rfl) ?_
       refine dT 0 rfl (pC 2) ?_
       refine dT 1 rfl (pC 5) ?_
       refine dT 2 rfl pM ?_
       refine dT 3 rfl pM ?_
       obtain ⟨z39, hz40, b41⟩ := at_get (xs := actL ((rs2)) ((fs3)) ((b4)) ((hs5)) ((e6)) ((lv7)) ((rv8))) (n := (m : Int)) (by omega) (by omega)
       refine dT 4 rfl (p_indexo (by kernel_rfl) rfl rfl rfl b41 (at_lt b41 hz40)) ?_
       refine dT 5 rfl (p_load1o (by kernel_rfl) rfl rfl rfl hz40) ?_
       refine dO 6 rfl (o_call 8 8 false (Go.Proofs.enters_of Tryz.func22 (by kernel_rfl) rfl) (c_impl_IsActiveTrigger ((rs2)) ((fs3)) ((b4)) ((hs5)) ((e6)) ((lv7)) ((rv8)) (z39) (by omega) (by omega) (by omega) (by omega) (by omega) (by exact (A5 _ _ (by assumption)).2) (by (have e7 := A5 _ _ (by assumption); omega))) rfl (.cons rfl (.agg (.cons .t0 (.cons .t0 .nil))) (.cons rfl (.agg (.cons .t0 (.cons .t0 (.cons .t0 (.cons .t0 (.cons .t0 .nil)))))) (.cons rfl (.c .t1) .nil))) rfl rfl rfl) ?_
       refine dT 7 rfl (p_not rfl) ?_
       refine d_end (by kernel_rfl) ?_
       refine t_cond rfl (fun h42 => ?_) (fun h42 => ?_)
       ·
        have h42' := (bnt h42)
        refine tsr ?_
        refine r_op oA ?_
        refine r_end ?_
        refine t_ret Tryz.func4 (.tmp rfl .nil) rfl fun E S w u hI hd => ?_
        refine post_mk hI hd ?_ trivial rfl rfl rfl <;> clear hI hd <;> (try clear ih0)
        all_goals ((exfalso; clear A5 xs3 do1 do2 TI AZ; grind))
       ·
        have h42' := (bnf h42)
        refine t_skip ?_
        refine t_endblock ?_
        refine t_region ?_
        refine r_op oM ?_
        refine r_op oB ?_
        refine r_op oA ?_
        refine r_end ?_
        refine t_le ?_ (ih0 (m + 1) (by (try dsimp only); omega) (by (try dsimp only); omega))
        exact ⟨⟨rfl, ⟨rfl, ⟨rfl, ⟨rfl, ⟨rfl, ⟨rfl, ⟨(eqI (wr64 (by omega) (by omega))), trivial⟩⟩⟩⟩⟩⟩⟩, ⟨rfl, ⟨rfl, ⟨rfl, ⟨rfl, trivial⟩⟩⟩⟩, rfl⟩
      ·
       have h38' := of_decide_eq_false h38
       refine t_exit rfl ?_
       refine t_seq ?_
       refine t_draw (fun _ => true) (by kernel_rfl) ?_
       refine dT 0 rfl pM ?_
       refine dT 1 rfl pM ?_
       refine dT 2 rfl pM ?_
       refine dO 3 rfl (o_call 8 8 false (Go.Proofs.enters_of Tryz.func15 (by kernel_rfl) rfl) (c_laws_inRows (actL ((rs2)) ((fs3)) ((b4)) ((hs5)) ((e6)) ((lv7)) ((rv8))) ((v9)) (by exact Nat.le_trans (actL_size _ _ _ _ _ _ _) (by decide))) rfl (.cons rfl (.c (.own rfl)) (.cons rfl (.c .t0) .nil)) rfl rfl rfl) ?_
       refine dT 4 rfl (p_eqB Tryz.underlying4 rfl rfl) ?_
       refine dT 5 rfl pM ?_
       refine dH 6 rfl (fun _ => pM) (fun g43 => ?_) (fun g43 => ?_)
       ·
        have g43' := g43
        refine dH 7 rfl (fun _ => p_not rfl) (fun _ => ?_) (nc g43)
        refine dH 8 rfl (fun _ => pM) (fun _ => ?_) (nc g43)
        refine dH 9 rfl (fun _ => pM) (fun g44 => ?_) (fun g44 => ?_)
        ·
         have g44' := (bnf g44)
         refine dH 10 rfl (fun _ => pF 2) (fun _ => ?_) (ncf g44)
         refine dH 11 rfl (fun _ => pL) (fun _ => ?_) (ncf g44)
         refine dH 12 rfl (fun _ => pM) (fun _ => ?_) (ncf g44)
         refine dH 13 rfl (fun _ => pM) (fun g45 => ?_) (fun g45 => ?_)
         ·
          have g45' := g45
          refine dH 14 rfl (fun _ => pF 3) (fun _ => ?_) (nc g45)
          refine dH 15 rfl (fun _ => pL) (fun _ => ?_) (nc g45)
          obtain ⟨z46, hz47, b48⟩ := at_get (xs := (v9)) (n := (lv7)) (by exact (TI (by assumption) (by assumption)).1.1) (by exact (TI (by assumption) (by assumption)).1.2)
          refine dH 16 rfl (fun _ => p_index (by kernel_rfl) rfl rfl b48 hz47) (fun _ => ?_) (nc g45)
          refine dH 17 rfl (fun _ => p_load1 (by kernel_rfl) rfl rfl) (fun _ => ?_) (nc g45)
          refine dH 18 rfl (fun _ => pM) (fun _ => ?_) (nc g45)
          refine dH 19 rfl (fun _ => pF 4) (fun _ => ?_) (nc g45)
          refine dH 20 rfl (fun _ => pL) (fun _ => ?_) (nc g45)
          obtain ⟨z49, hz50, b51⟩ := at_get (xs := (v9)) (n := (rv8)) (by exact (TI (by assumption) (by assumption)).2.1) (by exact (TI (by assumption) (by assumption)).2.2)
          refine dH 21 rfl (fun _ => p_index (by kernel_rfl) rfl rfl b51 hz50) (fun _ => ?_) (nc g45)
          refine dH 22 rfl (fun _ => p_load1 (by kernel_rfl) rfl rfl) (fun _ => ?_) (nc g45)
          refine dH 23 rfl (fun _ => pB) (fun _ => ?_) (nc g45)
          refine dH 24 rfl (fun _ => p_pickT rfl g45 rfl) (fun _ => ?_) (ncf g44)
          refine dH 25 rfl (fun _ => pM) (fun _ => ?_) (ncf g44)
          refine dH 26 rfl (fun _ => pF 2) (fun g52 => ?_) (fun g52 => ?_)
          ·
           have g52' := of_decide_eq_false g52
           refine dH 27 rfl (fun _ => pL) (fun _ => ?_) (ncf g52)
           refine dH 28 rfl (fun _ => p_not rfl) (fun _ => ?_) (ncf g52)
           refine dH 29 rfl (fun _ => pM) (fun _ => ?_) (ncf g52)
           refine dH 30 rfl (fun _ => pC 2) (fun g53 => ?_) (fun g53 => ?_)
           ·
            have g53' := (bnt g53)
            refine dH 31 rfl (fun _ => pF 1) (fun _ => ?_) (nc g53)
            refine dH 32 rfl (fun _ => pL) (fun _ => ?_) (nc g53)
            refine dH 33 rfl (fun _ => pM) (fun _ => ?_) (nc g53)
            refine d_onlyG 34 rfl rfl (by kernel_rfl) rfl rfl rfl (fun _ => (o_call 8 8 false (Go.Proofs.enters_of Tryz.func14 (by kernel_rfl) rfl) (c_impl_HasExtension ((rs2)) ((fs3)) ((hs5)) ((v9)) (by omega) (by omega) (by omega) (by omega) (by omega)) rfl (.cons rfl (.agg (.cons .t0 (.cons .t0 .nil))) (.cons rfl (.c .t0) (.cons rfl (.c .t0) .nil))) rfl rfl rfl)) (fun _ => ?_) (nc g53)
            refine dH 35 rfl (fun _ => p_not rfl) (fun _ => ?_) (nc g53)
            refine dH 36 rfl (fun _ => p_pickT rfl g53 rfl) (fun _ => ?_) (ncf g52)
            refine dH 37 rfl (fun _ => p_pickF rfl g52 rfl) (fun _ => ?_) (ncf g44)
            refine dH 38 rfl (fun _ => p_eqB Tryz.underlying4 rfl rfl) (fun _ => ?_) (ncf g44)
            refine dH 39 rfl (fun _ => p_pickF rfl g44 rfl) (fun _ => ?_) (nc g43)
            refine dT 40 rfl (p_pickT rfl g43 rfl) ?_
            refine dT 41 rfl pA ?_
            refine d_end (by kernel_rfl) ?_
            refine t_ret Tryz.func4 (.tmp rfl .nil) rfl fun E S w u hI hd => ?_
            refine post_mk hI hd ?_ trivial rfl rfl rfl <;> clear hI hd <;> (try clear ih0)
            all_goals ((exfalso; clear A5 xs3 do1 do2 TI AZ; grind))
           ·
            have g53' := (bnf g53)
            refine dG 31 (ncf g53) (fun _ => ?_)
            refine dG 32 (ncf g53) (fun _ => ?_)
            refine dG 33 (ncf g53) (fun _ => ?_)
            refine dG 34 (ncf g53) (fun _ => ?_)
            refine dG 35 (ncf g53) (fun _ => ?_)
            refine dH 36 rfl (fun _ => p_pickF rfl g53 rfl) (fun _ => ?_) (ncf g52)
            refine dH 37 rfl (fun _ => p_pickF rfl g52 rfl) (fun _ => ?_) (ncf g44)
            refine dH 38 rfl (fun _ => p_eqB Tryz.underlying4 rfl rfl) (fun _ => ?_) (ncf g44)
            refine dH 39 rfl (fun _ => p_pickF rfl g44 rfl) (fun _ => ?_) (nc g43)
            refine dT 40 rfl (p_pickT rfl g43 rfl) ?_
            refine dT 41 rfl pA ?_
            refine d_end (by kernel_rfl) ?_
            refine t_ret Tryz.func4 (.tmp rfl .nil) rfl fun E S w u hI hd => ?_
            refine post_mk hI hd ?_ trivial rfl rfl rfl <;> clear hI hd <;> (try clear ih0)
            all_goals ((refine scB ?_; clear A5 xs3 do1 do2 TI AZ; grind))
          ·
           have g52' := of_decide_eq_true g52
           refine dG 27 (nc g52) (fun _ => ?_)
           refine dG 28 (nc g52) (fun _ => ?_)
           refine dG 29 (nc g52) (fun _ => ?_)
           refine dK 30 ?_
           refine dK 31 ?_
           refine dK 32 ?_
           refine dK 33 ?_
           refine dK 34 ?_
           refine dK 35 ?_
           refine dG 36 (nc g52) (fun _ => ?_)
           refine dH 37 rfl (fun _ => p_pickT rfl g52 rfl) (fun _ => ?_) (ncf g44)
           refine dH 38 rfl (fun _ => p_eqB Tryz.underlying4 rfl rfl) (fun _ => ?_) (ncf g44)
           refine dH 39 rfl (fun _ => p_pickF rfl g44 rfl) (fun _ => ?_) (nc g43)
           refine dT 40 rfl (p_pickT rfl g43 rfl) ?_
           refine dT 41 rfl pA ?_
           refine d_end (by kernel_rfl) ?_
           refine t_ret Tryz.func4 (.tmp rfl .nil) rfl fun E S w u hI hd => ?_
           refine post_mk hI hd ?_ trivial rfl rfl rfl <;> clear hI hd <;> (try clear ih0)
           all_goals ((exfalso; clear A5 xs3 do1 do2 TI AZ; grind))
         ·
          have g45' := g45
          refine dG 14 (ncf g45) (fun _ => ?_)
          refine dG 15 (ncf g45) (fun _ => ?_)
          refine dG 16 (ncf g45) (fun _ => ?_)
          refine dG 17 (ncf g45) (fun _ => ?_)
          refine dG 18 (ncf g45) (fun _ => ?_)
          refine dG 19 (ncf g45) (fun _ => ?_)
          refine dG 20 (ncf g45) (fun _ => ?_)
          refine dG 21 (ncf g45) (fun _ => ?_)
          refine dG 22 (ncf g45) (fun _ => ?_)
          refine dG 23 (ncf g45) (fun _ => ?_)
          refine dH 24 rfl (fun _ => p_pickF rfl g45 rfl) (fun _ => ?_) (ncf g44)
          refine dH 25 rfl (fun _ => pM) (fun _ => ?_) (ncf g44)
          refine dH 26 rfl (fun _ => pF 2) (fun _ => ?_) (ncf rfl)
          refine dH 27 rfl (fun _ => pL) (fun _ => ?_) (ncf rfl)
          refine dH 28 rfl (fun _ => p_not rfl) (fun _ => ?_) (ncf rfl)
          refine dH 29 rfl (fun _ => pM) (fun _ => ?_) (ncf rfl)
          refine dH 30 rfl (fun _ => pC 2) (fun g54 => ?_) (fun g54 => ?_)
          ·
           have g54' := (bnt g54)
           refine dH 31 rfl (fun _ => pF 1) (fun _ => ?_) (nc g54)
           refine dH 32 rfl (fun _ => pL) (fun _ => ?_) (nc g54)
           refine dH 33 rfl (fun _ => pM) (fun _ => ?_) (nc g54)
           refine d_onlyG 34 rfl rfl (by kernel_rfl) rfl rfl rfl (fun _ => (o_call 8 8 false (Go.Proofs.enters_of Tryz.func14 (by kernel_rfl) rfl) (c_impl_HasExtension ((rs2)) ((fs3)) ((hs5)) ((v9)) (by omega) (by omega) (by omega) (by omega) (by omega)) rfl (.cons rfl (.agg (.cons .t0 (.cons .t0 .nil))) (.cons rfl (.c .t0) (.cons rfl (.c .t0) .nil))) rfl rfl rfl)) (fun _ => ?_) (nc g54)
           refine dH 35 rfl (fun _ => p_not rfl) (fun _ => ?_) (nc g54)
           refine dH 36 rfl (fun _ => p_pickT rfl g54 rfl) (fun _ => ?_) (ncf rfl)
           refine dH 37 rfl (fun _ => p_pickF rfl rfl rfl) (fun _ => ?_) (ncf g44)
           refine dH 38 rfl (fun _ => p_eqB Tryz.underlying4 rfl rfl) (fun _ => ?_) (ncf g44)
           refine dH 39 rfl (fun _ => p_pickF rfl g44 rfl) (fun _ => ?_) (nc g43)
           refine dT 40 rfl (p_pickT rfl g43 rfl) ?_
           refine dT 41 rfl pA ?_
           refine d_end (by kernel_rfl) ?_
           refine t_ret Tryz.func4 (.tmp rfl .nil) rfl fun E S w u hI hd => ?_
           refine post_mk hI hd ?_ trivial rfl rfl rfl <;> clear hI hd <;> (try clear ih0)
           all_goals ((refine scB ?_; clear A5 xs3 do1 do2 TI AZ; grind))
          ·
           have g54' := (bnf g54)
           refine dG 31 (ncf g54) (fun _ => ?_)
           refine dG 32 (ncf g54) (fun _ => ?_)
           refine dG 33 (ncf g54) (fun _ => ?_)
           refine dG 34 (ncf g54) (fun _ => ?_)
           refine dG 35 (ncf g54) (fun _ => ?_)
           refine dH 36 rfl (fun _ => p_pickF rfl g54 rfl) (fun _ => ?_) (ncf rfl)
           refine dH 37 rfl (fun _ => p_pickF rfl rfl rfl) (fun _ => ?_) (ncf g44)
           refine dH 38 rfl (fun _ => p_eqB Tryz.underlying4 rfl rfl) (fun _ => ?_) (ncf g44)
           refine dH 39 rfl (fun _ => p_pickF rfl g44 rfl) (fun _ => ?_) (nc g43)
           refine dT 40 rfl (p_pickT rfl g43 rfl) ?_
           refine dT 41 rfl pA ?_
           refine d_end (by kernel_rfl) ?_
           refine t_ret Tryz.func4 (.tmp rfl .nil) rfl fun E S w u hI hd => ?_
           refine post_mk hI hd ?_ trivial rfl rfl rfl <;> clear hI hd <;> (try clear ih0)
           all_goals ((exfalso; clear A5 xs3 do1 do2 TI AZ; grind))
        ·
         have g44' := (bnt g44)
         refine dG 10 (nc g44) (fun _ => ?_)
         refine dG 11 (nc g44) (fun _ => ?_)
         refine dG 12 (nc g44) (fun _ => ?_)
         refine dK 13 ?_
         refine dK 14 ?_
         refine dK 15 ?_
         refine dK 16 ?_
         refine dK 17 ?_
         refine dK 18 ?_
         refine dK 19 ?_
         refine dK 20 ?_
         refine dK 21 ?_
         refine dK 22 ?_
         refine dK 23 ?_
         refine dG 24 (nc g44) (fun _ => ?_)
         refine dG 25 (nc g44) (fun _ => ?_)
         refine dK 26 ?_
         refine dK 27 ?_
         refine dK 28 ?_
         refine dK 29 ?_
         refine dK 30 ?_
         refine dK 31 ?_
         refine dK 32 ?_
         refine dK 33 ?_
         refine dK 34 ?_
         refine dK 35 ?_
         refine dK 36 ?_
         refine dG 37 (nc g44) (fun _ => ?_)
         refine dG 38 (nc g44) (fun _ => ?_)
         refine dH 39 rfl (fun _ => p_pickT rfl g44 rfl) (fun _ => ?_) (nc g43)
         refine dT 40 rfl (p_pickT rfl g43 rfl) ?_
         refine dT 41 rfl pA ?_
         refine d_end (by kernel_rfl) ?_
         refine t_ret Tryz.func4 (.tmp rfl .nil) rfl fun E S w u hI hd => ?_
         refine post_mk hI hd ?_ trivial rfl rfl rfl <;> clear hI hd <;> (try clear ih0)
         all_goals (rfl)
       ·
        have g43' := g43
        refine dG 7 (ncf g43) (fun _ => ?_)
        refine dG 8 (ncf g43) (fun _ => ?_)
        refine dK 9 ?_
        refine dK 10 ?_
        refine dK 11 ?_
        refine dK 12 ?_
        refine dK 13 ?_
        refine dK 14 ?_
        refine dK 15 ?_
        refine dK 16 ?_
        refine dK 17 ?_
        refine dK 18 ?_
        refine dK 19 ?_
        refine dK 20 ?_
        refine dK 21 ?_
        refine dK 22 ?_
        refine dK 23 ?_
        refine dK 24 ?_
        refine dK 25 ?_
        refine dK 26 ?_
        refine dK 27 ?_
        refine dK 28 ?_
        refine dK 29 ?_
        refine dK 30 ?_
        refine dK 31 ?_
        refine dK 32 ?_
        refine dK 33 ?_
        refine dK 34 ?_
        refine dK 35 ?_
        refine dK 36 ?_
        refine dK 37 ?_
        refine dK 38 ?_
        refine dG 39 (ncf g43) (fun _ => ?_)
        refine dT 40 rfl (p_pickF rfl g43 rfl) ?_
        refine dT 41 rfl pA ?_
        refine d_end (by kernel_rfl) ?_
        refine t_ret Tryz.func4 (.tmp rfl .nil) rfl fun E S w u hI hd => ?_
        refine post_mk hI hd ?_ trivial rfl rfl rfl <;> clear hI hd <;> (try clear ih0)
        all_goals ((exfalso; clear A5 xs3 do1 do2 TI AZ; grind))
   ·
    have g16' := g16
    refine r_guard rfl rfl rfl (nc g16) (fun _ => ?_)
    refine r_skip rfl rfl rfl ?_
    refine r_skip rfl rfl rfl ?_
    refine r_guard rfl rfl rfl (nc g16) (fun _ => ?_)
    refine r_op (o_pickT rfl rfl g16 rfl) ?_
    refine r_op oM ?_
    refine r_guard rfl rfl rfl (nc rfl) (fun _ => ?_)
    refine r_guard rfl rfl rfl (nc rfl) (fun _ => ?_)
    refine r_guard rfl rfl rfl (nc rfl) (fun _ => ?_)
    refine r_guard rfl rfl rfl (nc rfl) (fun _ => ?_)
    refine r_guard rfl rfl rfl (nc rfl) (fun _ => ?_)
    refine r_guard rfl rfl rfl (nc rfl) (fun _ => ?_)
    refine r_op (o_pickT rfl rfl rfl rfl) ?_
    refine r_end ?_
    refine t_cond rfl (fun _ => ?_) (nc rfl)
    refine tsr ?_
    refine r_op oA ?_
    refine r_end ?_
    refine t_ret Tryz.func4 (.tmp rfl .nil) rfl fun E S w u hI hd => ?_
    refine post_mk hI hd ?_ trivial rfl rfl rfl <;> clear hI hd <;> (try clear ih0)
    all_goals ((exfalso; clear A5 xs3 do1 do2 TI AZ; grind))
  ·
   have g15' := g15
   refine r_guard rfl rfl rfl (nc g15) (fun _ => ?_)
   refine r_guard rfl rfl rfl (nc g15) (fun _ => ?_)
   refine r_guard rfl rfl rfl (nc g15) (fun _ => ?_)
   refine r_guard rfl rfl rfl (nc g15) (fun _ => ?_)
   refine r_guard rfl rfl rfl (nc g15) (fun _ => ?_)
   refine r_op (o_pickT rfl rfl g15 rfl) ?_
   refine r_op oM ?_
   refine r_guard rfl rfl rfl (nc rfl) (fun _ => ?_)
   refine r_guard rfl rfl rfl (nc rfl) (fun _ => ?_)
   refine r_skip rfl rfl rfl ?_
   refine r_skip rfl rfl rfl ?_
   refine r_guard rfl rfl rfl (nc rfl) (fun _ => ?_)
   refine r_op (o_pickT rfl rfl rfl rfl) ?_
   refine r_op oM ?_
   refine r_guard rfl rfl rfl (nc rfl) (fun _ => ?_)
   refine r_guard rfl rfl rfl (nc rfl) (fun _ => ?_)
   refine r_guard rfl rfl rfl (nc rfl) (fun _ => ?_)
   refine r_guard rfl rfl rfl (nc rfl) (fun _ => ?_)
   refine r_guard rfl rfl rfl (nc rfl) (fun _ => ?_)
   refine r_guard rfl rfl rfl (nc rfl) (fun _ => ?_)
   refine r_op (o_pickT rfl rfl rfl rfl) ?_
   refine r_end ?_
   refine t_cond rfl (fun _ => ?_) (nc rfl)
   refine tsr ?_
   refine r_op oA ?_
   refine r_end ?_
   refine t_ret Tryz.func4 (.tmp rfl .nil) rfl fun E S w u hI hd => ?_
   refine post_mk hI hd ?_ trivial rfl rfl rfl <;> clear hI hd <;> (try clear ih0)
   all_goals ((exfalso; clear A5 xs3 do1 do2 TI AZ; grind))
end Go.Eng
