/- What the functions that FnWeakAcyclicity reaches answer. -/
import Derived.Test.YtjjoopbebildfaaGreatDoorFnsFnWeakAcyclicityp1
import Derived.Test.YtjjoopbebildfaaGreatDoorEngZ
import Derived.Test.YtjjoopbebildfaaGreatDoorChecked
set_option linter.unusedVariables false
set_option linter.unusedSimpArgs false
namespace Go.Eng
open Go Go.RowKit Go.Proofs
set_option maxHeartbeats 1000000 in
set_option maxRecDepth 10000 in
theorem c_spec_IsValidDependency (rs : Rels) (a0 : List (Int × (List (Int)))) (a1 : List (Int × (List (Int)))) (a2 : Bool) (a3 : Int) (a4 : Int) (hrs : rs.length ≤ 4611686018427387904) (hs : szS (fun (x : Int × (List (Int))) => (x.2).length) a0 + szS (fun (x : Int × (List (Int))) => (x.2).length) a1 ≤ 1048576) : Pu Tryz.prog 54 [.c (.t none (.sl 3 (enS3 encS encI encB) (rs))), .agg [.t none (.sl 2 (enS2 encI (enSl 1 encI)) (a0)), .t none (.sl 2 (enS2 encI (enSl 1 encI)) (a1)), .t none (.v (.bool (a2))), .t none (.v (.int .i64 (a3))), .t none (.v (.int .i64 (a4)))]] [] 0 (.c (.t none (.v (.bool (depOk rs a0 a1 a2 a3 a4))))) := by
  refine pu_enter Tryz.func54 rfl (Nat.le_of_ble_eq_true rfl) fun w S => ?_
  have g0 := sz_len (f := (fun (x : Int × (List (Int))) => (x.2).length)) (l := a0); have g1 := sz_len (f := (fun (x : Int × (List (Int))) => (x.2).length)) (l := a1); have v0 := setI_len (varsL a0); have v1 := varsL_size a0
  refine t_seq ?_
  refine t_region ?_
  refine r_op (o_box 0 rfl rfl rfl rfl) ?_
  refine r_op (o_assign rfl rfl) ?_
  refine r_end ?_
  refine t_seq ?_
  refine t_seq ?_
  refine t_region ?_
  refine r_op (o_fieldb rfl (off := 0) (by kernel_rfl) rfl) ?_
  refine r_op (o_load1b rfl (by kernel_rfl) rfl rfl rfl) ?_
  refine r_op (o_len rfl rfl rfl) ?_
  refine r_op (o_call 1 1 false (Go.Proofs.enters_of Tryz.func77 (by kernel_rfl) rfl) (c_spec_l1In (((a0).length : Int)) (1) (2)) rfl (.cons rfl (.c .t0) (.cons rfl (.c .t0) (.cons rfl (.c .t0) .nil))) rfl rfl rfl) ?_
  refine r_op (o_not rfl rfl) ?_
  refine r_end ?_
  refine t_cond rfl (fun h1 => ?_) (fun h1 => ?_)
  ·
    have h1' := of_decide_eq_false (bnt h1)
    refine t_seq ?_
    refine t_region ?_
    refine r_op (o_assign rfl rfl) ?_
    refine r_end ?_
    refine t_ret Tryz.func54 (.tmp rfl .nil) rfl fun E S w u hI hd => ?_
    refine post_mk hI hd ?_ trivial rfl rfl rfl <;> clear hI hd <;> (try clear ih0) <;> (try clear ih1)
    all_goals (refine scB ?_; (try (have qA := iA (by omega))); (try (have qK := kA (by omega))); (try (have qB := any_true (p := badA rs) (l := a0) (m := m) (by assumption) (by unfold badA; grind))); (try (have qC := any_true (p := badA rs) (l := a1) (m := n) (by assumption) (by unfold badA; grind))); (try (have qS := srcA_at (rs := rs) (r := (by assumption).1) (ts := (by assumption).2) (by assumption); have qD := any_true (p := srcA rs) (l := a1) (m := n) (by assumption) (by grind))); clear hs g0 g1 v0 v1; unfold depOk atomsOk; grind)
  ·
    have h1' := of_decide_eq_true (bnf h1)
    refine t_skip ?_
    refine t_seq ?_
    refine t_seq ?_
    refine t_region ?_
    refine r_op (o_assign rfl rfl) ?_
    refine r_end ?_
    refine t_block ?_
    refine t_loopL (fun m => ⟨[(0, some (.c (.t none (.sl 3 (enS3 encS encI encB) (rs))))), (3, some (.c (.ptr 0 0))), (5, some (.c (.t none (.v (.int .i64 ((m : Int)))))))], [(0, some (.box [.t none (.sl 2 (enS2 encI (enSl 1 encI)) (a0)), .t none (.sl 2 (enS2 encI (enSl 1 encI)) (a1)), .t none (.v (.bool (a2))), .t none (.v (.int .i64 (a3))), .t none (.v (.int .i64 (a4)))]))], 1⟩ : Nat → St) (fun m => m ≤ a0.length ∧ ∀ j z, j < m → a0[j]? = some z → badA rs z = false) (fun m => a0.length - m) 0 ⟨⟨rfl, ⟨rfl, ⟨rfl, trivial⟩⟩⟩, ⟨rfl, trivial⟩, rfl⟩ (by exact ⟨Nat.zero_le _, fun j z h => by omega⟩) ?_
    rintro m hI ih0
    try dsimp only at hI ih0
    obtain ⟨i1, i2⟩ := hI; have iA : a0.length ≤ m → a0.any (badA rs) = false := fun e => any_false i2 e
    refine t_seq ?_
    refine t_seq ?_
    refine t_region ?_
    refine r_op (o_move rfl rfl) ?_
    refine r_op (o_fieldb rfl (off := 0) (by kernel_rfl) rfl) ?_
    refine r_op (o_load1b rfl (by kernel_rfl) rfl rfl rfl) ?_
    refine r_op (o_len rfl rfl rfl) ?_
    refine r_op (o_bin rfl rfl rfl rfl) ?_
    refine r_end ?_
    refine t_cond rfl (fun h2 => ?_) (fun h2 => ?_)
    ·
      have h2' := of_decide_eq_true h2
      refine t_skip ?_
      refine t_seq ?_
      refine t_block ?_
      refine t_seq ?_
      refine t_region ?_
      refine r_op (o_move rfl rfl) ?_
      refine r_op (o_fieldb rfl (off := 0) (by kernel_rfl) rfl) ?_
      refine r_op (o_load1b rfl (by kernel_rfl) rfl rfl rfl) ?_
      refine r_op (o_move rfl rfl) ?_
      obtain ⟨z3, hz4, b5⟩ := at_get (xs := a0) (n := (m : Int)) (by omega) (by omega)
      refine r_op (o_index rfl (by kernel_rfl) rfl rfl b5 hz4) ?_
      refine r_op (o_loadA rfl (n := 2) (by kernel_rfl) (by kernel_rfl) rfl rfl) ?_
      refine r_op (o_call 1 1 false (Go.Proofs.enters_of Tryz.func104 (by kernel_rfl) rfl) (c_spec_IsValidAtom (rs) (z3.1) (z3.2) (by omega) (by (have e1 := sz_at (f := (fun (x : Int × (List (Int))) => (x.2).length)) (l := a0) (m := m) (by assumption); (try dsimp only at e1); omega))) rfl (.cons rfl (.c .t0) (.cons rfl (.agg (.cons .t0 (.cons .t0 .nil))) .nil)) rfl rfl rfl) ?_
      refine r_op (o_not rfl rfl) ?_
      refine r_end ?_
      refine t_cond rfl (fun h6 => ?_) (fun h6 => ?_)
      ·
        have h6' := (bnt h6)
        refine t_seq ?_
        refine t_region ?_
        refine r_op (o_assign rfl rfl) ?_
        refine r_end ?_
        refine t_ret Tryz.func54 (.tmp rfl .nil) rfl fun E S w u hI hd => ?_
        refine post_mk hI hd ?_ trivial rfl rfl rfl <;> clear hI hd <;> (try clear ih0) <;> (try clear ih1)
        all_goals (refine scB ?_; (try (have qA := iA (by omega))); (try (have qK := kA (by omega))); (try (have qB := any_true (p := badA rs) (l := a0) (m := m) hz4 (by unfold badA; grind))); (try (have qC := any_true (p := badA rs) (l := a1) (m := n) hz4 (by unfold badA; grind))); (try (have qS := srcA_at (rs := rs) (r := z3.1) (ts := z3.2) (by assumption); have qD := any_true (p := srcA rs) (l := a1) (m := n) hz4 (by grind))); clear hs g0 g1 v0 v1; unfold depOk atomsOk; grind)
      ·
        have h6' := (bnf h6)
        refine t_skip ?_
        refine t_endblock ?_
        refine t_region ?_
        refine r_op (o_move rfl rfl) ?_
        refine r_op (o_bin rfl rfl rfl rfl) ?_
        refine r_op (o_assign rfl rfl) ?_
        refine r_end ?_
        refine t_le ?_ (ih0 (m + 1) (by (try dsimp only); omega) (by (try dsimp only); exact ⟨by omega, no_step i2 (by assumption) rfl (by unfold badA; grind)⟩))
        exact ⟨⟨rfl, ⟨rfl, ⟨(eqI (wr64 (by omega) (by omega))), trivial⟩⟩⟩, ⟨rfl, trivial⟩, rfl⟩
    ·
      have h2' := of_decide_eq_false h2
      refine t_exit rfl ?_
      refine t_seq ?_
      refine t_seq ?_
      refine t_region ?_
      refine r_op (o_fieldb rfl (off := 2) (by kernel_rfl) rfl) ?_
      refine r_op (o_load1b rfl (by kernel_rfl) rfl rfl rfl) ?_
      refine r_end ?_
      refine t_cond rfl (fun h7 => ?_) (fun h7 => ?_)
      ·
        have h7' := h7
        refine t_seq ?_
        refine t_region ?_
        refine r_op (o_fieldb rfl (off := 0) (by kernel_rfl) rfl) ?_
        refine r_op (o_load1b rfl (by kernel_rfl) rfl rfl rfl) ?_
        refine r_op (o_call 1 2 false (Go.Proofs.enters_of Tryz.func105 (by kernel_rfl) rfl) (c_spec_Variables (a0) (by omega)) rfl (.cons rfl (.c .t0) .nil) rfl rfl rfl) ?_
        refine r_op (o_assign rfl rfl) ?_
        refine r_end ?_
        refine t_seq ?_
        refine t_region ?_
        refine r_op (o_fieldb rfl (off := 1) (by kernel_rfl) rfl) ?_
        refine r_op (o_load1b rfl (by kernel_rfl) rfl rfl rfl) ?_
        refine r_op (o_len rfl rfl rfl) ?_
        refine r_op (o_bin rfl rfl rfl rfl) ?_
        refine r_op (o_move rfl rfl) ?_
        refine r_guard rfl rfl rfl (fun g8 => ?_) (fun g8 => ?_)
        ·
          have g8' := of_decide_eq_true g8
          refine r_op (o_move rfl rfl) ?_
          refine r_guard rfl rfl rfl (fun _ => ?_) (nc g8)
          refine r_op (o_fieldb rfl (off := 3) (by kernel_rfl) rfl) ?_
          refine r_guard rfl rfl rfl (fun _ => ?_) (nc g8)
          refine r_op (o_load1b rfl (by kernel_rfl) rfl rfl rfl) ?_
          refine r_guard rfl rfl rfl (fun _ => ?_) (nc g8)
          refine r_op (o_call 2 2 false (Go.Proofs.enters_of Tryz.func106 (by kernel_rfl) rfl) (c_spec_l4Has (setI (varsL (a0))) (a3) (by omega)) rfl (.cons rfl (.c (.own rfl)) (.cons rfl (.c .t0) .nil)) rfl rfl rfl) ?_
          refine r_op (o_pickT rfl rfl g8 rfl) ?_
          refine r_op (o_move rfl rfl) ?_
          refine r_guard rfl rfl rfl (fun g9 => ?_) (fun g9 => ?_)
          ·
            have g9' := g9
            refine r_op (o_move rfl rfl) ?_
            refine r_guard rfl rfl rfl (fun _ => ?_) (nc g9)
            refine r_op (o_fieldb rfl (off := 4) (by kernel_rfl) rfl) ?_
            refine r_guard rfl rfl rfl (fun _ => ?_) (nc g9)
            refine r_op (o_load1b rfl (by kernel_rfl) rfl rfl rfl) ?_
            refine r_guard rfl rfl rfl (fun _ => ?_) (nc g9)
            refine r_op (o_call 2 2 false (Go.Proofs.enters_of Tryz.func106 (by kernel_rfl) rfl) (c_spec_l4Has (setI (varsL (a0))) (a4) (by omega)) rfl (.cons rfl (.c (.own rfl)) (.cons rfl (.c .t0) .nil)) rfl rfl rfl) ?_
            refine r_op (o_pickT rfl rfl g9 rfl) ?_
            refine r_op (o_move rfl rfl) ?_
            refine r_guard rfl rfl rfl (fun g10 => ?_) (fun g10 => ?_)
            ·
              have g10' := g10
              refine r_op (o_fieldb rfl (off := 3) (by kernel_rfl) rfl) ?_
              refine r_guard rfl rfl rfl (fun _ => ?_) (nc g10)
              refine r_op (o_load1b rfl (by kernel_rfl) rfl rfl rfl) ?_
              refine r_guard rfl rfl rfl (fun _ => ?_) (nc g10)
              refine r_op (o_fieldb rfl (off := 4) (by kernel_rfl) rfl) ?_
              refine r_guard rfl rfl rfl (fun _ => ?_) (nc g10)
              refine r_op (o_load1b rfl (by kernel_rfl) rfl rfl rfl) ?_
              refine r_guard rfl rfl rfl (fun _ => ?_) (nc g10)
              refine r_op (o_bin rfl rfl rfl rfl) ?_
              refine r_op (o_pickT rfl rfl g10 rfl) ?_
              refine r_op (o_assign rfl rfl) ?_
              refine r_end ?_
              refine t_ret Tryz.func54 (.tmp rfl .nil) rfl fun E S w u hI hd => ?_
              refine post_mk hI hd ?_ trivial rfl rfl rfl <;> clear hI hd <;> (try clear ih0) <;> (try clear ih1)
              all_goals (refine scB ?_; (try (have qA := iA (by omega))); (try (have qK := kA (by omega))); (try (have qB := any_true (p := badA rs) (l := a0) (m := m) (by assumption) (by unfold badA; grind))); (try (have qC := any_true (p := badA rs) (l := a1) (m := n) (by assumption) (by unfold badA; grind))); (try (have qS := srcA_at (rs := rs) (r := (by assumption).1) (ts := (by assumption).2) (by assumption); have qD := any_true (p := srcA rs) (l := a1) (m := n) (by assumption) (by grind))); clear hs g0 g1 v0 v1; unfold depOk atomsOk; grind)
            ·
              have g10' := g10
              refine r_guard rfl rfl rfl (ncf g10) (fun _ => ?_)
              refine r_guard rfl rfl rfl (ncf g10) (fun _ => ?_)
              refine r_guard rfl rfl rfl (ncf g10) (fun _ => ?_)
              refine r_guard rfl rfl rfl (ncf g10) (fun _ => ?_)
              refine r_op (o_pickF rfl rfl g10 rfl) ?_
              refine r_op (o_assign rfl rfl) ?_
              refine r_end ?_
              refine t_ret Tryz.func54 (.tmp rfl .nil) rfl fun E S w u hI hd => ?_
              refine post_mk hI hd ?_ trivial rfl rfl rfl <;> clear hI hd <;> (try clear ih0) <;> (try clear ih1)
              all_goals (refine scB ?_; (try (have qA := iA (by omega))); (try (have qK := kA (by omega))); (try (have qB := any_true (p := badA rs) (l := a0) (m := m) (by assumption) (by unfold badA; grind))); (try (have qC := any_true (p := badA rs) (l := a1) (m := n) (by assumption) (by unfold badA; grind))); (try (have qS := srcA_at (rs := rs) (r := (by assumption).1) (ts := (by assumption).2) (by assumption); have qD := any_true (p := srcA rs) (l := a1) (m := n) (by assumption) (by grind))); clear hs g0 g1 v0 v1; unfold depOk atomsOk; grind)
          ·
            have g9' := g9
            refine r_guard rfl rfl rfl (ncf g9) (fun _ => ?_)
            refine r_guard rfl rfl rfl (ncf g9) (fun _ => ?_)
            refine r_guard rfl rfl rfl (ncf g9) (fun _ => ?_)
            refine r_op (o_pickF rfl rfl g9 rfl) ?_
            refine r_op (o_move rfl rfl) ?_
            refine r_guard rfl rfl rfl (ncf rfl) (fun _ => ?_)
            refine r_guard rfl rfl rfl (ncf rfl) (fun _ => ?_)
            refine r_guard rfl rfl rfl (ncf rfl) (fun _ => ?_)
            refine r_guard rfl rfl rfl (ncf rfl) (fun _ => ?_)
            refine r_guard rfl rfl rfl (ncf rfl) (fun _ => ?_)
            refine r_op (o_pickF rfl rfl rfl rfl) ?_
            refine r_op (o_assign rfl rfl) ?_
            refine r_end ?_
            refine t_ret Tryz.func54 (.tmp rfl .nil) rfl fun E S w u hI hd => ?_
            refine post_mk hI hd ?_ trivial rfl rfl rfl <;> clear hI hd <;> (try clear ih0) <;> (try clear ih1)
            all_goals (refine scB ?_; (try (have qA := iA (by omega))); (try (have qK := kA (by omega))); (try (have qB := any_true (p := badA rs) (l := a0) (m := m) (by assumption) (by unfold badA; grind))); (try (have qC := any_true (p := badA rs) (l := a1) (m := n) (by assumption) (by unfold badA; grind))); (try (have qS := srcA_at (rs := rs) (r := (by assumption).1) (ts := (by assumption).2) (by assumption); have qD := any_true (p := srcA rs) (l := a1) (m := n) (by assumption) (by grind))); clear hs g0 g1 v0 v1; unfold depOk atomsOk; grind)
        ·
          have g8' := of_decide_eq_false g8
          refine r_guard rfl rfl rfl (ncf g8) (fun _ => ?_)
          refine r_guard rfl rfl rfl (ncf g8) (fun _ => ?_)
          refine r_guard rfl rfl rfl (ncf g8) (fun _ => ?_)
          refine r_op (o_pickF rfl rfl g8 rfl) ?_
          refine r_op (o_move rfl rfl) ?_
          refine r_guard rfl rfl rfl (ncf rfl) (fun _ => ?_)
          refine r_guard rfl rfl rfl (ncf rfl) (fun _ => ?_)
          refine r_guard rfl rfl rfl (ncf rfl) (fun _ => ?_)
          refine r_guard rfl rfl rfl (ncf rfl) (fun _ => ?_)
          refine r_op (o_pickF rfl rfl rfl rfl) ?_
          refine r_op (o_move rfl rfl) ?_
          refine r_guard rfl rfl rfl (ncf rfl) (fun _ => ?_)
          refine r_guard rfl rfl rfl (ncf rfl) (fun _ => ?_)
          refine r_guard rfl rfl rfl (ncf rfl) (fun _ => ?_)
          refine r_guard rfl rfl rfl (ncf rfl) (fun _ => ?_)
          refine r_guard rfl rfl rfl (ncf rfl) (fun _ => ?_)
          refine r_op (o_pickF rfl rfl rfl rfl) ?_
          refine r_op (o_assign rfl rfl) ?_
          refine r_end ?_
          refine t_ret Tryz.func54 (.tmp rfl .nil) rfl fun E S w u hI hd => ?_
          refine post_mk hI hd ?_ trivial rfl rfl rfl <;> clear hI hd <;> (try clear ih0) <;> (try clear ih1)
          all_goals (refine scB ?_; (try (have qA := iA (by omega))); (try (have qK := kA (by omega))); (try (have qB := any_true (p := badA rs) (l := a0) (m := m) (by assumption) (by unfold badA; grind))); (try (have qC := any_true (p := badA rs) (l := a1) (m := n) (by assumption) (by unfold badA; grind))); (try (have qS := srcA_at (rs := rs) (r := (by assumption).1) (ts := (by assumption).2) (by assumption); have qD := any_true (p := srcA rs) (l := a1) (m := n) (by assumption) (by grind))); clear hs g0 g1 v0 v1; unfold depOk atomsOk; grind)
      ·
        have h7' := h7
        refine t_skip ?_
        refine t_seq ?_
        refine t_seq ?_
        refine t_region ?_
        refine r_op (o_assign rfl rfl) ?_
        refine r_end ?_
        refine t_block ?_
        refine t_loopL (fun n => ⟨[(0, some (.c (.t none (.sl 3 (enS3 encS encI encB) (rs))))), (3, some (.c (.ptr 0 0))), (7, some (.c (.t none (.v (.int .i64 ((n : Int)))))))], [(0, some (.box [.t none (.sl 2 (enS2 encI (enSl 1 encI)) (a0)), .t none (.sl 2 (enS2 encI (enSl 1 encI)) (a1)), .t none (.v (.bool (a2))), .t none (.v (.int .i64 (a3))), .t none (.v (.int .i64 (a4)))]))], 1⟩ : Nat → St) (fun n => n ≤ a1.length ∧ ∀ j z, j < n → a1[j]? = some z → (badA rs z || srcA rs z) = false) (fun n => a1.length - n) 0 ⟨⟨rfl, ⟨rfl, ⟨rfl, trivial⟩⟩⟩, ⟨rfl, trivial⟩, rfl⟩ (by exact ⟨Nat.zero_le _, fun j z h => by omega⟩) ?_
        rintro n hI ih1
        try dsimp only at hI ih1
        obtain ⟨k1, k2⟩ := hI; (have kA : a1.length ≤ n → a1.any (badA rs) = false ∧ a1.any (srcA rs) = false := fun e => ⟨any_false (fun j z h h2 => by have := k2 j z h h2; simp_all) e, any_false (fun j z h h2 => by have := k2 j z h h2; simp_all) e⟩)
        refine t_seq ?_
        refine t_seq ?_
        refine t_region ?_
        refine r_op (o_move rfl rfl) ?_
        refine r_op (o_fieldb rfl (off := 1) (by kernel_rfl) rfl) ?_
        refine r_op (o_load1b rfl (by kernel_rfl) rfl rfl rfl) ?_
        refine r_op (o_len rfl rfl rfl) ?_
        refine r_op (o_bin rfl rfl rfl rfl) ?_
        refine r_end ?_
        refine t_cond rfl (fun h11 => ?_) (fun h11 => ?_)
        ·
          have h11' := of_decide_eq_true h11
          refine t_skip ?_
          refine t_seq ?_
          refine t_block ?_
          refine t_seq ?_
          refine t_region ?_
          refine r_op (o_move rfl rfl) ?_
          refine r_op (o_fieldb rfl (off := 1) (by kernel_rfl) rfl) ?_
          refine r_op (o_load1b rfl (by kernel_rfl) rfl rfl rfl) ?_
          refine r_op (o_move rfl rfl) ?_
          obtain ⟨z12, hz13, b14⟩ := at_get (xs := a1) (n := (n : Int)) (by omega) (by omega)
          refine r_op (o_index rfl (by kernel_rfl) rfl rfl b14 hz13) ?_
          refine r_op (o_loadA rfl (n := 2) (by kernel_rfl) (by kernel_rfl) rfl rfl) ?_
          refine r_op (o_call 1 1 false (Go.Proofs.enters_of Tryz.func104 (by kernel_rfl) rfl) (c_spec_IsValidAtom (rs) (z12.1) (z12.2) (by omega) (by (have e1 := sz_at (f := (fun (x : Int × (List (Int))) => (x.2).length)) (l := a1) (m := n) (by assumption); (try dsimp only at e1); omega))) rfl (.cons rfl (.c .t0) (.cons rfl (.agg (.cons .t0 (.cons .t0 .nil))) .nil)) rfl rfl rfl) ?_
          refine r_op (o_not rfl rfl) ?_
          refine r_op (o_move rfl rfl) ?_
          refine r_guard rfl rfl rfl (fun g15 => ?_) (fun g15 => ?_)
          ·
            have g15' := (bnf g15)
            refine r_op (o_move rfl rfl) ?_
            refine r_guard rfl rfl rfl (fun _ => ?_) (ncf g15)
            refine r_op (o_fieldb rfl (off := 1) (by kernel_rfl) rfl) ?_
            refine r_guard rfl rfl rfl (fun _ => ?_) (ncf g15)
            refine r_op (o_load1b rfl (by kernel_rfl) rfl rfl rfl) ?_
            refine r_guard rfl rfl rfl (fun _ => ?_) (ncf g15)
            refine r_op (o_move rfl rfl) ?_
            refine r_guard rfl rfl rfl (fun _ => ?_) (ncf g15)
            refine r_op (o_index rfl (by kernel_rfl) rfl rfl b14 hz13) ?_
            refine r_guard rfl rfl rfl (fun _ => ?_) (ncf g15)
            refine r_op (o_field rfl (off := 0) (by kernel_rfl) rfl) ?_
            refine r_guard rfl rfl rfl (fun _ => ?_) (ncf g15)
            refine r_op (o_load1 rfl (by kernel_rfl) rfl rfl) ?_
            refine r_guard rfl rfl rfl (fun _ => ?_) (ncf g15)
            obtain ⟨z16, hz17, b18⟩ := at_get (xs := rs) (n := z12.1) (by exact (atom_idx (by assumption)).1) (by exact (atom_idx (by assumption)).2)
            refine r_op (o_index rfl (by kernel_rfl) rfl rfl b18 hz17) ?_
            refine r_guard rfl rfl rfl (fun _ => ?_) (ncf g15)
            refine r_op (o_field rfl (off := 2) (by kernel_rfl) rfl) ?_
            refine r_guard rfl rfl rfl (fun _ => ?_) (ncf g15)
            refine r_op (o_load1 rfl (by kernel_rfl) rfl rfl) ?_
            refine r_op (o_pickF rfl rfl g15 rfl) ?_
            refine r_end ?_
            refine t_cond rfl (fun h19 => ?_) (fun h19 => ?_)
            ·
              have h19' := h19
              refine t_seq ?_
              refine t_region ?_
              refine r_op (o_assign rfl rfl) ?_
              refine r_end ?_
              refine t_ret Tryz.func54 (.tmp rfl .nil) rfl fun E S w u hI hd => ?_
              refine post_mk hI hd ?_ trivial rfl rfl rfl <;> clear hI hd <;> (try clear ih0) <;> (try clear ih1)
              all_goals (refine scB ?_; (try (have qA := iA (by omega))); (try (have qK := kA (by omega))); (try (have qB := any_true (p := badA rs) (l := a0) (m := m) hz13 (by unfold badA; grind))); (try (have qC := any_true (p := badA rs) (l := a1) (m := n) hz13 (by unfold badA; grind))); (try (have qS := srcA_at (rs := rs) (r := z12.1) (ts := z12.2) hz17; have qD := any_true (p := srcA rs) (l := a1) (m := n) hz13 (by grind))); clear hs g0 g1 v0 v1; unfold depOk atomsOk; grind)
            ·
              have h19' := h19
              refine t_skip ?_
              refine t_endblock ?_
              refine t_region ?_
              refine r_op (o_move rfl rfl) ?_
              refine r_op (o_bin rfl rfl rfl rfl) ?_
              refine r_op (o_assign rfl rfl) ?_
              refine r_end ?_
              refine t_le ?_ (ih1 (n + 1) (by (try dsimp only); omega) (by (try dsimp only); exact ⟨by omega, no_step (p := fun z => badA rs z || srcA rs z) k2 (by assumption) rfl (by have q1 := srcA_at (rs := rs) (r := z12.1) (ts := z12.2) hz17; unfold badA; grind)⟩))
              exact ⟨⟨rfl, ⟨rfl, ⟨(eqI (wr64 (by omega) (by omega))), trivial⟩⟩⟩, ⟨rfl, trivial⟩, rfl⟩
          ·
            have g15' := (bnt g15)
            refine r_guard rfl rfl rfl (nc g15) (fun _ => ?_)
            refine r_guard rfl rfl rfl (nc g15) (fun _ => ?_)
            refine r_guard rfl rfl rfl (nc g15) (fun _ => ?_)
            refine r_guard rfl rfl rfl (nc g15) (fun _ => ?_)
            refine r_guard rfl rfl rfl (nc g15) (fun _ => ?_)
            refine r_guard rfl rfl rfl (nc g15) (fun _ => ?_)
            refine r_guard rfl rfl rfl (nc g15) (fun _ => ?_)
            refine r_guard rfl rfl rfl (nc g15) (fun _ => ?_)
            refine r_guard rfl rfl rfl (nc g15) (fun _ => ?_)
            refine r_op (o_pickT rfl rfl g15 rfl) ?_
            refine r_end ?_
            refine t_cond rfl (fun _ => ?_) (nc rfl)
            refine t_seq ?_
            refine t_region ?_
            refine r_op (o_assign rfl rfl) ?_
            refine r_end ?_
            refine t_ret Tryz.func54 (.tmp rfl .nil) rfl fun E S w u hI hd => ?_
            refine post_mk hI hd ?_ trivial rfl rfl rfl <;> clear hI hd <;> (try clear ih0) <;> (try clear ih1)
            all_goals (refine scB ?_; (try (have qA := iA (by omega))); (try (have qK := kA (by omega))); (try (have qB := any_true (p := badA rs) (l := a0) (m := m) hz13 (by unfold badA; grind))); (try (have qC := any_true (p := badA rs) (l := a1) (m := n) hz13 (by unfold badA; grind))); (try (have qS := srcA_at (rs := rs) (r := z12.1) (ts := z12.2) (by assumption); have qD := any_true (p := srcA rs) (l := a1) (m := n) hz13 (by grind))); clear hs g0 g1 v0 v1; unfold depOk atomsOk; grind)
        ·
          have h11' := of_decide_eq_false h11
          refine t_exit rfl ?_
          refine t_seq ?_
          refine t_region ?_
          refine r_op (o_fieldb rfl (off := 1) (by kernel_rfl) rfl) ?_
          refine r_op (o_load1b rfl (by kernel_rfl) rfl rfl rfl) ?_
          refine r_op (o_len rfl rfl rfl) ?_
          refine r_op (o_call 1 1 false (Go.Proofs.enters_of Tryz.func77 (by kernel_rfl) rfl) (c_spec_l1In (((a1).length : Int)) (1) (2)) rfl (.cons rfl (.c .t0) (.cons rfl (.c .t0) (.cons rfl (.c .t0) .nil))) rfl rfl rfl) ?_
          refine r_op (o_move rfl rfl) ?_
          refine r_guard rfl rfl rfl (fun g20 => ?_) (fun g20 => ?_)
          ·
            have g20' := of_decide_eq_true g20
            refine r_op (o_fieldb rfl (off := 3) (by kernel_rfl) rfl) ?_
            refine r_guard rfl rfl rfl (fun _ => ?_) (nc g20)
            refine r_op (o_load1b rfl (by kernel_rfl) rfl rfl rfl) ?_
            refine r_guard rfl rfl rfl (fun _ => ?_) (nc g20)
            refine r_op (o_bin rfl rfl rfl rfl) ?_
            refine r_op (o_pickT rfl rfl g20 rfl) ?_
            refine r_op (o_move rfl rfl) ?_
            refine r_guard rfl rfl rfl (fun g21 => ?_) (fun g21 => ?_)
            ·
              have g21' := of_decide_eq_true g21
              refine r_op (o_fieldb rfl (off := 4) (by kernel_rfl) rfl) ?_
              refine r_guard rfl rfl rfl (fun _ => ?_) (nc g21)
              refine r_op (o_load1b rfl (by kernel_rfl) rfl rfl rfl) ?_
              refine r_guard rfl rfl rfl (fun _ => ?_) (nc g21)
              refine r_op (o_bin rfl rfl rfl rfl) ?_
              refine r_op (o_pickT rfl rfl g21 rfl) ?_
              refine r_op (o_assign rfl rfl) ?_
              refine r_end ?_
              refine t_ret Tryz.func54 (.tmp rfl .nil) rfl fun E S w u hI hd => ?_
              refine post_mk hI hd ?_ trivial rfl rfl rfl <;> clear hI hd <;> (try clear ih0) <;> (try clear ih1)
              all_goals (refine scB ?_; (try (have qA := iA (by omega))); (try (have qK := kA (by omega))); (try (have qB := any_true (p := badA rs) (l := a0) (m := m) (by assumption) (by unfold badA; grind))); (try (have qC := any_true (p := badA rs) (l := a1) (m := n) (by assumption) (by unfold badA; grind))); (try (have qS := srcA_at (rs := rs) (r := (by assumption).1) (ts := (by assumption).2) (by assumption); have qD := any_true (p := srcA rs) (l := a1) (m := n) (by assumption) (by grind))); clear hs g0 g1 v0 v1; unfold depOk atomsOk; grind)
            ·
              have g21' := of_decide_eq_false g21
              refine r_guard rfl rfl rfl (ncf g21) (fun _ => ?_)
              refine r_guard rfl rfl rfl (ncf g21) (fun _ => ?_)
              refine r_op (o_pickF rfl rfl g21 rfl) ?_
              refine r_op (o_assign rfl rfl) ?_
              refine r_end ?_
              refine t_ret Tryz.func54 (.tmp rfl .nil) rfl fun E S w u hI hd => ?_
              refine post_mk hI hd ?_ trivial rfl rfl rfl <;> clear hI hd <;> (try clear ih0) <;> (try clear ih1)
              all_goals (refine scB ?_; (try (have qA := iA (by omega))); (try (have qK := kA (by omega))); (try (have qB := any_true (p := badA rs) (l := a0) (m := m) (by assumption) (by unfold badA; grind))); (try (have qC := any_true (p := badA rs) (l := a1) (m := n) (by assumption) (by unfold badA; grind))); (try (have qS := srcA_at (rs := rs) (r := (by assumption).1) (ts := (by assumption).2) (by assumption); have qD := any_true (p := srcA rs) (l := a1) (m := n) (by assumption) (by grind))); clear hs g0 g1 v0 v1; unfold depOk atomsOk; grind)
          ·
            have g20' := of_decide_eq_false g20
            refine r_guard rfl rfl rfl (ncf g20) (fun _ => ?_)
            refine r_guard rfl rfl rfl (ncf g20) (fun _ => ?_)
            refine r_op (o_pickF rfl rfl g20 rfl) ?_
            refine r_op (o_move rfl rfl) ?_
            refine r_guard rfl rfl rfl (ncf rfl) (fun _ => ?_)
            refine r_guard rfl rfl rfl (ncf rfl) (fun _ => ?_)
            refine r_guard rfl rfl rfl (ncf rfl) (fun _ => ?_)
            refine r_op (o_pickF rfl rfl rfl rfl) ?_
            refine r_op (o_assign rfl rfl) ?_
            refine r_end ?_
            refine t_ret Tryz.func54 (.tmp rfl .nil) rfl fun E S w u hI hd => ?_
            refine post_mk hI hd ?_ trivial rfl rfl rfl <;> clear hI hd <;> (try clear ih0) <;> (try clear ih1)
            all_goals (refine scB ?_; (try (have qA := iA (by omega))); (try (have qK := kA (by omega))); (try (have qB := any_true (p := badA rs) (l := a0) (m := m) (by assumption) (by unfold badA; grind))); (try (have qC := any_true (p := badA rs) (l := a1) (m := n) (by assumption) (by unfold badA; grind))); (try (have qS := srcA_at (rs := rs) (r := (by assumption).1) (ts := (by assumption).2) (by assumption); have qD := any_true (p := srcA rs) (l := a1) (m := n) (by assumption) (by grind))); clear hs g0 g1 v0 v1; unfold depOk atomsOk; grind)
set_option maxHeartbeats 1000000 in
set_option maxRecDepth 10000 in
theorem c_spec_AreValidDependencies (rs : Rels) (l : List Dep) (hrs : rs.length ≤ 4611686018427387904) (hs : szS (fun (x : (List (Int × (List (Int)))) × (List (Int × (List (Int)))) × Bool × Int × Int) => (szS (fun (x : Int × (List (Int))) => (x.2).length) (x.1)) + (szS (fun (x : Int × (List (Int))) => (x.2).length) (x.2.1))) l ≤ 1048576) : Pu Tryz.prog 18 [.c (.t none (.sl 3 (enS3 encS encI encB) (rs))), .c (.t none (.sl 5 (enS5 (enSl 2 (enS2 encI (enSl 1 encI))) (enSl 2 (enS2 encI (enSl 1 encI))) encB encI encI) (l)))] [] 0 (.c (.t none (.v (.bool (depsOk rs l))))) := by
  refine pu_enter Tryz.func18 rfl (Nat.le_of_ble_eq_true rfl) fun w S => ?_
  have gl := sz_len (f := (fun (x : (List (Int × (List (Int)))) × (List (Int × (List (Int)))) × Bool × Int × Int) => (szS (fun (x : Int × (List (Int))) => (x.2).length) (x.1)) + (szS (fun (x : Int × (List (Int))) => (x.2).length) (x.2.1)))) (l := l)
  refine t_seq ?_
  refine t_region ?_
  refine r_op (o_assign rfl rfl) ?_
  refine r_end ?_
  refine t_seq ?_
  refine t_seq ?_
  refine t_region ?_
  refine r_op (o_assign rfl rfl) ?_
  refine r_end ?_
  refine t_block ?_
  refine t_loopL (fun m => ⟨[(0, some (.c (.t none (.sl 3 (enS3 encS encI encB) (rs))))), (1, some (.c (.t none (.sl 5 (enS5 (enSl 2 (enS2 encI (enSl 1 encI))) (enSl 2 (enS2 encI (enSl 1 encI))) encB encI encI) (l))))), (5, some (.c (.t none (.v (.int .i64 ((m : Int)))))))], [], 0⟩ : Nat → St) (fun m => m ≤ l.length ∧ ∀ j z, j < m → l[j]? = some z → badD rs z = false) (fun m => l.length - m) 0 ⟨⟨rfl, ⟨rfl, ⟨rfl, trivial⟩⟩⟩, trivial, rfl⟩ (by exact ⟨Nat.zero_le _, fun j z h => by omega⟩) ?_
  rintro m hI ih0
  try dsimp only at hI ih0
  obtain ⟨i1, i2⟩ := hI; have iA : l.length ≤ m → l.any (badD rs) = false := fun e => any_false i2 e
  refine t_seq ?_
  refine t_seq ?_
  refine t_region ?_
  refine r_op (o_move rfl rfl) ?_
  refine r_op (o_move rfl rfl) ?_
  refine r_op (o_len rfl rfl rfl) ?_
  refine r_op (o_bin rfl rfl rfl rfl) ?_
  refine r_end ?_
  refine t_cond rfl (fun h1 => ?_) (fun h1 => ?_)
  ·
    have h1' := of_decide_eq_true h1
    refine t_skip ?_
    refine t_seq ?_
    refine t_block ?_
    refine t_seq ?_
    refine t_region ?_
    refine r_op (o_move rfl rfl) ?_
    refine r_op (o_move rfl rfl) ?_
    refine r_op (o_move rfl rfl) ?_
    obtain ⟨z2, hz3, b4⟩ := at_get (xs := l) (n := (m : Int)) (by omega) (by omega)
    refine r_op (o_index rfl (by kernel_rfl) rfl rfl b4 hz3) ?_
    refine r_op (o_loadA rfl (n := 5) (by kernel_rfl) (by kernel_rfl) rfl rfl) ?_
    refine r_op (o_call 0 0 false (Go.Proofs.enters_of Tryz.func54 (by kernel_rfl) rfl) (c_spec_IsValidDependency (rs) (z2.1) (z2.2.1) (z2.2.2.1) (z2.2.2.2.1) (z2.2.2.2.2) (by omega) (by (have e1 := sz_at (f := (fun (x : (List (Int × (List (Int)))) × (List (Int × (List (Int)))) × Bool × Int × Int) => (szS (fun (x : Int × (List (Int))) => (x.2).length) (x.1)) + (szS (fun (x : Int × (List (Int))) => (x.2).length) (x.2.1)))) (l := l) (m := m) (by assumption); (try dsimp only at e1); omega))) rfl (.cons rfl (.c .t0) (.cons rfl (.agg (.cons .t0 (.cons .t0 (.cons .t0 (.cons .t0 (.cons .t0 .nil)))))) .nil)) rfl rfl rfl) ?_
    refine r_op (o_not rfl rfl) ?_
    refine r_end ?_
    refine t_cond rfl (fun h5 => ?_) (fun h5 => ?_)
    ·
      have h5' := (bnt h5)
      refine t_seq ?_
      refine t_region ?_
      refine r_op (o_assign rfl rfl) ?_
      refine r_end ?_
      refine t_ret Tryz.func18 (.tmp rfl .nil) rfl fun E S w u hI hd => ?_
      refine post_mk hI hd ?_ trivial rfl rfl rfl <;> clear hI hd <;> (try clear ih0)
      all_goals (refine scB ?_; (try (have qA := iA (by omega))); (try (have qB := any_true (p := badD rs) (l := l) (m := m) hz3 (by unfold badD; grind))); clear hs gl; unfold depsOk; grind)
    ·
      have h5' := (bnf h5)
      refine t_skip ?_
      refine t_endblock ?_
      refine t_region ?_
      refine r_op (o_move rfl rfl) ?_
      refine r_op (o_bin rfl rfl rfl rfl) ?_
      refine r_op (o_assign rfl rfl) ?_
      refine r_end ?_
      refine t_le ?_ (ih0 (m + 1) (by (try dsimp only); omega) (by (try dsimp only); exact ⟨by omega, no_step i2 (by assumption) rfl (by unfold badD; grind)⟩))
      exact ⟨⟨rfl, ⟨rfl, ⟨(eqI (wr64 (by omega) (by omega))), trivial⟩⟩⟩, trivial, rfl⟩
  ·
    have h1' := of_decide_eq_false h1
    refine t_exit rfl ?_
    refine t_seq ?_
    refine t_region ?_
    refine r_op (o_move rfl rfl) ?_
    refine r_op (o_call 0 0 false (Go.Proofs.enters_of Tryz.func55 (by kernel_rfl) rfl) (c_spec_AreValidRelations (rs) (by omega)) rfl (.cons rfl (.c .t0) .nil) rfl rfl rfl) ?_
    refine r_op (o_move rfl rfl) ?_
    refine r_guard rfl rfl rfl (fun g6 => ?_) (fun g6 => ?_)
    ·
      have g6' := g6
      refine r_op (o_move rfl rfl) ?_
      refine r_guard rfl rfl rfl (fun _ => ?_) (nc g6)
      refine r_op (o_len rfl rfl rfl) ?_
      refine r_guard rfl rfl rfl (fun _ => ?_) (nc g6)
      refine r_op (o_bin rfl rfl rfl rfl) ?_
      refine r_op (o_pickT rfl rfl g6 rfl) ?_
      refine r_op (o_assign rfl rfl) ?_
      refine r_end ?_
      refine t_ret Tryz.func18 (.tmp rfl .nil) rfl fun E S w u hI hd => ?_
      refine post_mk hI hd ?_ trivial rfl rfl rfl <;> clear hI hd <;> (try clear ih0)
      all_goals (refine scB ?_; (try (have qA := iA (by omega))); (try (have qB := any_true (p := badD rs) (l := l) (m := m) (by assumption) (by unfold badD; grind))); clear hs gl; unfold depsOk; grind)
    ·
      have g6' := g6
      refine r_guard rfl rfl rfl (ncf g6) (fun _ => ?_)
      refine r_guard rfl rfl rfl (ncf g6) (fun _ => ?_)
      refine r_op (o_pickF rfl rfl g6 rfl) ?_
      refine r_op (o_assign rfl rfl) ?_
      refine r_end ?_
      refine t_ret Tryz.func18 (.tmp rfl .nil) rfl fun E S w u hI hd => ?_
      refine post_mk hI hd ?_ trivial rfl rfl rfl <;> clear hI hd <;> (try clear ih0)
      all_goals (refine scB ?_; (try (have qA := iA (by omega))); (try (have qB := any_true (p := badD rs) (l := l) (m := m) (by assumption) (by unfold badD; grind))); clear hs gl; unfold depsOk; grind)
set_option maxHeartbeats 1000000 in
set_option maxRecDepth 10000 in
theorem c_spec_FrontierVariables (a0 : List (Int × (List (Int)))) (a1 : List (Int × (List (Int)))) (a2 : Bool) (a3 : Int) (a4 : Int) (hs : szS (fun (x : Int × (List (Int))) => (x.2).length) a0 + szS (fun (x : Int × (List (Int))) => (x.2).length) a1 ≤ 1048576) : Pu Tryz.prog 96 [.agg [.t none (.sl 2 (enS2 encI (enSl 1 encI)) (a0)), .t none (.sl 2 (enS2 encI (enSl 1 encI)) (a1)), .t none (.v (.bool (a2))), .t none (.v (.int .i64 (a3))), .t none (.v (.int .i64 (a4)))]] [(1, some (.row none 3 true 1 encI (selV true (setI (varsL a0)) (setI (varsL a1)))))] 4 (.c (.own 1)) := by
  refine pu_enter Tryz.func96 rfl (Nat.le_of_ble_eq_true rfl) fun w S => ?_
  have g0 := sz_len (f := (fun (x : Int × (List (Int))) => (x.2).length)) (l := a0); have g1 := sz_len (f := (fun (x : Int × (List (Int))) => (x.2).length)) (l := a1); have v0 := setI_len (varsL a0); have v1 := varsL_size a0; have v2 := setI_len (varsL a1); have v3 := varsL_size a1
  refine t_seq ?_
  refine t_region ?_
  refine r_op (o_box 0 rfl rfl rfl rfl) ?_
  refine r_op (o_assign rfl rfl) ?_
  refine r_end ?_
  refine t_seq ?_
  refine t_region ?_
  refine r_op (o_lit0 1 (e := 3) (sz := 1) (zs := [.int .i64 (0)]) encI rfl rfl (by kernel_rfl) rfl) ?_
  refine r_op (o_assign rfl rfl) ?_
  refine r_end ?_
  refine t_seq ?_
  refine t_region ?_
  refine r_op (o_fieldb rfl (off := 0) (by kernel_rfl) rfl) ?_
  refine r_op (o_load1b rfl (by kernel_rfl) rfl rfl rfl) ?_
  refine r_op (o_call 2 3 false (Go.Proofs.enters_of Tryz.func105 (by kernel_rfl) rfl) (c_spec_Variables (a0) (by omega)) rfl (.cons rfl (.c .t0) .nil) rfl rfl rfl) ?_
  refine r_op (o_assign rfl rfl) ?_
  refine r_end ?_
  refine t_seq ?_
  refine t_region ?_
  refine r_op (o_fieldb rfl (off := 1) (by kernel_rfl) rfl) ?_
  refine r_op (o_load1b rfl (by kernel_rfl) rfl rfl rfl) ?_
  refine r_op (o_call 3 4 false (Go.Proofs.enters_of Tryz.func105 (by kernel_rfl) rfl) (c_spec_Variables (a1) (by omega)) rfl (.cons rfl (.c .t0) .nil) rfl rfl rfl) ?_
  refine r_op (o_assign rfl rfl) ?_
  refine r_end ?_
  refine t_seq ?_
  refine t_seq ?_
  refine t_region ?_
  refine r_op (o_assign rfl rfl) ?_
  refine r_end ?_
  refine t_block ?_
  refine t_loopL (fun m => ⟨[(2, some (.c (.t none (.v (.slice none 0 0))))), (3, some (.c (.own 1))), (4, some (.c (.own 2))), (5, some (.c (.own 3))), (6, some (.c (.t none (.v (.int .i64 ((m : Int)))))))], [(0, some (.box [.t none (.sl 2 (enS2 encI (enSl 1 encI)) (a0)), .t none (.sl 2 (enS2 encI (enSl 1 encI)) (a1)), .t none (.v (.bool (a2))), .t none (.v (.int .i64 (a3))), .t none (.v (.int .i64 (a4)))])), (1, some (.row none 3 true 1 encI (((setI (varsL a1)).take m).filter (fun x => hasI (setI (varsL a0)) x == true)))), (2, some (.row none 3 true 1 encI (setI (varsL (a0))))), (3, some (.row none 3 true 1 encI (setI (varsL (a1)))))], 4⟩ : Nat → St) (fun m => m ≤ (setI (varsL a1)).length) (fun m => (setI (varsL a1)).length - m) 0 ⟨⟨rfl, ⟨rfl, ⟨rfl, ⟨rfl, ⟨rfl, trivial⟩⟩⟩⟩⟩, ⟨rfl, ⟨rfl, ⟨rfl, ⟨rfl, trivial⟩⟩⟩⟩, rfl⟩ (by exact Nat.zero_le _) ?_
  rintro m hI ih0
  try dsimp only at hI ih0
  have i1 := hI; have fl := filt_len (p := (fun x => hasI (setI (varsL a0)) x == true)) (l := setI (varsL a1)) (m := m)
  refine t_seq ?_
  refine t_seq ?_
  refine t_region ?_
  refine r_op (o_move rfl rfl) ?_
  refine r_op (o_move rfl rfl) ?_
  refine r_op (o_leno rfl rfl rfl rfl) ?_
  refine r_op (o_bin rfl rfl rfl rfl) ?_
  refine r_end ?_
  refine t_cond rfl (fun h1 => ?_) (fun h1 => ?_)
  ·
    have h1' := of_decide_eq_true h1
    refine t_skip ?_
    refine t_seq ?_
    refine t_block ?_
    refine t_seq ?_
    refine t_region ?_
    refine r_op (o_move rfl rfl) ?_
    refine r_op (o_move rfl rfl) ?_
    refine r_op (o_move rfl rfl) ?_
    obtain ⟨z2, hz3, b4⟩ := at_get (xs := setI (varsL (a1))) (n := (m : Int)) (by omega) (by omega)
    refine r_op (o_indexo rfl (by kernel_rfl) rfl rfl rfl b4 (at_lt b4 hz3)) ?_
    refine r_op (o_load1o rfl (by kernel_rfl) rfl rfl rfl hz3) ?_
    refine r_op (o_call 4 4 false (Go.Proofs.enters_of Tryz.func106 (by kernel_rfl) rfl) (c_spec_l4Has (setI (varsL (a0))) (z2) (by omega)) rfl (.cons rfl (.c (.own rfl)) (.cons rfl (.c .t0) .nil)) rfl rfl rfl) ?_
    refine r_end ?_
    refine t_cond rfl (fun h5 => ?_) (fun h5 => ?_)
    ·
      have h5' := h5
      refine t_region ?_
      refine r_op (o_move rfl rfl) ?_
      refine r_op (o_move rfl rfl) ?_
      refine r_op (o_move rfl rfl) ?_
      refine r_op (o_indexo rfl (by kernel_rfl) rfl rfl rfl b4 (at_lt b4 hz3)) ?_
      refine r_op (o_load1o rfl (by kernel_rfl) rfl rfl rfl hz3) ?_
      refine r_op (o_litS 4 (e := 3) (sz := 1) (zs := [.int .i64 (0)]) rfl rfl (by kernel_rfl) rfl rfl rfl rfl rfl) ?_
      refine r_op (o_append 1 (e := 3) (sz := 1) (by' := 8) (z2) rfl (by kernel_rfl) rfl rfl rfl rfl rfl rfl (.cons .sc .nil) rfl (by omega) (by omega)) ?_
      refine r_op (o_assign rfl rfl) ?_
      refine r_end ?_
      refine t_endblock ?_
      refine t_region ?_
      refine r_op (o_move rfl rfl) ?_
      refine r_op (o_bin rfl rfl rfl rfl) ?_
      refine r_op (o_assign rfl rfl) ?_
      refine r_end ?_
      refine t_le ?_ (ih0 (m + 1) (by (try dsimp only); omega) (by (try dsimp only); omega))
      exact ⟨⟨rfl, ⟨rfl, ⟨rfl, ⟨rfl, ⟨(eqI (wr64 (by omega) (by omega))), trivial⟩⟩⟩⟩⟩, ⟨rfl, ⟨(eqR (by (rw [filt_more (by assumption) (by simp_all)]; done))), ⟨rfl, ⟨rfl, trivial⟩⟩⟩⟩, rfl⟩
    ·
      have h5' := h5
      refine t_skip ?_
      refine t_endblock ?_
      refine t_region ?_
      refine r_op (o_move rfl rfl) ?_
      refine r_op (o_bin rfl rfl rfl rfl) ?_
      refine r_op (o_assign rfl rfl) ?_
      refine r_end ?_
      refine t_le ?_ (ih0 (m + 1) (by (try dsimp only); omega) (by (try dsimp only); omega))
      exact ⟨⟨rfl, ⟨rfl, ⟨rfl, ⟨rfl, ⟨(eqI (wr64 (by omega) (by omega))), trivial⟩⟩⟩⟩⟩, ⟨rfl, ⟨(eqR (by (rw [filt_same (by assumption) (by simp_all)]; done))), ⟨rfl, ⟨rfl, trivial⟩⟩⟩⟩, rfl⟩
  ·
    have h1' := of_decide_eq_false h1
    refine t_exit rfl ?_
    refine t_seq ?_
    refine t_region ?_
    refine r_op (o_move rfl rfl) ?_
    refine r_op (o_assign rfl rfl) ?_
    refine r_end ?_
    refine t_ret Tryz.func96 (.tmp rfl .nil) rfl fun E S w u hI hd => ?_
    refine post_mk hI hd ?_ ⟨eqR ?_, trivial⟩ rfl rfl rfl <;> clear hI hd <;> (try clear ih0)
    all_goals first | rfl | ((rw [filt_end (by omega)]; rfl))
set_option maxHeartbeats 1000000 in
set_option maxRecDepth 10000 in
theorem c_spec_ExistentialVariables (a0 : List (Int × (List (Int)))) (a1 : List (Int × (List (Int)))) (a2 : Bool) (a3 : Int) (a4 : Int) (hs : szS (fun (x : Int × (List (Int))) => (x.2).length) a0 + szS (fun (x : Int × (List (Int))) => (x.2).length) a1 ≤ 1048576) : Pu Tryz.prog 97 [.agg [.t none (.sl 2 (enS2 encI (enSl 1 encI)) (a0)), .t none (.sl 2 (enS2 encI (enSl 1 encI)) (a1)), .t none (.v (.bool (a2))), .t none (.v (.int .i64 (a3))), .t none (.v (.int .i64 (a4)))]] [(1, some (.row none 3 true 1 encI (selV false (setI (varsL a0)) (setI (varsL a1)))))] 4 (.c (.own 1)) := by
  refine pu_enter Tryz.func97 rfl (Nat.le_of_ble_eq_true rfl) fun w S => ?_
  have g0 := sz_len (f := (fun (x : Int × (List (Int))) => (x.2).length)) (l := a0); have g1 := sz_len (f := (fun (x : Int × (List (Int))) => (x.2).length)) (l := a1); have v0 := setI_len (varsL a0); have v1 := varsL_size a0; have v2 := setI_len (varsL a1); have v3 := varsL_size a1
  refine t_seq ?_
  refine t_region ?_
  refine r_op (o_box 0 rfl rfl rfl rfl) ?_
  refine r_op (o_assign rfl rfl) ?_
  refine r_end ?_
  refine t_seq ?_
  refine t_region ?_
  refine r_op (o_lit0 1 (e := 3) (sz := 1) (zs := [.int .i64 (0)]) encI rfl rfl (by kernel_rfl) rfl) ?_
  refine r_op (o_assign rfl rfl) ?_
  refine r_end ?_
  refine t_seq ?_
  refine t_region ?_
  refine r_op (o_fieldb rfl (off := 0) (by kernel_rfl) rfl) ?_
  refine r_op (o_load1b rfl (by kernel_rfl) rfl rfl rfl) ?_
  refine r_op (o_call 2 3 false (Go.Proofs.enters_of Tryz.func105 (by kernel_rfl) rfl) (c_spec_Variables (a0) (by omega)) rfl (.cons rfl (.c .t0) .nil) rfl rfl rfl) ?_
  refine r_op (o_assign rfl rfl) ?_
  refine r_end ?_
  refine t_seq ?_
  refine t_region ?_
  refine r_op (o_fieldb rfl (off := 1) (by kernel_rfl) rfl) ?_
  refine r_op (o_load1b rfl (by kernel_rfl) rfl rfl rfl) ?_
  refine r_op (o_call 3 4 false (Go.Proofs.enters_of Tryz.func105 (by kernel_rfl) rfl) (c_spec_Variables (a1) (by omega)) rfl (.cons rfl (.c .t0) .nil) rfl rfl rfl) ?_
  refine r_op (o_assign rfl rfl) ?_
  refine r_end ?_
  refine t_seq ?_
  refine t_seq ?_
  refine t_region ?_
  refine r_op (o_assign rfl rfl) ?_
  refine r_end ?_
  refine t_block ?_
  refine t_loopL (fun m => ⟨[(2, some (.c (.t none (.v (.slice none 0 0))))), (3, some (.c (.own 1))), (4, some (.c (.own 2))), (5, some (.c (.own 3))), (6, some (.c (.t none (.v (.int .i64 ((m : Int)))))))], [(0, some (.box [.t none (.sl 2 (enS2 encI (enSl 1 encI)) (a0)), .t none (.sl 2 (enS2 encI (enSl 1 encI)) (a1)), .t none (.v (.bool (a2))), .t none (.v (.int .i64 (a3))), .t none (.v (.int .i64 (a4)))])), (1, some (.row none 3 true 1 encI (((setI (varsL a1)).take m).filter (fun x => hasI (setI (varsL a0)) x == false)))), (2, some (.row none 3 true 1 encI (setI (varsL (a0))))), (3, some (.row none 3 true 1 encI (setI (varsL (a1)))))], 4⟩ : Nat → St) (fun m => m ≤ (setI (varsL a1)).length) (fun m => (setI (varsL a1)).length - m) 0 ⟨⟨rfl, ⟨rfl, ⟨rfl, ⟨rfl, ⟨rfl, trivial⟩⟩⟩⟩⟩, ⟨rfl, ⟨rfl, ⟨rfl, ⟨rfl, trivial⟩⟩⟩⟩, rfl⟩ (by exact Nat.zero_le _) ?_
  rintro m hI ih0
  try dsimp only at hI ih0
  have i1 := hI; have fl := filt_len (p := (fun x => hasI (setI (varsL a0)) x == false)) (l := setI (varsL a1)) (m := m)
  refine t_seq ?_
  refine t_seq ?_
  refine t_region ?_
  refine r_op (o_move rfl rfl) ?_
  refine r_op (o_move rfl rfl) ?_
  refine r_op (o_leno rfl rfl rfl rfl) ?_
  refine r_op (o_bin rfl rfl rfl rfl) ?_
  refine r_end ?_
  refine t_cond rfl (fun h1 => ?_) (fun h1 => ?_)
  ·
    have h1' := of_decide_eq_true h1
    refine t_skip ?_
    refine t_seq ?_
    refine t_block ?_
    refine t_seq ?_
    refine t_region ?_
    refine r_op (o_move rfl rfl) ?_
    refine r_op (o_move rfl rfl) ?_
    refine r_op (o_move rfl rfl) ?_
    obtain ⟨z2, hz3, b4⟩ := at_get (xs := setI (varsL (a1))) (n := (m : Int)) (by omega) (by omega)
    refine r_op (o_indexo rfl (by kernel_rfl) rfl rfl rfl b4 (at_lt b4 hz3)) ?_
    refine r_op (o_load1o rfl (by kernel_rfl) rfl rfl rfl hz3) ?_
    refine r_op (o_call 4 4 false (Go.Proofs.enters_of Tryz.func106 (by kernel_rfl) rfl) (c_spec_l4Has (setI (varsL (a0))) (z2) (by omega)) rfl (.cons rfl (.c (.own rfl)) (.cons rfl (.c .t0) .nil)) rfl rfl rfl) ?_
    refine r_op (o_not rfl rfl) ?_
    refine r_end ?_
    refine t_cond rfl (fun h5 => ?_) (fun h5 => ?_)
    ·
      have h5' := (bnt h5)
      refine t_region ?_
      refine r_op (o_move rfl rfl) ?_
      refine r_op (o_move rfl rfl) ?_
      refine r_op (o_move rfl rfl) ?_
      refine r_op (o_indexo rfl (by kernel_rfl) rfl rfl rfl b4 (at_lt b4 hz3)) ?_
      refine r_op (o_load1o rfl (by kernel_rfl) rfl rfl rfl hz3) ?_
      refine r_op (o_litS 4 (e := 3) (sz := 1) (zs := [.int .i64 (0)]) rfl rfl (by kernel_rfl) rfl rfl rfl rfl rfl) ?_
      refine r_op (o_append 1 (e := 3) (sz := 1) (by' := 8) (z2) rfl (by kernel_rfl) rfl rfl rfl rfl rfl rfl (.cons .sc .nil) rfl (by omega) (by omega)) ?_
      refine r_op (o_assign rfl rfl) ?_
      refine r_end ?_
      refine t_endblock ?_
      refine t_region ?_
      refine r_op (o_move rfl rfl) ?_
      refine r_op (o_bin rfl rfl rfl rfl) ?_
      refine r_op (o_assign rfl rfl) ?_
      refine r_end ?_
      refine t_le ?_ (ih0 (m + 1) (by (try dsimp only); omega) (by (try dsimp only); omega))
      exact ⟨⟨rfl, ⟨rfl, ⟨rfl, ⟨rfl, ⟨(eqI (wr64 (by omega) (by omega))), trivial⟩⟩⟩⟩⟩, ⟨rfl, ⟨(eqR (by (rw [filt_more (by assumption) (by simp_all)]; done))), ⟨rfl, ⟨rfl, trivial⟩⟩⟩⟩, rfl⟩
    ·
      have h5' := (bnf h5)
      refine t_skip ?_
      refine t_endblock ?_
      refine t_region ?_
      refine r_op (o_move rfl rfl) ?_
      refine r_op (o_bin rfl rfl rfl rfl) ?_
      refine r_op (o_assign rfl rfl) ?_
      refine r_end ?_
      refine t_le ?_ (ih0 (m + 1) (by (try dsimp only); omega) (by (try dsimp only); omega))
      exact ⟨⟨rfl, ⟨rfl, ⟨rfl, ⟨rfl, ⟨(eqI (wr64 (by omega) (by omega))), trivial⟩⟩⟩⟩⟩, ⟨rfl, ⟨(eqR (by (rw [filt_same (by assumption) (by simp_all)]; done))), ⟨rfl, ⟨rfl, trivial⟩⟩⟩⟩, rfl⟩
  ·
    have h1' := of_decide_eq_false h1
    refine t_exit rfl ?_
    refine t_seq ?_
    refine t_region ?_
    refine r_op (o_move rfl rfl) ?_
    refine r_op (o_assign rfl rfl) ?_
    refine r_end ?_
    refine t_ret Tryz.func97 (.tmp rfl .nil) rfl fun E S w u hI hd => ?_
    refine post_mk hI hd ?_ ⟨eqR ?_, trivial⟩ rfl rfl rfl <;> clear hI hd <;> (try clear ih0)
    all_goals first | rfl | ((rw [filt_end (by omega)]; rfl))
set_option maxHeartbeats 1000000 in
set_option maxRecDepth 10000 in
theorem c_spec_PositionIndex (rs : Rels) (r i : Int) (hrs : rs.length ≤ 4611686018427387904) : Pu Tryz.prog 100 [.c (.t none (.sl 3 (enS3 encS encI encB) (rs))), .c (.t none (.v (.int .i64 (r)))), .c (.t none (.v (.int .i64 (i))))] [] 0 (.c (.t none (.v (.int .i64 (posIx rs r i))))) := by
  refine pu_enter Tryz.func100 rfl (Nat.le_of_ble_eq_true rfl) fun w S => ?_
  refine t_seq ?_
  refine t_region ?_
  refine r_op (o_assign rfl rfl) ?_
  refine r_end ?_
  refine t_seq ?_
  refine t_seq ?_
  refine t_region ?_
  refine r_op (o_move rfl rfl) ?_
  refine r_op (o_call 0 0 false (Go.Proofs.enters_of Tryz.func55 (by kernel_rfl) rfl) (c_spec_AreValidRelations (rs) (by omega)) rfl (.cons rfl (.c .t0) .nil) rfl rfl rfl) ?_
  refine r_op (o_not rfl rfl) ?_
  refine r_op (o_move rfl rfl) ?_
  refine r_guard rfl rfl rfl (fun g1 => ?_) (fun g1 => ?_)
  ·
    have g1' := (bnf g1)
    refine r_op (o_move rfl rfl) ?_
    refine r_guard rfl rfl rfl (fun _ => ?_) (ncf g1)
    refine r_op (o_move rfl rfl) ?_
    refine r_guard rfl rfl rfl (fun _ => ?_) (ncf g1)
    refine r_op (o_len rfl rfl rfl) ?_
    refine r_guard rfl rfl rfl (fun _ => ?_) (ncf g1)
    refine r_op (o_bin rfl rfl rfl rfl) ?_
    refine r_guard rfl rfl rfl (fun _ => ?_) (ncf g1)
    refine r_op (o_call 0 0 false (Go.Proofs.enters_of Tryz.func77 (by kernel_rfl) rfl) (c_spec_l1In (r) (0) (IntKind.i64.wrap (((rs).length : Int) - 1))) rfl (.cons rfl (.c .t0) (.cons rfl (.c .t0) (.cons rfl (.c .t0) .nil))) rfl rfl rfl) ?_
    refine r_guard rfl rfl rfl (fun _ => ?_) (ncf g1)
    refine r_op (o_not rfl rfl) ?_
    refine r_op (o_pickF rfl rfl g1 rfl) ?_
    refine r_op (o_move rfl rfl) ?_
    refine r_guard rfl rfl rfl (fun g2 => ?_) (fun g2 => ?_)
    ·
      have g2' := of_decide_eq_true (bnf g2)
      refine r_op (o_move rfl rfl) ?_
      refine r_guard rfl rfl rfl (fun _ => ?_) (ncf g2)
      refine r_op (o_move rfl rfl) ?_
      refine r_guard rfl rfl rfl (fun _ => ?_) (ncf g2)
      refine r_op (o_move rfl rfl) ?_
      refine r_guard rfl rfl rfl (fun _ => ?_) (ncf g2)
      obtain ⟨z3, hz4, b5⟩ := at_get (xs := rs) (n := r) (by omega) (by (simp only [IntKind.wrap_i64] at *; omega))
      refine r_op (o_index rfl (by kernel_rfl) rfl rfl b5 hz4) ?_
      refine r_guard rfl rfl rfl (fun _ => ?_) (ncf g2)
      refine r_op (o_field rfl (off := 1) (by kernel_rfl) rfl) ?_
      refine r_guard rfl rfl rfl (fun _ => ?_) (ncf g2)
      refine r_op (o_load1 rfl (by kernel_rfl) rfl rfl) ?_
      refine r_guard rfl rfl rfl (fun _ => ?_) (ncf g2)
      refine r_op (o_bin rfl rfl rfl rfl) ?_
      refine r_guard rfl rfl rfl (fun _ => ?_) (ncf g2)
      refine r_op (o_call 0 0 false (Go.Proofs.enters_of Tryz.func77 (by kernel_rfl) rfl) (c_spec_l1In (i) (0) (IntKind.i64.wrap ((z3.2.1) - 1))) rfl (.cons rfl (.c .t0) (.cons rfl (.c .t0) (.cons rfl (.c .t0) .nil))) rfl rfl rfl) ?_
      refine r_guard rfl rfl rfl (fun _ => ?_) (ncf g2)
      refine r_op (o_not rfl rfl) ?_
      refine r_op (o_pickF rfl rfl g2 rfl) ?_
      refine r_end ?_
      refine t_cond rfl (fun h6 => ?_) (fun h6 => ?_)
      ·
        have h6' := of_decide_eq_false (bnt h6)
        refine t_seq ?_
        refine t_region ?_
        refine r_op (o_assign rfl rfl) ?_
        refine r_end ?_
        refine t_ret Tryz.func100 (.tmp rfl .nil) rfl fun E S w u hI hd => ?_
        refine post_mk hI hd ?_ trivial rfl rfl rfl <;> clear hI hd <;> (try clear ih0)
        all_goals (refine scI ?_; (try (have ra := (rels_ok (l := rs) (by assumption)).2 _ (List.mem_of_getElem? hz4))); (exact posIx_no3 hz4 (by (simp only [IntKind.wrap_i64] at *; omega))))
      ·
        have h6' := of_decide_eq_true (bnf h6)
        refine t_skip ?_
        refine t_seq ?_
        refine t_region ?_
        refine r_op (o_assign rfl rfl) ?_
        refine r_end ?_
        refine t_seq ?_
        refine t_seq ?_
        refine t_region ?_
        refine r_op (o_assign rfl rfl) ?_
        refine r_end ?_
        refine t_block ?_
        refine t_loopL (fun m => ⟨[(0, some (.c (.t none (.sl 3 (enS3 encS encI encB) (rs))))), (1, some (.c (.t none (.v (.int .i64 (r)))))), (2, some (.c (.t none (.v (.int .i64 (i)))))), (6, some (.c (.t none (.v (.int .i64 (0)))))), (7, some (.c (.t none (.v (.int .i64 (sumA (rs.take m))))))), (8, some (.c (.t none (.v (.int .i64 ((m : Int)))))))], [], 0⟩ : Nat → St) (fun m => m ≤ r.toNat ∧ r.toNat ≤ rs.length) (fun m => r.toNat - m) 0 ⟨⟨rfl, ⟨rfl, ⟨rfl, ⟨rfl, ⟨(eqI rfl), ⟨rfl, trivial⟩⟩⟩⟩⟩⟩, trivial, rfl⟩ (by exact ⟨Nat.zero_le _, by (simp only [IntKind.wrap_i64] at *; omega)⟩) ?_
        rintro m hI ih0
        try dsimp only at hI ih0
        obtain ⟨i1, i2⟩ := hI; have sb := sumA_bnd (l := rs) (by assumption) m; have ra := (rels_ok (l := rs) (by assumption)).2 _ (List.mem_of_getElem? hz4); have iz : 0 ≤ i ∧ i ≤ 3 := (by (simp only [IntKind.wrap_i64] at *; omega)); have rz : 0 ≤ r ∧ r < rs.length := (by (simp only [IntKind.wrap_i64] at *; omega))
        refine t_seq ?_
        refine t_seq ?_
        refine t_region ?_
        refine r_op (o_move rfl rfl) ?_
        refine r_op (o_move rfl rfl) ?_
        refine r_op (o_bin rfl rfl rfl rfl) ?_
        refine r_end ?_
        refine t_cond rfl (fun h7 => ?_) (fun h7 => ?_)
        ·
          have h7' := of_decide_eq_true h7
          refine t_skip ?_
          refine t_seq ?_
          refine t_block ?_
          refine t_region ?_
          refine r_op (o_move rfl rfl) ?_
          refine r_op (o_move rfl rfl) ?_
          refine r_op (o_move rfl rfl) ?_
          obtain ⟨z8, hz9, b10⟩ := at_get (xs := rs) (n := (m : Int)) (by omega) (by omega)
          refine r_op (o_index rfl (by kernel_rfl) rfl rfl b10 hz9) ?_
          refine r_op (o_field rfl (off := 1) (by kernel_rfl) rfl) ?_
          refine r_op (o_load1 rfl (by kernel_rfl) rfl rfl) ?_
          refine r_op (o_bin rfl rfl rfl rfl) ?_
          refine r_op (o_assign rfl rfl) ?_
          refine r_end ?_
          refine t_endblock ?_
          refine t_region ?_
          refine r_op (o_move rfl rfl) ?_
          refine r_op (o_bin rfl rfl rfl rfl) ?_
          refine r_op (o_assign rfl rfl) ?_
          refine r_end ?_
          have ra2 := (rels_ok (l := rs) (by assumption)).2 _ (List.mem_of_getElem? hz9)
          refine t_le ?_ (ih0 (m + 1) (by (try dsimp only); omega) (by (try dsimp only); exact ⟨by omega, i2⟩))
          exact ⟨⟨rfl, ⟨rfl, ⟨rfl, ⟨rfl, ⟨(eqI (by rw [sumA_step (m := m) hz9, wr64 (by omega) (by omega)])), ⟨(eqI (wr64 (by omega) (by omega))), trivial⟩⟩⟩⟩⟩⟩, trivial, rfl⟩
        ·
          have h7' := of_decide_eq_false h7
          refine t_exit rfl ?_
          refine t_seq ?_
          refine t_region ?_
          refine r_op (o_move rfl rfl) ?_
          refine r_op (o_move rfl rfl) ?_
          refine r_op (o_bin rfl rfl rfl rfl) ?_
          refine r_op (o_assign rfl rfl) ?_
          refine r_end ?_
          refine t_ret Tryz.func100 (.tmp rfl .nil) rfl fun E S w u hI hd => ?_
          refine post_mk hI hd ?_ trivial rfl rfl rfl <;> clear hI hd <;> (try clear ih0)
          all_goals (refine scI ?_; (try (have ra := (rels_ok (l := rs) (by assumption)).2 _ (List.mem_of_getElem? hz4))); (rw [posIx_yes (by assumption) (by (simp only [IntKind.wrap_i64] at *; omega)) hz4 (by (simp only [IntKind.wrap_i64] at *; omega))]; (have em : m = r.toNat := by omega); rw [em, wr64 (by have := sumA_bnd (l := rs) (by assumption) r.toNat; omega) (by have := sumA_bnd (l := rs) (by assumption) r.toNat; omega)]))
    ·
      have g2' := of_decide_eq_false (bnt g2)
      refine r_guard rfl rfl rfl (nc g2) (fun _ => ?_)
      refine r_guard rfl rfl rfl (nc g2) (fun _ => ?_)
      refine r_guard rfl rfl rfl (nc g2) (fun _ => ?_)
      refine r_guard rfl rfl rfl (nc g2) (fun _ => ?_)
      refine r_guard rfl rfl rfl (nc g2) (fun _ => ?_)
      refine r_guard rfl rfl rfl (nc g2) (fun _ => ?_)
      refine r_guard rfl rfl rfl (nc g2) (fun _ => ?_)
      refine r_guard rfl rfl rfl (nc g2) (fun _ => ?_)
      refine r_op (o_pickT rfl rfl g2 rfl) ?_
      refine r_end ?_
      refine t_cond rfl (fun _ => ?_) (nc rfl)
      refine t_seq ?_
      refine t_region ?_
      refine r_op (o_assign rfl rfl) ?_
      refine r_end ?_
      refine t_ret Tryz.func100 (.tmp rfl .nil) rfl fun E S w u hI hd => ?_
      refine post_mk hI hd ?_ trivial rfl rfl rfl <;> clear hI hd <;> (try clear ih0)
      all_goals (refine scI ?_; (try (have ra := (rels_ok (l := rs) (by assumption)).2 _ (List.mem_of_getElem? (by assumption)))); (exact posIx_no2 (by (simp only [IntKind.wrap_i64] at *; omega))))
  ·
    have g1' := (bnt g1)
    refine r_guard rfl rfl rfl (nc g1) (fun _ => ?_)
    refine r_guard rfl rfl rfl (nc g1) (fun _ => ?_)
    refine r_guard rfl rfl rfl (nc g1) (fun _ => ?_)
    refine r_guard rfl rfl rfl (nc g1) (fun _ => ?_)
    refine r_guard rfl rfl rfl (nc g1) (fun _ => ?_)
    refine r_op (o_pickT rfl rfl g1 rfl) ?_
    refine r_op (o_move rfl rfl) ?_
    refine r_guard rfl rfl rfl (nc rfl) (fun _ => ?_)
    refine r_guard rfl rfl rfl (nc rfl) (fun _ => ?_)
    refine r_guard rfl rfl rfl (nc rfl) (fun _ => ?_)
    refine r_guard rfl rfl rfl (nc rfl) (fun _ => ?_)
    refine r_guard rfl rfl rfl (nc rfl) (fun _ => ?_)
    refine r_guard rfl rfl rfl (nc rfl) (fun _ => ?_)
    refine r_guard rfl rfl rfl (nc rfl) (fun _ => ?_)
    refine r_guard rfl rfl rfl (nc rfl) (fun _ => ?_)
    refine r_guard rfl rfl rfl (nc rfl) (fun _ => ?_)
    refine r_op (o_pickT rfl rfl rfl rfl) ?_
    refine r_end ?_
    refine t_cond rfl (fun _ => ?_) (nc rfl)
    refine t_seq ?_
    refine t_region ?_
    refine r_op (o_assign rfl rfl) ?_
    refine r_end ?_
    refine t_ret Tryz.func100 (.tmp rfl .nil) rfl fun E S w u hI hd => ?_
    refine post_mk hI hd ?_ trivial rfl rfl rfl <;> clear hI hd <;> (try clear ih0)
    all_goals (refine scI ?_; (try (have ra := (rels_ok (l := rs) (by assumption)).2 _ (List.mem_of_getElem? (by assumption)))); (exact posIx_no1 (by assumption)))
set_option maxHeartbeats 1000000 in
set_option maxRecDepth 10000 in
theorem c_spec_l13Places (rs : Rels) (l : Atoms) (v : Int) (hrs : rs.length ≤ 4611686018427387904) (hl : szS (fun (x : Int × (List (Int))) => (x.2).length) l ≤ 1048576) : Pu Tryz.prog 98 [.c (.t none (.sl 3 (enS3 encS encI encB) (rs))), .c (.t none (.sl 2 (enS2 encI (enSl 1 encI)) (l))), .c (.t none (.v (.int .i64 (v))))] [(0, some (.row none 3 true 1 encI (placesL rs l v)))] 1 (.c (.own 0)) := by
  refine pu_enter Tryz.func98 rfl (Nat.le_of_ble_eq_true rfl) fun w S => ?_
  have gl := sz_len (f := (fun (x : Int × (List (Int))) => (x.2).length)) (l := l)
  refine t_seq ?_
  refine t_region ?_
  refine r_op (o_assign rfl rfl) ?_
  refine r_end ?_
  refine t_seq ?_
  refine t_region ?_
  refine r_op (o_lit0 0 (e := 3) (sz := 1) (zs := [.int .i64 (0)]) encI rfl rfl (by kernel_rfl) rfl) ?_
  refine r_op (o_assign rfl rfl) ?_
  refine r_end ?_
  refine t_seq ?_
  refine t_seq ?_
  refine t_region ?_
  refine r_op (o_assign rfl rfl) ?_
  refine r_end ?_
  refine t_block ?_
  refine t_loopL (fun m => ⟨[(0, some (.c (.t none (.sl 3 (enS3 encS encI encB) (rs))))), (1, some (.c (.t none (.sl 2 (enS2 encI (enSl 1 encI)) (l))))), (2, some (.c (.t none (.v (.int .i64 (v)))))), (6, some (.c (.t none (.v (.slice none 0 0))))), (7, some (.c (.own 0))), (8, some (.c (.t none (.v (.int .i64 ((m : Int)))))))], [(0, some (.row none 3 true 1 encI ((l.take m).flatMap (plc1 rs v))))], 1⟩ : Nat → St) (fun m => m ≤ l.length) (fun m => l.length - m) 0 ⟨⟨rfl, ⟨rfl, ⟨rfl, ⟨rfl, ⟨rfl, ⟨rfl, trivial⟩⟩⟩⟩⟩⟩, ⟨rfl, trivial⟩, rfl⟩ (by exact Nat.zero_le _) ?_
  rintro m hI ih0
  try dsimp only at hI ih0
  have i1 := hI
  refine t_seq ?_
  refine t_seq ?_
  refine t_region ?_
  refine r_op (o_move rfl rfl) ?_
  refine r_op (o_move rfl rfl) ?_
  refine r_op (o_len rfl rfl rfl) ?_
  refine r_op (o_bin rfl rfl rfl rfl) ?_
  refine r_end ?_
  refine t_cond rfl (fun h1 => ?_) (fun h1 => ?_)
  ·
    have h1' := of_decide_eq_true h1
    refine t_skip ?_
    refine t_seq ?_
    refine t_block ?_
    refine t_seq ?_
    refine t_region ?_
    refine r_op (o_assign rfl rfl) ?_
    refine r_end ?_
    refine t_block ?_
    refine t_loopL (fun n => ⟨[(0, some (.c (.t none (.sl 3 (enS3 encS encI encB) (rs))))), (1, some (.c (.t none (.sl 2 (enS2 encI (enSl 1 encI)) (l))))), (2, some (.c (.t none (.v (.int .i64 (v)))))), (6, some (.c (.t none (.v (.slice none 0 0))))), (7, some (.c (.own 0))), (8, some (.c (.t none (.v (.int .i64 ((m : Int))))))), (9, some (.c (.t none (.v (.int .i64 ((n : Int)))))))], [(0, some (.row none 3 true 1 encI ((l.take m).flatMap (plc1 rs v) ++ plcA rs (l.getD m (0, [])).1 v 0 ((l.getD m (0, [])).2.take n))))], 1⟩ : Nat → St) (fun n => n ≤ (l.getD m (0, [])).2.length) (fun n => (l.getD m (0, [])).2.length - n) 0 ⟨⟨rfl, ⟨rfl, ⟨rfl, ⟨rfl, ⟨rfl, ⟨rfl, ⟨rfl, trivial⟩⟩⟩⟩⟩⟩⟩, ⟨(eqR (by rw [List.take_zero]; simp [plcA])), trivial⟩, rfl⟩ (by exact Nat.zero_le _) ?_
    rintro n hI ih1
    try dsimp only at hI ih1
    have j1 := hI; have hzv := getA_get (l := l) (m := m) (by omega); have pr := plc_room (rs := rs) (v := v) (m := m) (n := n) hzv; (have e1 := sz_at (f := (fun (x : Int × (List (Int))) => (x.2).length)) (l := l) (m := m) hzv; (try dsimp only at e1))
    refine t_seq ?_
    refine t_seq ?_
    refine t_region ?_
    refine r_op (o_move rfl rfl) ?_
    refine r_op (o_move rfl rfl) ?_
    refine r_op (o_move rfl rfl) ?_
    obtain ⟨z2, hz3, b4⟩ := at_get (xs := l) (n := (m : Int)) (by omega) (by omega)
    refine r_op (o_index rfl (by kernel_rfl) rfl rfl b4 hz3) ?_
    refine r_op (o_field rfl (off := 1) (by kernel_rfl) rfl) ?_
    refine r_op (o_load1 rfl (by kernel_rfl) rfl rfl) ?_
    refine r_op (o_len rfl rfl rfl) ?_
    refine r_op (o_bin rfl rfl rfl rfl) ?_
    refine r_end ?_
    refine t_cond rfl (fun h5 => ?_) (fun h5 => ?_)
    ·
      have h5' := of_decide_eq_true h5
      refine t_skip ?_
      refine t_seq ?_
      refine t_block ?_
      refine t_seq ?_
      refine t_region ?_
      refine r_op (o_move rfl rfl) ?_
      refine r_op (o_move rfl rfl) ?_
      refine r_op (o_index rfl (by kernel_rfl) rfl rfl b4 hz3) ?_
      refine r_op (o_field rfl (off := 1) (by kernel_rfl) rfl) ?_
      refine r_op (o_load1 rfl (by kernel_rfl) rfl rfl) ?_
      refine r_op (o_move rfl rfl) ?_
      obtain ⟨z6, hz7, b8⟩ := at_get (xs := z2.2) (n := (n : Int)) (by omega) (by omega)
      refine r_op (o_index rfl (by kernel_rfl) rfl rfl b8 hz7) ?_
      refine r_op (o_load1 rfl (by kernel_rfl) rfl rfl) ?_
      refine r_op (o_move rfl rfl) ?_
      refine r_op (o_bin rfl rfl rfl rfl) ?_
      refine r_end ?_
      refine t_cond rfl (fun h9 => ?_) (fun h9 => ?_)
      ·
        have h9' := of_decide_eq_true h9
        refine t_region ?_
        refine r_op (o_move rfl rfl) ?_
        refine r_op (o_move rfl rfl) ?_
        refine r_op (o_move rfl rfl) ?_
        refine r_op (o_move rfl rfl) ?_
        refine r_op (o_index rfl (by kernel_rfl) rfl rfl b4 hz3) ?_
        refine r_op (o_field rfl (off := 0) (by kernel_rfl) rfl) ?_
        refine r_op (o_load1 rfl (by kernel_rfl) rfl rfl) ?_
        refine r_op (o_move rfl rfl) ?_
        refine r_op (o_call 1 1 false (Go.Proofs.enters_of Tryz.func100 (by kernel_rfl) rfl) (c_spec_PositionIndex (rs) (z2.1) ((n : Int)) (by omega)) rfl (.cons rfl (.c .t0) (.cons rfl (.c .t0) (.cons rfl (.c .t0) .nil))) rfl rfl rfl) ?_
        refine r_op (o_litS 1 (e := 3) (sz := 1) (zs := [.int .i64 (0)]) rfl rfl (by kernel_rfl) rfl rfl rfl rfl rfl) ?_
        refine r_op (o_append 0 (e := 3) (sz := 1) (by' := 8) (posIx (rs) (z2.1) ((n : Int))) rfl (by kernel_rfl) rfl rfl rfl rfl rfl rfl (.cons .sc .nil) rfl (by (simp only [List.length_append]; omega)) (by (simp only [List.length_append]; omega))) ?_
        refine r_op (o_assign rfl rfl) ?_
        refine r_end ?_
        refine t_endblock ?_
        refine t_region ?_
        refine r_op (o_move rfl rfl) ?_
        refine r_op (o_bin rfl rfl rfl rfl) ?_
        refine r_op (o_assign rfl rfl) ?_
        refine r_end ?_
        have gd3 := Option.some.inj (hzv.symm.trans hz3); have gd4 := congrArg (fun q => q.2.length) gd3; (try dsimp only at gd4)
        refine t_le ?_ (ih1 (n + 1) (by (try dsimp only); omega) (by (try dsimp only); omega))
        exact ⟨⟨rfl, ⟨rfl, ⟨rfl, ⟨rfl, ⟨rfl, ⟨rfl, ⟨(eqI (wr64 (by omega) (by omega))), trivial⟩⟩⟩⟩⟩⟩⟩, ⟨(eqR (by rw [gd3]; (rw [List.append_assoc]; exact congrArg _ (plc_hit hz7 (by assumption))))), trivial⟩, rfl⟩
      ·
        have h9' := of_decide_eq_false h9
        refine t_skip ?_
        refine t_endblock ?_
        refine t_region ?_
        refine r_op (o_move rfl rfl) ?_
        refine r_op (o_bin rfl rfl rfl rfl) ?_
        refine r_op (o_assign rfl rfl) ?_
        refine r_end ?_
        have gd3 := Option.some.inj (hzv.symm.trans hz3); have gd4 := congrArg (fun q => q.2.length) gd3; (try dsimp only at gd4)
        refine t_le ?_ (ih1 (n + 1) (by (try dsimp only); omega) (by (try dsimp only); omega))
        exact ⟨⟨rfl, ⟨rfl, ⟨rfl, ⟨rfl, ⟨rfl, ⟨rfl, ⟨(eqI (wr64 (by omega) (by omega))), trivial⟩⟩⟩⟩⟩⟩⟩, ⟨(eqR (by rw [gd3]; (exact congrArg _ (plc_miss hz7 (by assumption))))), trivial⟩, rfl⟩
    ·
      have h5' := of_decide_eq_false h5
      refine t_exit rfl ?_
      refine t_endblock ?_
      refine t_region ?_
      refine r_op (o_move rfl rfl) ?_
      refine r_op (o_bin rfl rfl rfl rfl) ?_
      refine r_op (o_assign rfl rfl) ?_
      refine r_end ?_
      have gd3 := Option.some.inj (hzv.symm.trans hz3)
      refine t_le ?_ (ih0 (m + 1) (by (try dsimp only); omega) (by (try dsimp only); omega))
      exact ⟨⟨rfl, ⟨rfl, ⟨rfl, ⟨rfl, ⟨rfl, ⟨(eqI (wr64 (by omega) (by omega))), trivial⟩⟩⟩⟩⟩⟩, ⟨(eqR (plc_next hzv (by rw [gd3]; omega))), trivial⟩, rfl⟩
  ·
    have h1' := of_decide_eq_false h1
    refine t_exit rfl ?_
    refine t_seq ?_
    refine t_region ?_
    refine r_op (o_move rfl rfl) ?_
    refine r_op (o_assign rfl rfl) ?_
    refine r_end ?_
    refine t_ret Tryz.func98 (.tmp rfl .nil) rfl fun E S w u hI hd => ?_
    refine post_mk hI hd ?_ ⟨eqR ?_, trivial⟩ rfl rfl rfl <;> clear hI hd <;> (try clear ih0) <;> (try clear ih1)
    all_goals first | rfl | ((obtain rfl : m = l.length := by omega); rw [List.take_length]; rfl)
theorem eq_c_spec_l13Put_eql_30 (p0 : Int) (p1 : Int) (p2 : Bool) (q0 : Int) (q1 : Int) (q2 : Bool) : EqS Tryz.prog .eql 30 [.int .i64 p0, .int .i64 p1, .bool p2] [.int .i64 q0, .int .i64 q1, .bool q2] (.bool (decide ((p0, p1, p2) = (q0, q1, q2)))) := by
  refine ⟨rfl, fun x y w => ?_⟩
  have hS : Tryz.prog.underlying 30 = some (.struct (Tryz.prog.fieldsOf 30)) := by kernel_rfl
  have hp : Tryz.prog.stoodInHeld 30 = false := by kernel_rfl
  have u3 := Tryz.underlying3; have a3 := Tryz.isAgg3; have z3 := Tryz.sizeOf3; have u4 := Tryz.underlying4; have a4 := Tryz.isAgg4; have z4 := Tryz.sizeOf4
  rw [Sem.run_bind, run_eqGuard_agg w _ _ _ _ _ _ (by kernel_rfl), Result.andThen_ok, run_eql_struct, show (10000 : Nat) = 9999 + 1 from rfl, run_equalIn_agg w 9999 30 _ _ hS hp]
  simp only [Program.fieldsOf, Tryz.underlying30]
  go_simp
  by_cases h0 : p0 = q0 <;> by_cases h1 : p1 = q1 <;> by_cases h2 : p2 = q2 <;> simp [h0, h1, h2, mkS_toList]
set_option maxHeartbeats 1000000 in
set_option maxRecDepth 10000 in
theorem c_spec_l13Put (U : Nat → Value) (l : List Edg) (a b : Int) (s : Bool) (hl : l.length ≤ 1048576) : Mu Tryz.prog 99 [.c (.own 0), .agg [.t none (.v (.int .i64 (a))), .t none (.v (.int .i64 (b))), .t none (.v (.bool (s)))]] [(0, some (.row (some (U 0)) 30 true 3 (enS3 encI encI encB) (l)))] 1 [(0, some (.row none 30 true 3 (enS3 encI encI encB) (putE l (a, b, s))))] 1 (.c (.own 0)) := by
  refine mu_enter Tryz.func99 rfl (Nat.le_of_ble_eq_true rfl) fun w S M => ?_
  refine t_seq ?_
  refine t_region ?_
  refine r_op (o_box 1 rfl rfl rfl rfl) ?_
  refine r_op (o_assign rfl rfl) ?_
  refine r_end ?_
  refine t_seq ?_
  refine t_seq ?_
  refine t_region ?_
  refine r_op (o_assign rfl rfl) ?_
  refine r_end ?_
  refine t_block ?_
  refine t_loopL (fun m => ⟨[(0, some (.c (.own 0))), (3, some (.c (.ptr 1 0))), (5, some (.c (.t none (.v (.int .i64 ((m : Int)))))))], [(0, some (.row (some (U 0)) 30 true 3 (enS3 encI encI encB) (l))), (1, some (.box [.t none (.v (.int .i64 (a))), .t none (.v (.int .i64 (b))), .t none (.v (.bool (s)))]))], 2⟩ : Nat → St) (fun m => m ≤ l.length ∧ ∀ j z, j < m → l[j]? = some z → (fun y => decide (y = (a, b, s))) z = false) (fun m => l.length - m) 0 ⟨⟨rfl, ⟨rfl, ⟨rfl, trivial⟩⟩⟩, ⟨rfl, ⟨rfl, trivial⟩⟩, rfl⟩ (by exact ⟨Nat.zero_le _, fun j z h => by omega⟩) ?_
  rintro m hI ih0
  try dsimp only at hI ih0
  obtain ⟨i1, i2⟩ := hI
  refine t_seq ?_
  refine t_seq ?_
  refine t_region ?_
  refine r_op (o_move rfl rfl) ?_
  refine r_op (o_move rfl rfl) ?_
  refine r_op (o_leno rfl rfl rfl rfl) ?_
  refine r_op (o_bin rfl rfl rfl rfl) ?_
  refine r_end ?_
  refine t_cond rfl (fun h1 => ?_) (fun h1 => ?_)
  ·
    have h1' := of_decide_eq_true h1
    refine t_skip ?_
    refine t_seq ?_
    refine t_block ?_
    refine t_seq ?_
    refine t_draw (fun _ => true) (by kernel_rfl) ?_
    refine d_take 0 rfl rfl (by kernel_rfl) (by kernel_rfl) (by kernel_rfl) (p_move rfl) ?_
    refine d_take 1 rfl rfl (by kernel_rfl) (by kernel_rfl) (by kernel_rfl) (p_move rfl) ?_
    obtain ⟨z2, hz3, b4⟩ := at_get (xs := l) (n := (m : Int)) (by omega) (by omega)
    refine d_take 2 rfl rfl (by kernel_rfl) (by kernel_rfl) (by kernel_rfl) (p_indexo (by kernel_rfl) rfl rfl rfl b4 (at_lt b4 hz3)) ?_
    refine d_take 3 rfl rfl (by kernel_rfl) (by kernel_rfl) (by kernel_rfl) (p_loadAo (by kernel_rfl) (by kernel_rfl) rfl rfl hz3) ?_
    refine d_take 4 rfl rfl (by kernel_rfl) (by kernel_rfl) (by kernel_rfl) (p_loadAb (n := 3) (by kernel_rfl) (by kernel_rfl) rfl rfl rfl) ?_
    refine d_take 5 rfl rfl (by kernel_rfl) (by kernel_rfl) (by kernel_rfl) (p_eqA rfl rfl (eq_c_spec_l13Put_eql_30 _ _ _ _ _ _)) ?_
    refine d_end (by kernel_rfl) ?_
    refine t_cond rfl (fun h5 => ?_) (fun h5 => ?_)
    ·
      have h5' := of_decide_eq_true h5
      refine t_seq ?_
      refine t_region ?_
      refine r_op (o_move rfl rfl) ?_
      refine r_op (o_assign rfl rfl) ?_
      refine r_end ?_
      refine gt_unpin 0 rfl ?_
      refine t_ret Tryz.func99 (.tmp rfl .nil) rfl fun E S w u hI hd => ?_
      refine postM_mk hI hd ?_ ⟨eqR ?_, trivial⟩ rfl rfl <;> clear hI hd <;> (try clear ih0)
      all_goals first | rfl | ((exact putE_there hz3 (by assumption)))
    ·
      have h5' := of_decide_eq_false h5
      refine t_skip ?_
      refine t_endblock ?_
      refine t_region ?_
      refine r_op (o_move rfl rfl) ?_
      refine r_op (o_bin rfl rfl rfl rfl) ?_
      refine r_op (o_assign rfl rfl) ?_
      refine r_end ?_
      refine t_le ?_ (ih0 (m + 1) (by (try dsimp only); omega) (by (try dsimp only); exact ⟨by omega, no_step i2 hz3 rfl (decide_eq_false (by assumption))⟩))
      exact ⟨⟨rfl, ⟨rfl, ⟨(eqI (wr64 (by omega) (by omega))), trivial⟩⟩⟩, ⟨rfl, ⟨rfl, trivial⟩⟩, rfl⟩
  ·
    have h1' := of_decide_eq_false h1
    refine t_exit rfl ?_
    refine t_seq ?_
    refine t_region ?_
    refine r_op (o_move rfl rfl) ?_
    refine r_op (o_loadAb rfl (n := 3) (by kernel_rfl) (by kernel_rfl) rfl rfl rfl) ?_
    refine r_op (o_litS 2 (e := 30) (sz := 3) (zs := [.int .i64 (0), .int .i64 (0), .bool (false)]) rfl rfl (by kernel_rfl) rfl rfl rfl rfl rfl) ?_
    refine r_op (o_append 0 (e := 30) (sz := 3) (by' := 24) ((a, b, s)) rfl (by kernel_rfl) rfl rfl rfl rfl rfl rfl (.cons .sc (.cons .sc (.cons .sc .nil))) rfl (by omega) (by omega)) ?_
    refine r_op (o_assign rfl rfl) ?_
    refine r_end ?_
    refine t_ret Tryz.func99 (.tmp rfl .nil) rfl fun E S w u hI hd => ?_
    refine postM_mk hI hd ?_ ⟨eqR ?_, trivial⟩ rfl rfl <;> clear hI hd <;> (try clear ih0)
    all_goals first | rfl | ((exact putE_new i2 (by omega)))
set_option maxHeartbeats 1000000 in
set_option maxRecDepth 10000 in
theorem c_spec_PositionGraph (rs : Rels) (ds : List Dep) (hrs : rs.length ≤ 4611686018427387904) (hds : szS (fun (x : (List (Int × (List (Int)))) × (List (Int × (List (Int)))) × Bool × Int × Int) => (szS (fun (x : Int × (List (Int))) => (x.2).length) (x.1)) + (szS (fun (x : Int × (List (Int))) => (x.2).length) (x.2.1))) ds ≤ 1048576) : Pu Tryz.prog 44 [.c (.t none (.sl 3 (enS3 encS encI encB) (rs))), .c (.t none (.sl 5 (enS5 (enSl 2 (enS2 encI (enSl 1 encI))) (enSl 2 (enS2 encI (enSl 1 encI))) encB encI encI) (ds)))] [(0, some (.row none 30 true 3 (enS3 encI encI encB) (graphL rs ds)))] 1 (.c (.own 0)) := by
  refine pu_enter Tryz.func44 rfl (Nat.le_of_ble_eq_true rfl) fun w S => ?_
  have gl := sz_len (f := (fun (x : (List (Int × (List (Int)))) × (List (Int × (List (Int)))) × Bool × Int × Int) => (szS (fun (x : Int × (List (Int))) => (x.2).length) (x.1)) + (szS (fun (x : Int × (List (Int))) => (x.2).length) (x.2.1)))) (l := ds)
  refine t_seq ?_
  refine t_region ?_
  refine r_op (o_assign rfl rfl) ?_
  refine r_end ?_
  refine t_seq ?_
  refine t_region ?_
  refine r_op (o_lit0 0 (e := 30) (sz := 3) (zs := [.int .i64 (0), .int .i64 (0), .bool (false)]) (enS3 encI encI encB) rfl rfl (by kernel_rfl) rfl) ?_
  refine r_op (o_assign rfl rfl) ?_
  refine r_end ?_
  refine t_seq ?_
  refine t_seq ?_
  refine t_region ?_
  refine r_op (o_assign rfl rfl) ?_
  refine r_end ?_
  refine t_block ?_
  refine t_loopL (fun m => ⟨[(0, some (.c (.t none (.sl 3 (enS3 encS encI encB) (rs))))), (1, some (.c (.t none (.sl 5 (enS5 (enSl 2 (enS2 encI (enSl 1 encI))) (enSl 2 (enS2 encI (enSl 1 encI))) encB encI encI) (ds))))), (4, some (.c (.t none (.v (.slice none 0 0))))), (5, some (.c (.own 0))), (6, some (.c (.t none (.v (.int .i64 ((m : Int)))))))], [(0, some (.row none 30 true 3 (enS3 encI encI encB) (putAll ((ds.take m).flatMap (edgesD rs)))))], 1⟩ : Nat → St) (fun m => m ≤ ds.length ∧ (depsOk rs ds = true ∨ m = 0)) (fun m => ds.length - m) 0 ⟨⟨rfl, ⟨rfl, ⟨rfl, ⟨rfl, ⟨rfl, trivial⟩⟩⟩⟩⟩, ⟨(eqR rfl), trivial⟩, rfl⟩ (by exact ⟨Nat.zero_le _, .inr rfl⟩) ?_
  rintro m hI ih0
  try dsimp only at hI ih0
  obtain ⟨i1, i2⟩ := hI; have l0 := fm_len (g := edgesD rs) (l := ds) (m := m)
  refine t_seq ?_
  refine t_seq ?_
  refine t_region ?_
  refine r_op (o_move rfl rfl) ?_
  refine r_op (o_move rfl rfl) ?_
  refine r_op (o_len rfl rfl rfl) ?_
  refine r_op (o_bin rfl rfl rfl rfl) ?_
  refine r_op (o_move rfl rfl) ?_
  refine r_guard rfl rfl rfl (fun g1 => ?_) (fun g1 => ?_)
  ·
    have g1' := of_decide_eq_true g1
    refine r_op (o_move rfl rfl) ?_
    refine r_guard rfl rfl rfl (fun _ => ?_) (nc g1)
    refine r_op (o_move rfl rfl) ?_
    refine r_guard rfl rfl rfl (fun _ => ?_) (nc g1)
    refine r_op (o_call 1 1 false (Go.Proofs.enters_of Tryz.func18 (by kernel_rfl) rfl) (c_spec_AreValidDependencies (rs) (ds) (by omega) (by omega)) rfl (.cons rfl (.c .t0) (.cons rfl (.c .t0) .nil)) rfl rfl rfl) ?_
    refine r_op (o_pickT rfl rfl g1 rfl) ?_
    refine r_end ?_
    refine t_cond rfl (fun h2 => ?_) (fun h2 => ?_)
    ·
      have h2' := h2
      refine t_skip ?_
      refine t_seq ?_
      refine t_block ?_
      refine t_seq ?_
      refine t_region ?_
      refine r_op (o_move rfl rfl) ?_
      refine r_op (o_move rfl rfl) ?_
      obtain ⟨z3, hz4, b5⟩ := at_get (xs := ds) (n := (m : Int)) (by omega) (by omega)
      refine r_op (o_index rfl (by kernel_rfl) rfl rfl b5 hz4) ?_
      refine r_op (o_loadA rfl (n := 5) (by kernel_rfl) (by kernel_rfl) rfl rfl) ?_
      refine r_op (o_call 1 5 false (Go.Proofs.enters_of Tryz.func96 (by kernel_rfl) rfl) (c_spec_FrontierVariables (z3.1) (z3.2.1) (z3.2.2.1) (z3.2.2.2.1) (z3.2.2.2.2) (by (have e1 := sz_at (f := (fun (x : (List (Int × (List (Int)))) × (List (Int × (List (Int)))) × Bool × Int × Int) => (szS (fun (x : Int × (List (Int))) => (x.2).length) (x.1)) + (szS (fun (x : Int × (List (Int))) => (x.2).length) (x.2.1)))) (l := ds) (m := m) (by assumption); (try dsimp only at e1); omega))) rfl (.cons rfl (.agg (.cons .t0 (.cons .t0 (.cons .t0 (.cons .t0 (.cons .t0 .nil)))))) .nil) rfl rfl rfl) ?_
      refine r_op (o_assign rfl rfl) ?_
      refine r_end ?_
      refine t_seq ?_
      refine t_region ?_
      refine r_op (o_move rfl rfl) ?_
      refine r_op (o_move rfl rfl) ?_
      refine r_op (o_index rfl (by kernel_rfl) rfl rfl b5 hz4) ?_
      refine r_op (o_loadA rfl (n := 5) (by kernel_rfl) (by kernel_rfl) rfl rfl) ?_
      refine r_op (o_call 5 9 false (Go.Proofs.enters_of Tryz.func97 (by kernel_rfl) rfl) (c_spec_ExistentialVariables (z3.1) (z3.2.1) (z3.2.2.1) (z3.2.2.2.1) (z3.2.2.2.2) (by (have e1 := sz_at (f := (fun (x : (List (Int × (List (Int)))) × (List (Int × (List (Int)))) × Bool × Int × Int) => (szS (fun (x : Int × (List (Int))) => (x.2).length) (x.1)) + (szS (fun (x : Int × (List (Int))) => (x.2).length) (x.2.1)))) (l := ds) (m := m) (by assumption); (try dsimp only at e1); omega))) rfl (.cons rfl (.agg (.cons .t0 (.cons .t0 (.cons .t0 (.cons .t0 (.cons .t0 .nil)))))) .nil) rfl rfl rfl) ?_
      refine r_op (o_assign rfl rfl) ?_
      refine r_end ?_
      refine t_seq ?_
      refine t_region ?_
      refine r_op (o_assign rfl rfl) ?_
      refine r_end ?_
      refine t_block ?_
      refine t_loopL (fun n => ⟨[(0, some (.c (.t none (.sl 3 (enS3 encS encI encB) (rs))))), (1, some (.c (.t none (.sl 5 (enS5 (enSl 2 (enS2 encI (enSl 1 encI))) (enSl 2 (enS2 encI (enSl 1 encI))) encB encI encI) (ds))))), (4, some (.c (.t none (.v (.slice none 0 0))))), (5, some (.c (.own 0))), (6, some (.c (.t none (.v (.int .i64 ((m : Int))))))), (7, some (.c (.own 2))), (8, some (.c (.own 6))), (9, some (.c (.t none (.v (.int .i64 ((n : Int)))))))], [(0, some (.row none 30 true 3 (enS3 encI encI encB) (putAll ((ds.take m).flatMap (edgesD rs) ++ ((selV true (setI (varsL z3.1)) (setI (varsL z3.2.1))).take n).flatMap (edgesV rs z3))))), (2, some (.row none 3 true 1 encI (selV true (setI (varsL (z3.1))) (setI (varsL (z3.2.1)))))), (6, some (.row none 3 true 1 encI (selV false (setI (varsL (z3.1))) (setI (varsL (z3.2.1))))))], 9⟩ : Nat → St) (fun n => n ≤ (selV true (setI (varsL z3.1)) (setI (varsL z3.2.1))).length) (fun n => (selV true (setI (varsL z3.1)) (setI (varsL z3.2.1))).length - n) 0 ⟨⟨rfl, ⟨rfl, ⟨rfl, ⟨rfl, ⟨rfl, ⟨rfl, ⟨rfl, ⟨rfl, trivial⟩⟩⟩⟩⟩⟩⟩⟩, ⟨(eqR (by rw [fm_zero, List.append_nil])), ⟨rfl, ⟨rfl, trivial⟩⟩⟩, rfl⟩ (by exact Nat.zero_le _) ?_
      rintro n hI ih1
      try dsimp only at hI ih1
      have er := edges_room (rs := rs) (ds := ds) (by assumption); have j1 := hI; have db := edges_bnd (depsOk_at (rs := rs) (by assumption) (List.mem_of_getElem? hz4)); have db1 : (selV true (setI (varsL z3.1)) (setI (varsL z3.2.1))).length ≤ 12 := db.1; have db2 : (selV false (setI (varsL z3.1)) (setI (varsL z3.2.1))).length ≤ 12 := db.2.1; (have e1 := sz_at (f := (fun (x : (List (Int × (List (Int)))) × (List (Int × (List (Int)))) × Bool × Int × Int) => (szS (fun (x : Int × (List (Int))) => (x.2).length) (x.1)) + (szS (fun (x : Int × (List (Int))) => (x.2).length) (x.2.1)))) (l := ds) (m := m) hz4; (try dsimp only at e1)); have l1 := fm_len (g := edgesV rs z3) (l := selV true (setI (varsL z3.1)) (setI (varsL z3.2.1))) (m := n); have l0 := fm_part (g := edgesD rs) (l := ds) (m := m) hz4 l1; have pl := putAll_len (((ds.take m).flatMap (edgesD rs) ++ ((selV true (setI (varsL z3.1)) (setI (varsL z3.2.1))).take n).flatMap (edgesV rs z3))); rw [List.length_append] at l0 pl
      refine t_seq ?_
      refine t_seq ?_
      refine t_region ?_
      refine r_op (o_move rfl rfl) ?_
      refine r_op (o_move rfl rfl) ?_
      refine r_op (o_leno rfl rfl rfl rfl) ?_
      refine r_op (o_bin rfl rfl rfl rfl) ?_
      refine r_end ?_
      refine t_cond rfl (fun h6 => ?_) (fun h6 => ?_)
      ·
        have h6' := of_decide_eq_true h6
        refine t_skip ?_
        refine t_seq ?_
        refine t_block ?_
        refine t_seq ?_
        refine t_draw (fun _ => true) (by kernel_rfl) ?_
        refine d_take 0 rfl rfl (by kernel_rfl) (by kernel_rfl) (by kernel_rfl) (p_move rfl) ?_
        refine d_take 1 rfl rfl (by kernel_rfl) (by kernel_rfl) (by kernel_rfl) (p_move rfl) ?_
        refine d_take 2 rfl rfl (by kernel_rfl) (by kernel_rfl) (by kernel_rfl) (p_move rfl) ?_
        refine d_take 3 rfl rfl (by kernel_rfl) (by kernel_rfl) (by kernel_rfl) (p_index (by kernel_rfl) rfl rfl b5 hz4) ?_
        refine d_take 4 rfl rfl (by kernel_rfl) (by kernel_rfl) (by kernel_rfl) (p_field (off := 0) (by kernel_rfl) rfl) ?_
        refine d_take 5 rfl rfl (by kernel_rfl) (by kernel_rfl) (by kernel_rfl) (p_load1 (by kernel_rfl) rfl rfl) ?_
        refine d_take 6 rfl rfl (by kernel_rfl) (by kernel_rfl) (by kernel_rfl) (p_move rfl) ?_
        refine d_take 7 rfl rfl (by kernel_rfl) (by kernel_rfl) (by kernel_rfl) (p_move rfl) ?_
        obtain ⟨z7, hz8, b9⟩ := at_get (xs := selV true (setI (varsL (z3.1))) (setI (varsL (z3.2.1)))) (n := (n : Int)) (by omega) (by omega)
        refine d_take 8 rfl rfl (by kernel_rfl) (by kernel_rfl) (by kernel_rfl) (p_indexo (by kernel_rfl) rfl rfl rfl b9 (at_lt b9 hz8)) ?_
        refine d_take 9 rfl rfl (by kernel_rfl) (by kernel_rfl) (by kernel_rfl) (p_load1o (by kernel_rfl) rfl rfl rfl hz8) ?_
        refine d_only 10 rfl (by kernel_rfl) rfl (o_call 9 10 false (Go.Proofs.enters_of Tryz.func98 (by kernel_rfl) rfl) (c_spec_l13Places (rs) (z3.1) (z7) (by omega) (by omega)) rfl (.cons rfl (.c .t0) (.cons rfl (.c .t0) (.cons rfl (.c .t0) .nil))) rfl rfl rfl) ?_
        refine d_take 11 rfl rfl (by kernel_rfl) (by kernel_rfl) (by kernel_rfl) (p_assign rfl) ?_
        refine d_end (by kernel_rfl) ?_
        refine t_seq ?_
        refine t_draw (fun _ => true) (by kernel_rfl) ?_
        refine d_take 0 rfl rfl (by kernel_rfl) (by kernel_rfl) (by kernel_rfl) (p_move rfl) ?_
        refine d_take 1 rfl rfl (by kernel_rfl) (by kernel_rfl) (by kernel_rfl) (p_move rfl) ?_
        refine d_take 2 rfl rfl (by kernel_rfl) (by kernel_rfl) (by kernel_rfl) (p_move rfl) ?_
        refine d_take 3 rfl rfl (by kernel_rfl) (by kernel_rfl) (by kernel_rfl) (p_index (by kernel_rfl) rfl rfl b5 hz4) ?_
        refine d_take 4 rfl rfl (by kernel_rfl) (by kernel_rfl) (by kernel_rfl) (p_field (off := 1) (by kernel_rfl) rfl) ?_
        refine d_take 5 rfl rfl (by kernel_rfl) (by kernel_rfl) (by kernel_rfl) (p_load1 (by kernel_rfl) rfl rfl) ?_
        refine d_take 6 rfl rfl (by kernel_rfl) (by kernel_rfl) (by kernel_rfl) (p_move rfl) ?_
        refine d_take 7 rfl rfl (by kernel_rfl) (by kernel_rfl) (by kernel_rfl) (p_move rfl) ?_
        refine d_take 8 rfl rfl (by kernel_rfl) (by kernel_rfl) (by kernel_rfl) (p_indexo (by kernel_rfl) rfl rfl rfl b9 (at_lt b9 hz8)) ?_
        refine d_take 9 rfl rfl (by kernel_rfl) (by kernel_rfl) (by kernel_rfl) (p_load1o (by kernel_rfl) rfl rfl rfl hz8) ?_
        refine d_only 10 rfl (by kernel_rfl) rfl (o_call 10 11 false (Go.Proofs.enters_of Tryz.func98 (by kernel_rfl) rfl) (c_spec_l13Places (rs) (z3.2.1) (z7) (by omega) (by omega)) rfl (.cons rfl (.c .t0) (.cons rfl (.c .t0) (.cons rfl (.c .t0) .nil))) rfl rfl rfl) ?_
        refine d_take 11 rfl rfl (by kernel_rfl) (by kernel_rfl) (by kernel_rfl) (p_assign rfl) ?_
        refine d_end (by kernel_rfl) ?_
        refine t_seq ?_
        refine t_region ?_
        refine r_op (o_assign rfl rfl) ?_
        refine r_end ?_
        refine t_block ?_
        refine t_loopL (fun p => ⟨[(0, some (.c (.t none (.sl 3 (enS3 encS encI encB) (rs))))), (1, some (.c (.t none (.sl 5 (enS5 (enSl 2 (enS2 encI (enSl 1 encI))) (enSl 2 (enS2 encI (enSl 1 encI))) encB encI encI) (ds))))), (4, some (.c (.t none (.v (.slice none 0 0))))), (5, some (.c (.own 0))), (6, some (.c (.t none (.v (.int .i64 ((m : Int))))))), (7, some (.c (.own 2))), (8, some (.c (.own 6))), (9, some (.c (.t none (.v (.int .i64 ((n : Int))))))), (10, some (.c (.own 9))), (11, some (.c (.own 10))), (12, some (.c (.t none (.v (.int .i64 ((p : Int)))))))], [(0, some (.row none 30 true 3 (enS3 encI encI encB) (putAll (((ds.take m).flatMap (edgesD rs) ++ ((selV true (setI (varsL z3.1)) (setI (varsL z3.2.1))).take n).flatMap (edgesV rs z3)) ++ ((placesL rs z3.1 z7).take p).flatMap (edgesF rs z3 z7))))), (2, some (.row none 3 true 1 encI (selV true (setI (varsL (z3.1))) (setI (varsL (z3.2.1)))))), (6, some (.row none 3 true 1 encI (selV false (setI (varsL (z3.1))) (setI (varsL (z3.2.1)))))), (9, some (.row none 3 true 1 encI (placesL (rs) (z3.1) (z7)))), (10, some (.row none 3 true 1 encI (placesL (rs) (z3.2.1) (z7))))], 11⟩ : Nat → St) (fun p => p ≤ (placesL rs z3.1 z7).length) (fun p => (placesL rs z3.1 z7).length - p) 0 ⟨⟨rfl, ⟨rfl, ⟨rfl, ⟨rfl, ⟨rfl, ⟨rfl, ⟨rfl, ⟨rfl, ⟨rfl, ⟨rfl, ⟨rfl, trivial⟩⟩⟩⟩⟩⟩⟩⟩⟩⟩⟩, ⟨(eqR (by rw [fm_zero, List.append_nil])), ⟨rfl, ⟨rfl, ⟨rfl, ⟨rfl, trivial⟩⟩⟩⟩⟩, rfl⟩ (by exact Nat.zero_le _) ?_
        rintro p hI ih2
        try dsimp only at hI ih2
        have k1 := hI; have dp := (db.2.2.1 z7).1; have dq := (db.2.2.1 z7).2; have l2 := fm_len (g := edgesF rs z3 z7) (l := placesL rs z3.1 z7) (m := p); have l1 := fm_part (g := edgesV rs z3) (l := selV true (setI (varsL z3.1)) (setI (varsL z3.2.1))) (m := n) hz8 l2; have l0 := fm_part (g := edgesD rs) (l := ds) (m := m) hz4 l1; have pl := putAll_len ((((ds.take m).flatMap (edgesD rs) ++ ((selV true (setI (varsL z3.1)) (setI (varsL z3.2.1))).take n).flatMap (edgesV rs z3)) ++ ((placesL rs z3.1 z7).take p).flatMap (edgesF rs z3 z7))); simp only [List.length_append] at l0 pl
        refine t_seq ?_
        refine t_seq ?_
        refine t_region ?_
        refine r_op (o_move rfl rfl) ?_
        refine r_op (o_move rfl rfl) ?_
        refine r_op (o_leno rfl rfl rfl rfl) ?_
        refine r_op (o_bin rfl rfl rfl rfl) ?_
        refine r_end ?_
        refine t_cond rfl (fun h10 => ?_) (fun h10 => ?_)
        ·
          have h10' := of_decide_eq_true h10
          refine t_skip ?_
          refine t_seq ?_
          refine t_block ?_
          refine t_seq ?_
          refine t_seq ?_
          refine t_region ?_
          refine r_op (o_assign rfl rfl) ?_
          refine r_end ?_
          refine t_block ?_
          refine t_loopL (fun b => ⟨[(0, some (.c (.t none (.sl 3 (enS3 encS encI encB) (rs))))), (1, some (.c (.t none (.sl 5 (enS5 (enSl 2 (enS2 encI (enSl 1 encI))) (enSl 2 (enS2 encI (enSl 1 encI))) encB encI encI) (ds))))), (4, some (.c (.t none (.v (.slice none 0 0))))), (5, some (.c (.own 0))), (6, some (.c (.t none (.v (.int .i64 ((m : Int))))))), (7, some (.c (.own 2))), (8, some (.c (.own 6))), (9, some (.c (.t none (.v (.int .i64 ((n : Int))))))), (10, some (.c (.own 9))), (11, some (.c (.own 10))), (12, some (.c (.t none (.v (.int .i64 ((p : Int))))))), (13, some (.c (.t none (.v (.int .i64 ((b : Int)))))))], [(0, some (.row none 30 true 3 (enS3 encI encI encB) (addL ((placesL rs z3.1 z7).getD p 0) false (putAll (((ds.take m).flatMap (edgesD rs) ++ ((selV true (setI (varsL z3.1)) (setI (varsL z3.2.1))).take n).flatMap (edgesV rs z3)) ++ ((placesL rs z3.1 z7).take p).flatMap (edgesF rs z3 z7))) ((placesL rs z3.2.1 z7).take b)))), (2, some (.row none 3 true 1 encI (selV true (setI (varsL (z3.1))) (setI (varsL (z3.2.1)))))), (6, some (.row none 3 true 1 encI (selV false (setI (varsL (z3.1))) (setI (varsL (z3.2.1)))))), (9, some (.row none 3 true 1 encI (placesL (rs) (z3.1) (z7)))), (10, some (.row none 3 true 1 encI (placesL (rs) (z3.2.1) (z7))))], 11⟩ : Nat → St) (fun b => b ≤ (placesL rs z3.2.1 z7).length) (fun b => (placesL rs z3.2.1 z7).length - b) 0 ⟨⟨rfl, ⟨rfl, ⟨rfl, ⟨rfl, ⟨rfl, ⟨rfl, ⟨rfl, ⟨rfl, ⟨rfl, ⟨rfl, ⟨rfl, ⟨rfl, trivial⟩⟩⟩⟩⟩⟩⟩⟩⟩⟩⟩⟩, ⟨(eqR (by rw [List.take_zero]; rfl)), ⟨rfl, ⟨rfl, ⟨rfl, ⟨rfl, trivial⟩⟩⟩⟩⟩, rfl⟩ (by exact Nat.zero_le _) ?_
          rintro b hI ih3
          try dsimp only at hI ih3
          have n1 := hI; have hzf := getD_get (l := placesL rs z3.1 z7) (m := p) (by omega); have al := addL_len (f := ((placesL rs z3.1 z7).getD p 0)) (sp := false) ((placesL rs z3.2.1 z7).take b) (putAll (((ds.take m).flatMap (edgesD rs) ++ ((selV true (setI (varsL z3.1)) (setI (varsL z3.2.1))).take n).flatMap (edgesV rs z3)) ++ ((placesL rs z3.1 z7).take p).flatMap (edgesF rs z3 z7))); rw [List.length_take] at al
          refine t_seq ?_
          refine t_seq ?_
          refine t_region ?_
          refine r_op (o_move rfl rfl) ?_
          refine r_op (o_move rfl rfl) ?_
          refine r_op (o_leno rfl rfl rfl rfl) ?_
          refine r_op (o_bin rfl rfl rfl rfl) ?_
          refine r_end ?_
          refine t_cond rfl (fun h11 => ?_) (fun h11 => ?_)
          ·
            have h11' := of_decide_eq_true h11
            refine t_skip ?_
            refine t_seq ?_
            refine t_block ?_
            refine t_draw (fun i => !(Nat.beq i 10)) (by kernel_rfl) ?_
            refine d_take 0 rfl rfl (by kernel_rfl) (by kernel_rfl) (by kernel_rfl) (p_move rfl) ?_
            refine d_take 1 rfl rfl (by kernel_rfl) (by kernel_rfl) (by kernel_rfl) (p_move rfl) ?_
            refine d_take 2 rfl rfl (by kernel_rfl) (by kernel_rfl) (by kernel_rfl) (p_move rfl) ?_
            obtain ⟨z12, hz13, b14⟩ := at_get (xs := placesL (rs) (z3.1) (z7)) (n := (p : Int)) (by omega) (by omega)
            refine d_take 3 rfl rfl (by kernel_rfl) (by kernel_rfl) (by kernel_rfl) (p_indexo (by kernel_rfl) rfl rfl rfl b14 (at_lt b14 hz13)) ?_
            refine d_take 4 rfl rfl (by kernel_rfl) (by kernel_rfl) (by kernel_rfl) (p_load1o (by kernel_rfl) rfl rfl rfl hz13) ?_
            refine d_take 5 rfl rfl (by kernel_rfl) (by kernel_rfl) (by kernel_rfl) (p_move rfl) ?_
            refine d_take 6 rfl rfl (by kernel_rfl) (by kernel_rfl) (by kernel_rfl) (p_move rfl) ?_
            obtain ⟨z15, hz16, b17⟩ := at_get (xs := placesL (rs) (z3.2.1) (z7)) (n := (b : Int)) (by omega) (by omega)
            refine d_take 7 rfl rfl (by kernel_rfl) (by kernel_rfl) (by kernel_rfl) (p_indexo (by kernel_rfl) rfl rfl rfl b17 (at_lt b17 hz16)) ?_
            refine d_take 8 rfl rfl (by kernel_rfl) (by kernel_rfl) (by kernel_rfl) (p_load1o (by kernel_rfl) rfl rfl rfl hz16) ?_
            refine d_take 9 rfl rfl (by kernel_rfl) (by kernel_rfl) (by kernel_rfl) (p_build (pl := [(0, 1), (1, 1), (2, 1)]) (zs := [.int .i64 (0), .int .i64 (0), .bool (false)]) (by kernel_rfl) (by kernel_rfl) rfl rfl rfl) ?_
            refine d_only 10 rfl (by kernel_rfl) rfl (o_callC 0 (l' := putE (addL ((placesL rs z3.1 z7).getD p 0) false (putAll (((ds.take m).flatMap (edgesD rs) ++ ((selV true (setI (varsL z3.1)) (setI (varsL z3.2.1))).take n).flatMap (edgesV rs z3)) ++ ((placesL rs z3.1 z7).take p).flatMap (edgesF rs z3 z7))) ((placesL rs z3.2.1 z7).take b)) ((z12), (z15), (false))) (Go.Proofs.enters_of Tryz.func99 (by kernel_rfl) rfl) (fun U => c_spec_l13Put U  (addL ((placesL rs z3.1 z7).getD p 0) false (putAll (((ds.take m).flatMap (edgesD rs) ++ ((selV true (setI (varsL z3.1)) (setI (varsL z3.2.1))).take n).flatMap (edgesV rs z3)) ++ ((placesL rs z3.1 z7).take p).flatMap (edgesF rs z3 z7))) ((placesL rs z3.2.1 z7).take b)) (z12) (z15) (false) (by omega)) rfl rfl (.cons rfl (.own rfl) (.agg rfl (.cons .t0 (.cons .t0 (.cons .t0 .nil))) .nil))) ?_
            refine d_take 11 rfl rfl (by kernel_rfl) (by kernel_rfl) (by kernel_rfl) (p_assign rfl) ?_
            refine d_end (by kernel_rfl) ?_
            refine t_endblock ?_
            refine t_region ?_
            refine r_op (o_move rfl rfl) ?_
            refine r_op (o_bin rfl rfl rfl rfl) ?_
            refine r_op (o_assign rfl rfl) ?_
            refine r_end ?_
            have gdf := Option.some.inj (hzf.symm.trans hz13)
            refine t_le ?_ (ih3 (b + 1) (by (try dsimp only); omega) (by (try dsimp only); omega))
            exact ⟨⟨rfl, ⟨rfl, ⟨rfl, ⟨rfl, ⟨rfl, ⟨rfl, ⟨rfl, ⟨rfl, ⟨rfl, ⟨rfl, ⟨rfl, ⟨(eqI (wr64 (by omega) (by omega))), trivial⟩⟩⟩⟩⟩⟩⟩⟩⟩⟩⟩⟩, ⟨(eqR (by rw [← gdf]; exact addL_snoc hz16)), ⟨rfl, ⟨rfl, ⟨rfl, ⟨rfl, trivial⟩⟩⟩⟩⟩, rfl⟩
          ·
            have h11' := of_decide_eq_false h11
            refine t_exit rfl ?_
            refine t_seq ?_
            refine t_region ?_
            refine r_op (o_assign rfl rfl) ?_
            refine r_end ?_
            refine t_block ?_
            refine t_loopL (fun q => ⟨[(0, some (.c (.t none (.sl 3 (enS3 encS encI encB) (rs))))), (1, some (.c (.t none (.sl 5 (enS5 (enSl 2 (enS2 encI (enSl 1 encI))) (enSl 2 (enS2 encI (enSl 1 encI))) encB encI encI) (ds))))), (4, some (.c (.t none (.v (.slice none 0 0))))), (5, some (.c (.own 0))), (6, some (.c (.t none (.v (.int .i64 ((m : Int))))))), (7, some (.c (.own 2))), (8, some (.c (.own 6))), (9, some (.c (.t none (.v (.int .i64 ((n : Int))))))), (10, some (.c (.own 9))), (11, some (.c (.own 10))), (12, some (.c (.t none (.v (.int .i64 ((p : Int))))))), (14, some (.c (.t none (.v (.int .i64 ((q : Int)))))))], [(0, some (.row none 30 true 3 (enS3 encI encI encB) (putAll (((((ds.take m).flatMap (edgesD rs) ++ ((selV true (setI (varsL z3.1)) (setI (varsL z3.2.1))).take n).flatMap (edgesV rs z3)) ++ ((placesL rs z3.1 z7).take p).flatMap (edgesF rs z3 z7)) ++ edgesN rs z3 z7 ((placesL rs z3.1 z7).getD p 0)) ++ ((selV false (setI (varsL z3.1)) (setI (varsL z3.2.1))).take q).flatMap (edgesX rs z3 ((placesL rs z3.1 z7).getD p 0)))))), (2, some (.row none 3 true 1 encI (selV true (setI (varsL (z3.1))) (setI (varsL (z3.2.1)))))), (6, some (.row none 3 true 1 encI (selV false (setI (varsL (z3.1))) (setI (varsL (z3.2.1)))))), (9, some (.row none 3 true 1 encI (placesL (rs) (z3.1) (z7)))), (10, some (.row none 3 true 1 encI (placesL (rs) (z3.2.1) (z7))))], 11⟩ : Nat → St) (fun q => q ≤ (selV false (setI (varsL z3.1)) (setI (varsL z3.2.1))).length) (fun q => (selV false (setI (varsL z3.1)) (setI (varsL z3.2.1))).length - q) 0 ⟨⟨rfl, ⟨rfl, ⟨rfl, ⟨rfl, ⟨rfl, ⟨rfl, ⟨rfl, ⟨rfl, ⟨rfl, ⟨rfl, ⟨rfl, ⟨rfl, trivial⟩⟩⟩⟩⟩⟩⟩⟩⟩⟩⟩⟩, ⟨(eqR (by rw [List.take_of_length_le (l := placesL rs z3.2.1 z7) (i := b) (by omega), fm_zero, List.append_nil, addL_all]; rfl)), ⟨rfl, ⟨rfl, ⟨rfl, ⟨rfl, trivial⟩⟩⟩⟩⟩, rfl⟩ (by exact Nat.zero_le _) ?_
            rintro q hI ih4
            try dsimp only at hI ih4
            have o1 := hI; have l3 : (edgesN rs z3 z7 ((placesL rs z3.1 z7).getD p 0) ++ ((selV false (setI (varsL z3.1)) (setI (varsL z3.2.1))).take q).flatMap (edgesX rs z3 ((placesL rs z3.1 z7).getD p 0))).length ≤ (edgesF rs z3 z7 ((placesL rs z3.1 z7).getD p 0)).length := (by have l4 := fm_len (g := edgesX rs z3 ((placesL rs z3.1 z7).getD p 0)) (l := selV false (setI (varsL z3.1)) (setI (varsL z3.2.1))) (m := q); unfold edgesF exisV; simp only [List.length_append]; omega); have l2 := fm_part (g := edgesF rs z3 z7) (l := placesL rs z3.1 z7) (m := p) hzf l3; have l1 := fm_part (g := edgesV rs z3) (l := selV true (setI (varsL z3.1)) (setI (varsL z3.2.1))) (m := n) hz8 l2; have l0 := fm_part (g := edgesD rs) (l := ds) (m := m) hz4 l1; have pl := putAll_len ((((((ds.take m).flatMap (edgesD rs) ++ ((selV true (setI (varsL z3.1)) (setI (varsL z3.2.1))).take n).flatMap (edgesV rs z3)) ++ ((placesL rs z3.1 z7).take p).flatMap (edgesF rs z3 z7)) ++ edgesN rs z3 z7 ((placesL rs z3.1 z7).getD p 0)) ++ ((selV false (setI (varsL z3.1)) (setI (varsL z3.2.1))).take q).flatMap (edgesX rs z3 ((placesL rs z3.1 z7).getD p 0)))); simp only [List.length_append] at l0 pl
            refine t_seq ?_
            refine t_seq ?_
            refine t_region ?_
            refine r_op (o_move rfl rfl) ?_
            refine r_op (o_move rfl rfl) ?_
            refine r_op (o_leno rfl rfl rfl rfl) ?_
            refine r_op (o_bin rfl rfl rfl rfl) ?_
            refine r_end ?_
            refine t_cond rfl (fun h18 => ?_) (fun h18 => ?_)
            ·
              have h18' := of_decide_eq_true h18
              refine t_skip ?_
              refine t_seq ?_
              refine t_block ?_
              refine t_seq ?_
              refine t_draw (fun _ => true) (by kernel_rfl) ?_
              refine d_take 0 rfl rfl (by kernel_rfl) (by kernel_rfl) (by kernel_rfl) (p_move rfl) ?_
              refine d_take 1 rfl rfl (by kernel_rfl) (by kernel_rfl) (by kernel_rfl) (p_move rfl) ?_
              refine d_take 2 rfl rfl (by kernel_rfl) (by kernel_rfl) (by kernel_rfl) (p_move rfl) ?_
              refine d_take 3 rfl rfl (by kernel_rfl) (by kernel_rfl) (by kernel_rfl) (p_index (by kernel_rfl) rfl rfl b5 hz4) ?_
              refine d_take 4 rfl rfl (by kernel_rfl) (by kernel_rfl) (by kernel_rfl) (p_field (off := 1) (by kernel_rfl) rfl) ?_
              refine d_take 5 rfl rfl (by kernel_rfl) (by kernel_rfl) (by kernel_rfl) (p_load1 (by kernel_rfl) rfl rfl) ?_
              refine d_take 6 rfl rfl (by kernel_rfl) (by kernel_rfl) (by kernel_rfl) (p_move rfl) ?_
              refine d_take 7 rfl rfl (by kernel_rfl) (by kernel_rfl) (by kernel_rfl) (p_move rfl) ?_
              obtain ⟨z19, hz20, b21⟩ := at_get (xs := selV false (setI (varsL (z3.1))) (setI (varsL (z3.2.1)))) (n := (q : Int)) (by omega) (by omega)
              refine d_take 8 rfl rfl (by kernel_rfl) (by kernel_rfl) (by kernel_rfl) (p_indexo (by kernel_rfl) rfl rfl rfl b21 (at_lt b21 hz20)) ?_
              refine d_take 9 rfl rfl (by kernel_rfl) (by kernel_rfl) (by kernel_rfl) (p_load1o (by kernel_rfl) rfl rfl rfl hz20) ?_
              refine d_only 10 rfl (by kernel_rfl) rfl (o_call 11 12 false (Go.Proofs.enters_of Tryz.func98 (by kernel_rfl) rfl) (c_spec_l13Places (rs) (z3.2.1) (z19) (by omega) (by omega)) rfl (.cons rfl (.c .t0) (.cons rfl (.c .t0) (.cons rfl (.c .t0) .nil))) rfl rfl rfl) ?_
              refine d_take 11 rfl rfl (by kernel_rfl) (by kernel_rfl) (by kernel_rfl) (p_assign rfl) ?_
              refine d_end (by kernel_rfl) ?_
              refine t_seq ?_
              refine t_region ?_
              refine r_op (o_assign rfl rfl) ?_
              refine r_end ?_
              refine t_block ?_
              refine t_loopL (fun b => ⟨[(0, some (.c (.t none (.sl 3 (enS3 encS encI encB) (rs))))), (1, some (.c (.t none (.sl 5 (enS5 (enSl 2 (enS2 encI (enSl 1 encI))) (enSl 2 (enS2 encI (enSl 1 encI))) encB encI encI) (ds))))), (4, some (.c (.t none (.v (.slice none 0 0))))), (5, some (.c (.own 0))), (6, some (.c (.t none (.v (.int .i64 ((m : Int))))))), (7, some (.c (.own 2))), (8, some (.c (.own 6))), (9, some (.c (.t none (.v (.int .i64 ((n : Int))))))), (10, some (.c (.own 9))), (11, some (.c (.own 10))), (12, some (.c (.t none (.v (.int .i64 ((p : Int))))))), (14, some (.c (.t none (.v (.int .i64 ((q : Int))))))), (15, some (.c (.own 11))), (16, some (.c (.t none (.v (.int .i64 ((b : Int)))))))], [(0, some (.row none 30 true 3 (enS3 encI encI encB) (addL ((placesL rs z3.1 z7).getD p 0) true (putAll (((((ds.take m).flatMap (edgesD rs) ++ ((selV true (setI (varsL z3.1)) (setI (varsL z3.2.1))).take n).flatMap (edgesV rs z3)) ++ ((placesL rs z3.1 z7).take p).flatMap (edgesF rs z3 z7)) ++ edgesN rs z3 z7 ((placesL rs z3.1 z7).getD p 0)) ++ ((selV false (setI (varsL z3.1)) (setI (varsL z3.2.1))).take q).flatMap (edgesX rs z3 ((placesL rs z3.1 z7).getD p 0)))) ((placesL rs z3.2.1 z19).take b)))), (2, some (.row none 3 true 1 encI (selV true (setI (varsL (z3.1))) (setI (varsL (z3.2.1)))))), (6, some (.row none 3 true 1 encI (selV false (setI (varsL (z3.1))) (setI (varsL (z3.2.1)))))), (9, some (.row none 3 true 1 encI (placesL (rs) (z3.1) (z7)))), (10, some (.row none 3 true 1 encI (placesL (rs) (z3.2.1) (z7)))), (11, some (.row none 3 true 1 encI (placesL (rs) (z3.2.1) (z19))))], 12⟩ : Nat → St) (fun b => b ≤ (placesL rs z3.2.1 z19).length) (fun b => (placesL rs z3.2.1 z19).length - b) 0 ⟨⟨rfl, ⟨rfl, ⟨rfl, ⟨rfl, ⟨rfl, ⟨rfl, ⟨rfl, ⟨rfl, ⟨rfl, ⟨rfl, ⟨rfl, ⟨rfl, ⟨rfl, ⟨rfl, trivial⟩⟩⟩⟩⟩⟩⟩⟩⟩⟩⟩⟩⟩⟩, ⟨(eqR (by rw [List.take_zero]; rfl)), ⟨rfl, ⟨rfl, ⟨rfl, ⟨rfl, ⟨rfl, trivial⟩⟩⟩⟩⟩⟩, rfl⟩ (by exact Nat.zero_le _) ?_
              rintro b hI ih5
              try dsimp only at hI ih5
              have r1 := hI; have dr := (db.2.2.1 z19).2; have al := addL_len (f := ((placesL rs z3.1 z7).getD p 0)) (sp := true) ((placesL rs z3.2.1 z19).take b) (putAll (((((ds.take m).flatMap (edgesD rs) ++ ((selV true (setI (varsL z3.1)) (setI (varsL z3.2.1))).take n).flatMap (edgesV rs z3)) ++ ((placesL rs z3.1 z7).take p).flatMap (edgesF rs z3 z7)) ++ edgesN rs z3 z7 ((placesL rs z3.1 z7).getD p 0)) ++ ((selV false (setI (varsL z3.1)) (setI (varsL z3.2.1))).take q).flatMap (edgesX rs z3 ((placesL rs z3.1 z7).getD p 0)))); rw [List.length_take] at al
              refine t_seq ?_
              refine t_seq ?_
              refine t_region ?_
              refine r_op (o_move rfl rfl) ?_
              refine r_op (o_move rfl rfl) ?_
              refine r_op (o_leno rfl rfl rfl rfl) ?_
              refine r_op (o_bin rfl rfl rfl rfl) ?_
              refine r_end ?_
              refine t_cond rfl (fun h22 => ?_) (fun h22 => ?_)
              ·
                have h22' := of_decide_eq_true h22
                refine t_skip ?_
                refine t_seq ?_
                refine t_block ?_
                refine t_draw (fun i => !(Nat.beq i 10)) (by kernel_rfl) ?_
                refine d_take 0 rfl rfl (by kernel_rfl) (by kernel_rfl) (by kernel_rfl) (p_move rfl) ?_
                refine d_take 1 rfl rfl (by kernel_rfl) (by kernel_rfl) (by kernel_rfl) (p_move rfl) ?_
                refine d_take 2 rfl rfl (by kernel_rfl) (by kernel_rfl) (by kernel_rfl) (p_move rfl) ?_
                obtain ⟨z23, hz24, b25⟩ := at_get (xs := placesL (rs) (z3.1) (z7)) (n := (p : Int)) (by omega) (by omega)
                refine d_take 3 rfl rfl (by kernel_rfl) (by kernel_rfl) (by kernel_rfl) (p_indexo (by kernel_rfl) rfl rfl rfl b25 (at_lt b25 hz24)) ?_
                refine d_take 4 rfl rfl (by kernel_rfl) (by kernel_rfl) (by kernel_rfl) (p_load1o (by kernel_rfl) rfl rfl rfl hz24) ?_
                refine d_take 5 rfl rfl (by kernel_rfl) (by kernel_rfl) (by kernel_rfl) (p_move rfl) ?_
                refine d_take 6 rfl rfl (by kernel_rfl) (by kernel_rfl) (by kernel_rfl) (p_move rfl) ?_
                obtain ⟨z26, hz27, b28⟩ := at_get (xs := placesL (rs) (z3.2.1) (z19)) (n := (b : Int)) (by omega) (by omega)
                refine d_take 7 rfl rfl (by kernel_rfl) (by kernel_rfl) (by kernel_rfl) (p_indexo (by kernel_rfl) rfl rfl rfl b28 (at_lt b28 hz27)) ?_
                refine d_take 8 rfl rfl (by kernel_rfl) (by kernel_rfl) (by kernel_rfl) (p_load1o (by kernel_rfl) rfl rfl rfl hz27) ?_
                refine d_take 9 rfl rfl (by kernel_rfl) (by kernel_rfl) (by kernel_rfl) (p_build (pl := [(0, 1), (1, 1), (2, 1)]) (zs := [.int .i64 (0), .int .i64 (0), .bool (false)]) (by kernel_rfl) (by kernel_rfl) rfl rfl rfl) ?_
                refine d_only 10 rfl (by kernel_rfl) rfl (o_callC 0 (l' := putE (addL ((placesL rs z3.1 z7).getD p 0) true (putAll (((((ds.take m).flatMap (edgesD rs) ++ ((selV true (setI (varsL z3.1)) (setI (varsL z3.2.1))).take n).flatMap (edgesV rs z3)) ++ ((placesL rs z3.1 z7).take p).flatMap (edgesF rs z3 z7)) ++ edgesN rs z3 z7 ((placesL rs z3.1 z7).getD p 0)) ++ ((selV false (setI (varsL z3.1)) (setI (varsL z3.2.1))).take q).flatMap (edgesX rs z3 ((placesL rs z3.1 z7).getD p 0)))) ((placesL rs z3.2.1 z19).take b)) ((z23), (z26), (true))) (Go.Proofs.enters_of Tryz.func99 (by kernel_rfl) rfl) (fun U => c_spec_l13Put U  (addL ((placesL rs z3.1 z7).getD p 0) true (putAll (((((ds.take m).flatMap (edgesD rs) ++ ((selV true (setI (varsL z3.1)) (setI (varsL z3.2.1))).take n).flatMap (edgesV rs z3)) ++ ((placesL rs z3.1 z7).take p).flatMap (edgesF rs z3 z7)) ++ edgesN rs z3 z7 ((placesL rs z3.1 z7).getD p 0)) ++ ((selV false (setI (varsL z3.1)) (setI (varsL z3.2.1))).take q).flatMap (edgesX rs z3 ((placesL rs z3.1 z7).getD p 0)))) ((placesL rs z3.2.1 z19).take b)) (z23) (z26) (true) (by omega)) rfl rfl (.cons rfl (.own rfl) (.agg rfl (.cons .t0 (.cons .t0 (.cons .t0 .nil))) .nil))) ?_
                refine d_take 11 rfl rfl (by kernel_rfl) (by kernel_rfl) (by kernel_rfl) (p_assign rfl) ?_
                refine d_end (by kernel_rfl) ?_
                refine t_endblock ?_
                refine t_region ?_
                refine r_op (o_move rfl rfl) ?_
                refine r_op (o_bin rfl rfl rfl rfl) ?_
                refine r_op (o_assign rfl rfl) ?_
                refine r_end ?_
                have gdf := Option.some.inj (hzf.symm.trans hz24)
                refine t_le ?_ (ih5 (b + 1) (by (try dsimp only); omega) (by (try dsimp only); omega))
                exact ⟨⟨rfl, ⟨rfl, ⟨rfl, ⟨rfl, ⟨rfl, ⟨rfl, ⟨rfl, ⟨rfl, ⟨rfl, ⟨rfl, ⟨rfl, ⟨rfl, ⟨rfl, ⟨(eqI (wr64 (by omega) (by omega))), trivial⟩⟩⟩⟩⟩⟩⟩⟩⟩⟩⟩⟩⟩⟩, ⟨(eqR (by rw [← gdf]; exact addL_snoc hz27)), ⟨rfl, ⟨rfl, ⟨rfl, ⟨rfl, ⟨rfl, trivial⟩⟩⟩⟩⟩⟩, rfl⟩
              ·
                have h22' := of_decide_eq_false h22
                refine t_exit rfl ?_
                refine t_endblock ?_
                refine t_region ?_
                refine r_op (o_move rfl rfl) ?_
                refine r_op (o_bin rfl rfl rfl rfl) ?_
                refine r_op (o_assign rfl rfl) ?_
                refine r_end ?_
                refine t_le ?_ (ih4 (q + 1) (by (try dsimp only); omega) (by (try dsimp only); omega))
                exact ⟨⟨rfl, ⟨rfl, ⟨rfl, ⟨rfl, ⟨rfl, ⟨rfl, ⟨rfl, ⟨rfl, ⟨rfl, ⟨rfl, ⟨rfl, ⟨(eqI (wr64 (by omega) (by omega))), trivial⟩⟩⟩⟩⟩⟩⟩⟩⟩⟩⟩⟩, ⟨(eqR (by rw [List.take_of_length_le (l := placesL rs z3.2.1 z19) (i := b) (by omega), addL_all, fm_step (l := selV false (setI (varsL z3.1)) (setI (varsL z3.2.1))) (m := q) hz20, ← List.append_assoc]; rfl)), ⟨rfl, ⟨rfl, ⟨rfl, ⟨rfl, trivial⟩⟩⟩⟩⟩, rfl⟩
            ·
              have h18' := of_decide_eq_false h18
              refine t_exit rfl ?_
              refine t_endblock ?_
              refine t_region ?_
              refine r_op (o_move rfl rfl) ?_
              refine r_op (o_bin rfl rfl rfl rfl) ?_
              refine r_op (o_assign rfl rfl) ?_
              refine r_end ?_
              refine t_le ?_ (ih2 (p + 1) (by (try dsimp only); omega) (by (try dsimp only); omega))
              exact ⟨⟨rfl, ⟨rfl, ⟨rfl, ⟨rfl, ⟨rfl, ⟨rfl, ⟨rfl, ⟨rfl, ⟨rfl, ⟨rfl, ⟨(eqI (wr64 (by omega) (by omega))), trivial⟩⟩⟩⟩⟩⟩⟩⟩⟩⟩⟩, ⟨(eqR (congrArg putAll (gs_2 (g := edgesF rs z3 z7) (h := edgesX rs z3 ((placesL rs z3.1 z7).getD p 0)) (r := selV false (setI (varsL z3.1)) (setI (varsL z3.2.1))) (N := edgesN rs z3 z7 ((placesL rs z3.1 z7).getD p 0)) hzf (by omega) rfl))), ⟨rfl, ⟨rfl, ⟨rfl, ⟨rfl, trivial⟩⟩⟩⟩⟩, rfl⟩
        ·
          have h10' := of_decide_eq_false h10
          refine t_exit rfl ?_
          refine t_endblock ?_
          refine t_region ?_
          refine r_op (o_move rfl rfl) ?_
          refine r_op (o_bin rfl rfl rfl rfl) ?_
          refine r_op (o_assign rfl rfl) ?_
          refine r_end ?_
          refine t_le ?_ (ih1 (n + 1) (by (try dsimp only); omega) (by (try dsimp only); omega))
          exact ⟨⟨rfl, ⟨rfl, ⟨rfl, ⟨rfl, ⟨rfl, ⟨rfl, ⟨rfl, ⟨(eqI (wr64 (by omega) (by omega))), trivial⟩⟩⟩⟩⟩⟩⟩⟩, ⟨(eqR (congrArg putAll (gs_1 (g := edgesV rs z3) (l := selV true (setI (varsL z3.1)) (setI (varsL z3.2.1))) (m := n) (h := edgesF rs z3 z7) (r := placesL rs z3.1 z7) hz8 (by omega) rfl))), ⟨rfl, ⟨rfl, trivial⟩⟩⟩, rfl⟩
      ·
        have h6' := of_decide_eq_false h6
        refine t_exit rfl ?_
        refine t_endblock ?_
        refine t_region ?_
        refine r_op (o_move rfl rfl) ?_
        refine r_op (o_bin rfl rfl rfl rfl) ?_
        refine r_op (o_assign rfl rfl) ?_
        refine r_end ?_
        refine t_le ?_ (ih0 (m + 1) (by (try dsimp only); omega) (by (try dsimp only); exact ⟨by omega, .inl (by assumption)⟩))
        exact ⟨⟨rfl, ⟨rfl, ⟨rfl, ⟨rfl, ⟨(eqI (wr64 (by omega) (by omega))), trivial⟩⟩⟩⟩⟩, ⟨(eqR (congrArg putAll (gs_0 (g := edgesD rs) (h := edgesV rs z3) (r := selV true (setI (varsL z3.1)) (setI (varsL z3.2.1))) hz4 (by omega) rfl))), trivial⟩, rfl⟩
    ·
      have h2' := h2
      refine t_exit rfl ?_
      refine t_seq ?_
      refine t_region ?_
      refine r_op (o_move rfl rfl) ?_
      refine r_op (o_assign rfl rfl) ?_
      refine r_end ?_
      refine t_ret Tryz.func44 (.tmp rfl .nil) rfl fun E S w u hI hd => ?_
      refine post_mk hI hd ?_ ⟨eqR ?_, trivial⟩ rfl rfl rfl <;> clear hI hd <;> (try clear ih0) <;> (try clear ih1) <;> (try clear ih2) <;> (try clear ih3) <;> (try clear ih4) <;> (try clear ih5)
      all_goals first | rfl | ((rcases i2 with e | e <;> first | (exfalso; simp_all; done) | (subst e; exact graph_no (by assumption))))
  ·
    have g1' := of_decide_eq_false g1
    refine r_guard rfl rfl rfl (ncf g1) (fun _ => ?_)
    refine r_guard rfl rfl rfl (ncf g1) (fun _ => ?_)
    refine r_op (o_pickF rfl rfl g1 rfl) ?_
    refine r_end ?_
    refine t_cond rfl (ncf rfl) (fun _ => ?_)
    refine t_exit rfl ?_
    refine t_seq ?_
    refine t_region ?_
    refine r_op (o_move rfl rfl) ?_
    refine r_op (o_assign rfl rfl) ?_
    refine r_end ?_
    refine t_ret Tryz.func44 (.tmp rfl .nil) rfl fun E S w u hI hd => ?_
    refine post_mk hI hd ?_ ⟨eqR ?_, trivial⟩ rfl rfl rfl <;> clear hI hd <;> (try clear ih0) <;> (try clear ih1) <;> (try clear ih2) <;> (try clear ih3) <;> (try clear ih4) <;> (try clear ih5)
    all_goals first | rfl | ((rcases i2 with e | e <;> first | exact graph_yes e (by omega) | (subst e; cases hg : depsOk rs ds <;> first | exact graph_no hg | exact graph_yes hg (by omega))))
set_option maxHeartbeats 1000000 in
set_option maxRecDepth 10000 in
theorem c_spec_PositionCount (rs : Rels) (hrs : rs.length ≤ 4611686018427387904) : Pu Tryz.prog 46 [.c (.t none (.sl 3 (enS3 encS encI encB) (rs)))] [] 0 (.c (.t none (.v (.int .i64 (cntP rs))))) := by
  refine pu_enter Tryz.func46 rfl (Nat.le_of_ble_eq_true rfl) fun w S => ?_
  refine t_seq ?_
  refine t_region ?_
  refine r_op (o_assign rfl rfl) ?_
  refine r_end ?_
  refine t_seq ?_
  refine t_region ?_
  refine r_op (o_assign rfl rfl) ?_
  refine r_end ?_
  refine t_seq ?_
  refine t_seq ?_
  refine t_region ?_
  refine r_op (o_assign rfl rfl) ?_
  refine r_end ?_
  refine t_block ?_
  refine t_loopL (fun m => ⟨[(0, some (.c (.t none (.sl 3 (enS3 encS encI encB) (rs))))), (2, some (.c (.t none (.v (.int .i64 (0)))))), (3, some (.c (.t none (.v (.int .i64 (sumA (rs.take m))))))), (4, some (.c (.t none (.v (.int .i64 ((m : Int)))))))], [], 0⟩ : Nat → St) (fun m => m ≤ rs.length ∧ (relsOk rs = true ∨ m = 0)) (fun m => rs.length - m) 0 ⟨⟨rfl, ⟨rfl, ⟨(eqI rfl), ⟨rfl, trivial⟩⟩⟩⟩, trivial, rfl⟩ (by exact ⟨Nat.zero_le _, .inr rfl⟩) ?_
  rintro m hI ih0
  try dsimp only at hI ih0
  obtain ⟨i1, i2⟩ := hI
  refine t_seq ?_
  refine t_seq ?_
  refine t_region ?_
  refine r_op (o_move rfl rfl) ?_
  refine r_op (o_move rfl rfl) ?_
  refine r_op (o_len rfl rfl rfl) ?_
  refine r_op (o_bin rfl rfl rfl rfl) ?_
  refine r_op (o_move rfl rfl) ?_
  refine r_guard rfl rfl rfl (fun g1 => ?_) (fun g1 => ?_)
  ·
    have g1' := of_decide_eq_true g1
    refine r_op (o_move rfl rfl) ?_
    refine r_guard rfl rfl rfl (fun _ => ?_) (nc g1)
    refine r_op (o_call 0 0 false (Go.Proofs.enters_of Tryz.func55 (by kernel_rfl) rfl) (c_spec_AreValidRelations (rs) (by omega)) rfl (.cons rfl (.c .t0) .nil) rfl rfl rfl) ?_
    refine r_op (o_pickT rfl rfl g1 rfl) ?_
    refine r_end ?_
    refine t_cond rfl (fun h2 => ?_) (fun h2 => ?_)
    ·
      have h2' := h2
      refine t_skip ?_
      refine t_seq ?_
      refine t_block ?_
      refine t_region ?_
      refine r_op (o_move rfl rfl) ?_
      refine r_op (o_move rfl rfl) ?_
      refine r_op (o_move rfl rfl) ?_
      obtain ⟨z3, hz4, b5⟩ := at_get (xs := rs) (n := (m : Int)) (by omega) (by omega)
      refine r_op (o_index rfl (by kernel_rfl) rfl rfl b5 hz4) ?_
      refine r_op (o_field rfl (off := 1) (by kernel_rfl) rfl) ?_
      refine r_op (o_load1 rfl (by kernel_rfl) rfl rfl) ?_
      refine r_op (o_bin rfl rfl rfl rfl) ?_
      refine r_op (o_assign rfl rfl) ?_
      refine r_end ?_
      refine t_endblock ?_
      refine t_region ?_
      refine r_op (o_move rfl rfl) ?_
      refine r_op (o_bin rfl rfl rfl rfl) ?_
      refine r_op (o_assign rfl rfl) ?_
      refine r_end ?_
      have ra2 := (rels_ok (l := rs) (by assumption)).2 _ (List.mem_of_getElem? hz4); have sb := sumA_bnd (l := rs) (by assumption) m
      refine t_le ?_ (ih0 (m + 1) (by (try dsimp only); omega) (by (try dsimp only); exact ⟨by omega, .inl (by assumption)⟩))
      exact ⟨⟨rfl, ⟨rfl, ⟨(eqI (by rw [sumA_step (m := m) hz4, wr64 (by omega) (by omega)])), ⟨(eqI (wr64 (by omega) (by omega))), trivial⟩⟩⟩⟩, trivial, rfl⟩
    ·
      have h2' := h2
      refine t_exit rfl ?_
      refine t_seq ?_
      refine t_region ?_
      refine r_op (o_move rfl rfl) ?_
      refine r_op (o_assign rfl rfl) ?_
      refine r_end ?_
      refine t_ret Tryz.func46 (.tmp rfl .nil) rfl fun E S w u hI hd => ?_
      refine post_mk hI hd ?_ trivial rfl rfl rfl <;> clear hI hd <;> (try clear ih0)
      all_goals (refine scI ?_; rcases i2 with e | e <;> first | exact cnt_zero e (.inr (by assumption)) | (exfalso; simp_all; done))
  ·
    have g1' := of_decide_eq_false g1
    refine r_guard rfl rfl rfl (ncf g1) (fun _ => ?_)
    refine r_op (o_pickF rfl rfl g1 rfl) ?_
    refine r_end ?_
    refine t_cond rfl (ncf rfl) (fun _ => ?_)
    refine t_exit rfl ?_
    refine t_seq ?_
    refine t_region ?_
    refine r_op (o_move rfl rfl) ?_
    refine r_op (o_assign rfl rfl) ?_
    refine r_end ?_
    refine t_ret Tryz.func46 (.tmp rfl .nil) rfl fun E S w u hI hd => ?_
    refine post_mk hI hd ?_ trivial rfl rfl rfl <;> clear hI hd <;> (try clear ih0)
    all_goals (refine scI ?_; rcases i2 with e | e <;> first | exact cnt_yes e (by omega) | exact cnt_zero e (.inl (by omega)))
set_option maxHeartbeats 1000000 in
set_option maxRecDepth 10000 in
theorem c_spec_IsReachable (n : Int) (es : List Edg) (a b : Int) (hes : es.length ≤ 4611686018427387904) : Pu Tryz.prog 45 [.c (.t none (.v (.int .i64 (n)))), .c (.t none (.sl 3 (enS3 encI encI encB) (es))), .c (.t none (.v (.int .i64 (a)))), .c (.t none (.v (.int .i64 (b))))] [] 0 (.c (.t none (.v (.bool (reachB n es a b))))) := by
  refine pu_enter Tryz.func45 rfl (Nat.le_of_ble_eq_true rfl) fun w S => ?_
  refine t_seq ?_
  refine t_region ?_
  refine r_op (o_assign rfl rfl) ?_
  refine r_end ?_
  refine t_seq ?_
  refine t_seq ?_
  refine t_region ?_
  refine r_op (o_move rfl rfl) ?_
  refine r_op (o_call 0 0 false (Go.Proofs.enters_of Tryz.func77 (by kernel_rfl) rfl) (c_spec_l1In (n) (0) (30)) rfl (.cons rfl (.c .t0) (.cons rfl (.c .t0) (.cons rfl (.c .t0) .nil))) rfl rfl rfl) ?_
  refine r_op (o_not rfl rfl) ?_
  refine r_op (o_move rfl rfl) ?_
  refine r_guard rfl rfl rfl (fun g1 => ?_) (fun g1 => ?_)
  ·
    have g1' := of_decide_eq_true (bnf g1)
    refine r_op (o_move rfl rfl) ?_
    refine r_guard rfl rfl rfl (fun _ => ?_) (ncf g1)
    refine r_op (o_move rfl rfl) ?_
    refine r_guard rfl rfl rfl (fun _ => ?_) (ncf g1)
    refine r_op (o_bin rfl rfl rfl rfl) ?_
    refine r_guard rfl rfl rfl (fun _ => ?_) (ncf g1)
    refine r_op (o_call 0 0 false (Go.Proofs.enters_of Tryz.func77 (by kernel_rfl) rfl) (c_spec_l1In (a) (0) (IntKind.i64.wrap (n - 1))) rfl (.cons rfl (.c .t0) (.cons rfl (.c .t0) (.cons rfl (.c .t0) .nil))) rfl rfl rfl) ?_
    refine r_guard rfl rfl rfl (fun _ => ?_) (ncf g1)
    refine r_op (o_not rfl rfl) ?_
    refine r_op (o_pickF rfl rfl g1 rfl) ?_
    refine r_op (o_move rfl rfl) ?_
    refine r_guard rfl rfl rfl (fun g2 => ?_) (fun g2 => ?_)
    ·
      have g2' := of_decide_eq_true (bnf g2)
      refine r_op (o_move rfl rfl) ?_
      refine r_guard rfl rfl rfl (fun _ => ?_) (ncf g2)
      refine r_op (o_move rfl rfl) ?_
      refine r_guard rfl rfl rfl (fun _ => ?_) (ncf g2)
      refine r_op (o_bin rfl rfl rfl rfl) ?_
      refine r_guard rfl rfl rfl (fun _ => ?_) (ncf g2)
      refine r_op (o_call 0 0 false (Go.Proofs.enters_of Tryz.func77 (by kernel_rfl) rfl) (c_spec_l1In (b) (0) (IntKind.i64.wrap (n - 1))) rfl (.cons rfl (.c .t0) (.cons rfl (.c .t0) (.cons rfl (.c .t0) .nil))) rfl rfl rfl) ?_
      refine r_guard rfl rfl rfl (fun _ => ?_) (ncf g2)
      refine r_op (o_not rfl rfl) ?_
      refine r_op (o_pickF rfl rfl g2 rfl) ?_
      refine r_end ?_
      refine t_cond rfl (fun h3 => ?_) (fun h3 => ?_)
      ·
        have h3' := of_decide_eq_false (bnt h3)
        refine t_seq ?_
        refine t_region ?_
        refine r_op (o_assign rfl rfl) ?_
        refine r_end ?_
        refine t_ret Tryz.func45 (.tmp rfl .nil) rfl fun E S w u hI hd => ?_
        refine post_mk hI hd ?_ trivial rfl rfl rfl <;> clear hI hd <;> (try clear ih0) <;> (try clear ih1)
        all_goals (refine scB ?_; (exact reach_no (by (simp only [IntKind.wrap_i64] at *; omega))))
      ·
        have h3' := of_decide_eq_true (bnf h3)
        refine t_skip ?_
        refine t_seq ?_
        refine t_region ?_
        refine r_op (o_move rfl rfl) ?_
        refine r_op (o_make 0 true (et := 4) (sz := 1) (by' := 1) encB (false) (zs := [.bool (false)]) rfl rfl (by kernel_rfl) (by kernel_rfl) rfl rfl (.cons (.v rfl) .nil) rfl rfl (by omega) (by omega) (by omega)) ?_
        refine r_op (o_assign rfl rfl) ?_
        refine r_end ?_
        refine t_seq ?_
        refine t_region ?_
        refine r_op (o_move rfl rfl) ?_
        refine r_op (o_move rfl rfl) ?_
        obtain ⟨z4, hz5, b6⟩ := at_get (xs := List.replicate (n).toNat (false)) (n := a) (by omega) (by (simp only [List.length_replicate, List.length_set, IntKind.wrap_i64] at *; omega))
        refine r_op (o_indexo rfl (by kernel_rfl) rfl rfl rfl b6 (at_lt b6 hz5)) ?_
        refine r_op (o_storeo (true) (n := 1) (by kernel_rfl) rfl rfl hz5 rfl rfl rfl rfl (.cons .sc .nil) rfl (fun j h1 h2 => by simp at h1 h2; omega)) ?_
        refine r_end ?_
        refine t_seq ?_
        refine t_seq ?_
        refine t_region ?_
        refine r_op (o_assign rfl rfl) ?_
        refine r_end ?_
        refine t_block ?_
        refine t_loopL (fun m => ⟨[(0, some (.c (.t none (.v (.int .i64 (n)))))), (1, some (.c (.t none (.sl 3 (enS3 encI encI encB) (es))))), (3, some (.c (.t none (.v (.int .i64 (b)))))), (8, some (.c (.t none (.v (.bool (false)))))), (9, some (.c (.own 0))), (10, some (.c (.t none (.v (.int .i64 ((m : Int)))))))], [(0, some (.row none 4 true 1 encB (rnd n es ((List.replicate (n).toNat (false)).set (a).toNat (true)) m)))], 1⟩ : Nat → St) (fun m => m ≤ n.toNat) (fun m => n.toNat - m) 0 ⟨⟨rfl, ⟨rfl, ⟨rfl, ⟨rfl, ⟨rfl, ⟨rfl, trivial⟩⟩⟩⟩⟩⟩, ⟨(eqR rfl), trivial⟩, rfl⟩ (by exact Nat.zero_le _) ?_
        rintro m hI ih0
        try dsimp only at hI ih0
        have i1 := hI; have gd : (0 ≤ n ∧ n ≤ 30) ∧ (0 ≤ a ∧ a ≤ n - 1) ∧ (0 ≤ b ∧ b ≤ n - 1) := (by (simp only [IntKind.wrap_i64] at *; omega)); have wn : IntKind.i64.wrap (n - 1) = n - 1 := wr64 (by omega) (by omega); have ql : (rnd n es ((List.replicate (n).toNat (false)).set (a).toNat (true)) m).length = n.toNat := (by rw [rnd_len]; simp)
        refine t_seq ?_
        refine t_seq ?_
        refine t_region ?_
        refine r_op (o_move rfl rfl) ?_
        refine r_op (o_move rfl rfl) ?_
        refine r_op (o_bin rfl rfl rfl rfl) ?_
        refine r_end ?_
        refine t_cond rfl (fun h7 => ?_) (fun h7 => ?_)
        ·
          have h7' := of_decide_eq_true h7
          refine t_skip ?_
          refine t_seq ?_
          refine t_block ?_
          refine t_seq ?_
          refine t_region ?_
          refine r_op (o_assign rfl rfl) ?_
          refine r_end ?_
          refine t_block ?_
          refine t_loopL (fun j => ⟨[(0, some (.c (.t none (.v (.int .i64 (n)))))), (1, some (.c (.t none (.sl 3 (enS3 encI encI encB) (es))))), (3, some (.c (.t none (.v (.int .i64 (b)))))), (8, some (.c (.t none (.v (.bool (false)))))), (9, some (.c (.own 0))), (10, some (.c (.t none (.v (.int .i64 ((m : Int))))))), (11, some (.c (.t none (.v (.int .i64 ((j : Int)))))))], [(0, some (.row none 4 true 1 encB ((es.take j).foldl (stepE n) (rnd n es ((List.replicate (n).toNat (false)).set (a).toNat (true)) m))))], 1⟩ : Nat → St) (fun j => j ≤ es.length) (fun j => es.length - j) 0 ⟨⟨rfl, ⟨rfl, ⟨rfl, ⟨rfl, ⟨rfl, ⟨rfl, ⟨rfl, trivial⟩⟩⟩⟩⟩⟩⟩, ⟨(eqR (by rw [List.take_zero]; rfl)), trivial⟩, rfl⟩ (by exact Nat.zero_le _) ?_
          rintro j hI ih1
          try dsimp only at hI ih1
          have j1 := hI; have rl : ((es.take j).foldl (stepE n) (rnd n es ((List.replicate (n).toNat (false)).set (a).toNat (true)) m)).length = n.toNat := (by rw [foldE_len, ql])
          refine t_seq ?_
          refine t_seq ?_
          refine t_region ?_
          refine r_op (o_move rfl rfl) ?_
          refine r_op (o_move rfl rfl) ?_
          refine r_op (o_len rfl rfl rfl) ?_
          refine r_op (o_bin rfl rfl rfl rfl) ?_
          refine r_end ?_
          refine t_cond rfl (fun h8 => ?_) (fun h8 => ?_)
          ·
            have h8' := of_decide_eq_true h8
            refine t_skip ?_
            refine t_seq ?_
            refine t_block ?_
            refine t_seq ?_
            refine t_region ?_
            refine r_op (o_move rfl rfl) ?_
            refine r_op (o_move rfl rfl) ?_
            obtain ⟨z9, hz10, b11⟩ := at_get (xs := es) (n := (j : Int)) (by omega) (by omega)
            refine r_op (o_index rfl (by kernel_rfl) rfl rfl b11 hz10) ?_
            refine r_op (o_field rfl (off := 0) (by kernel_rfl) rfl) ?_
            refine r_op (o_load1 rfl (by kernel_rfl) rfl rfl) ?_
            refine r_op (o_move rfl rfl) ?_
            refine r_op (o_bin rfl rfl rfl rfl) ?_
            refine r_op (o_call 1 1 false (Go.Proofs.enters_of Tryz.func77 (by kernel_rfl) rfl) (c_spec_l1In (z9.1) (0) (IntKind.i64.wrap (n - 1))) rfl (.cons rfl (.c .t0) (.cons rfl (.c .t0) (.cons rfl (.c .t0) .nil))) rfl rfl rfl) ?_
            refine r_op (o_move rfl rfl) ?_
            refine r_guard rfl rfl rfl (fun g12 => ?_) (fun g12 => ?_)
            ·
              have g12' := of_decide_eq_true g12
              refine r_op (o_move rfl rfl) ?_
              refine r_guard rfl rfl rfl (fun _ => ?_) (nc g12)
              refine r_op (o_move rfl rfl) ?_
              refine r_guard rfl rfl rfl (fun _ => ?_) (nc g12)
              refine r_op (o_index rfl (by kernel_rfl) rfl rfl b11 hz10) ?_
              refine r_guard rfl rfl rfl (fun _ => ?_) (nc g12)
              refine r_op (o_field rfl (off := 1) (by kernel_rfl) rfl) ?_
              refine r_guard rfl rfl rfl (fun _ => ?_) (nc g12)
              refine r_op (o_load1 rfl (by kernel_rfl) rfl rfl) ?_
              refine r_guard rfl rfl rfl (fun _ => ?_) (nc g12)
              refine r_op (o_move rfl rfl) ?_
              refine r_guard rfl rfl rfl (fun _ => ?_) (nc g12)
              refine r_op (o_bin rfl rfl rfl rfl) ?_
              refine r_guard rfl rfl rfl (fun _ => ?_) (nc g12)
              refine r_op (o_call 1 1 false (Go.Proofs.enters_of Tryz.func77 (by kernel_rfl) rfl) (c_spec_l1In (z9.2.1) (0) (IntKind.i64.wrap (n - 1))) rfl (.cons rfl (.c .t0) (.cons rfl (.c .t0) (.cons rfl (.c .t0) .nil))) rfl rfl rfl) ?_
              refine r_op (o_pickT rfl rfl g12 rfl) ?_
              refine r_op (o_move rfl rfl) ?_
              refine r_guard rfl rfl rfl (fun g13 => ?_) (fun g13 => ?_)
              ·
                have g13' := of_decide_eq_true g13
                refine r_op (o_move rfl rfl) ?_
                refine r_guard rfl rfl rfl (fun _ => ?_) (nc g13)
                refine r_op (o_move rfl rfl) ?_
                refine r_guard rfl rfl rfl (fun _ => ?_) (nc g13)
                refine r_op (o_move rfl rfl) ?_
                refine r_guard rfl rfl rfl (fun _ => ?_) (nc g13)
                refine r_op (o_index rfl (by kernel_rfl) rfl rfl b11 hz10) ?_
                refine r_guard rfl rfl rfl (fun _ => ?_) (nc g13)
                refine r_op (o_field rfl (off := 0) (by kernel_rfl) rfl) ?_
                refine r_guard rfl rfl rfl (fun _ => ?_) (nc g13)
                refine r_op (o_load1 rfl (by kernel_rfl) rfl rfl) ?_
                refine r_guard rfl rfl rfl (fun _ => ?_) (nc g13)
                obtain ⟨z14, hz15, b16⟩ := at_get (xs := (es.take j).foldl (stepE n) (rnd n es ((List.replicate (n).toNat (false)).set (a).toNat (true)) m)) (n := z9.1) (by omega) (by omega)
                refine r_op (o_indexo rfl (by kernel_rfl) rfl rfl rfl b16 (at_lt b16 hz15)) ?_
                refine r_guard rfl rfl rfl (fun _ => ?_) (nc g13)
                refine r_op (o_load1o rfl (by kernel_rfl) rfl rfl rfl hz15) ?_
                refine r_op (o_pickT rfl rfl g13 rfl) ?_
                refine r_end ?_
                refine t_cond rfl (fun h17 => ?_) (fun h17 => ?_)
                ·
                  have h17' := h17
                  refine t_region ?_
                  refine r_op (o_move rfl rfl) ?_
                  refine r_op (o_move rfl rfl) ?_
                  refine r_op (o_move rfl rfl) ?_
                  refine r_op (o_index rfl (by kernel_rfl) rfl rfl b11 hz10) ?_
                  refine r_op (o_field rfl (off := 1) (by kernel_rfl) rfl) ?_
                  refine r_op (o_load1 rfl (by kernel_rfl) rfl rfl) ?_
                  obtain ⟨z18, hz19, b20⟩ := at_get (xs := (es.take j).foldl (stepE n) (rnd n es ((List.replicate (n).toNat (false)).set (a).toNat (true)) m)) (n := z9.2.1) (by omega) (by omega)
                  refine r_op (o_indexo rfl (by kernel_rfl) rfl rfl rfl b20 (at_lt b20 hz19)) ?_
                  refine r_op (o_storeo (true) (n := 1) (by kernel_rfl) rfl rfl hz19 rfl rfl rfl rfl (.cons .sc .nil) rfl (fun j h1 h2 => by simp at h1 h2; omega)) ?_
                  refine r_end ?_
                  refine t_endblock ?_
                  refine t_region ?_
                  refine r_op (o_move rfl rfl) ?_
                  refine r_op (o_bin rfl rfl rfl rfl) ?_
                  refine r_op (o_assign rfl rfl) ?_
                  refine r_end ?_
                  refine t_le ?_ (ih1 (j + 1) (by (try dsimp only); omega) (by (try dsimp only); omega))
                  exact ⟨⟨rfl, ⟨rfl, ⟨rfl, ⟨rfl, ⟨rfl, ⟨rfl, ⟨(eqI (wr64 (by omega) (by omega))), trivial⟩⟩⟩⟩⟩⟩⟩, ⟨(eqR (by exact stp_hit hz10 (by omega) (by omega) hz15 (by assumption))), trivial⟩, rfl⟩
                ·
                  have h17' := h17
                  refine t_skip ?_
                  refine t_endblock ?_
                  refine t_region ?_
                  refine r_op (o_move rfl rfl) ?_
                  refine r_op (o_bin rfl rfl rfl rfl) ?_
                  refine r_op (o_assign rfl rfl) ?_
                  refine r_end ?_
                  refine t_le ?_ (ih1 (j + 1) (by (try dsimp only); omega) (by (try dsimp only); omega))
                  exact ⟨⟨rfl, ⟨rfl, ⟨rfl, ⟨rfl, ⟨rfl, ⟨rfl, ⟨(eqI (wr64 (by omega) (by omega))), trivial⟩⟩⟩⟩⟩⟩⟩, ⟨(eqR (by exact stp_no3 hz10 hz15 (by assumption))), trivial⟩, rfl⟩
              ·
                have g13' := of_decide_eq_false g13
                refine r_guard rfl rfl rfl (ncf g13) (fun _ => ?_)
                refine r_guard rfl rfl rfl (ncf g13) (fun _ => ?_)
                refine r_guard rfl rfl rfl (ncf g13) (fun _ => ?_)
                refine r_guard rfl rfl rfl (ncf g13) (fun _ => ?_)
                refine r_guard rfl rfl rfl (ncf g13) (fun _ => ?_)
                refine r_guard rfl rfl rfl (ncf g13) (fun _ => ?_)
                refine r_guard rfl rfl rfl (ncf g13) (fun _ => ?_)
                refine r_op (o_pickF rfl rfl g13 rfl) ?_
                refine r_end ?_
                refine t_cond rfl (ncf rfl) (fun _ => ?_)
                refine t_skip ?_
                refine t_endblock ?_
                refine t_region ?_
                refine r_op (o_move rfl rfl) ?_
                refine r_op (o_bin rfl rfl rfl rfl) ?_
                refine r_op (o_assign rfl rfl) ?_
                refine r_end ?_
                refine t_le ?_ (ih1 (j + 1) (by (try dsimp only); omega) (by (try dsimp only); omega))
                exact ⟨⟨rfl, ⟨rfl, ⟨rfl, ⟨rfl, ⟨rfl, ⟨rfl, ⟨(eqI (wr64 (by omega) (by omega))), trivial⟩⟩⟩⟩⟩⟩⟩, ⟨(eqR (by exact stp_no2 hz10 (by omega))), trivial⟩, rfl⟩
            ·
              have g12' := of_decide_eq_false g12
              refine r_guard rfl rfl rfl (ncf g12) (fun _ => ?_)
              refine r_guard rfl rfl rfl (ncf g12) (fun _ => ?_)
              refine r_guard rfl rfl rfl (ncf g12) (fun _ => ?_)
              refine r_guard rfl rfl rfl (ncf g12) (fun _ => ?_)
              refine r_guard rfl rfl rfl (ncf g12) (fun _ => ?_)
              refine r_guard rfl rfl rfl (ncf g12) (fun _ => ?_)
              refine r_guard rfl rfl rfl (ncf g12) (fun _ => ?_)
              refine r_op (o_pickF rfl rfl g12 rfl) ?_
              refine r_op (o_move rfl rfl) ?_
              refine r_guard rfl rfl rfl (ncf rfl) (fun _ => ?_)
              refine r_guard rfl rfl rfl (ncf rfl) (fun _ => ?_)
              refine r_guard rfl rfl rfl (ncf rfl) (fun _ => ?_)
              refine r_guard rfl rfl rfl (ncf rfl) (fun _ => ?_)
              refine r_guard rfl rfl rfl (ncf rfl) (fun _ => ?_)
              refine r_guard rfl rfl rfl (ncf rfl) (fun _ => ?_)
              refine r_guard rfl rfl rfl (ncf rfl) (fun _ => ?_)
              refine r_guard rfl rfl rfl (ncf rfl) (fun _ => ?_)
              refine r_op (o_pickF rfl rfl rfl rfl) ?_
              refine r_end ?_
              refine t_cond rfl (ncf rfl) (fun _ => ?_)
              refine t_skip ?_
              refine t_endblock ?_
              refine t_region ?_
              refine r_op (o_move rfl rfl) ?_
              refine r_op (o_bin rfl rfl rfl rfl) ?_
              refine r_op (o_assign rfl rfl) ?_
              refine r_end ?_
              refine t_le ?_ (ih1 (j + 1) (by (try dsimp only); omega) (by (try dsimp only); omega))
              exact ⟨⟨rfl, ⟨rfl, ⟨rfl, ⟨rfl, ⟨rfl, ⟨rfl, ⟨(eqI (wr64 (by omega) (by omega))), trivial⟩⟩⟩⟩⟩⟩⟩, ⟨(eqR (by exact stp_no1 hz10 (by omega))), trivial⟩, rfl⟩
          ·
            have h8' := of_decide_eq_false h8
            refine t_exit rfl ?_
            refine t_endblock ?_
            refine t_region ?_
            refine r_op (o_move rfl rfl) ?_
            refine r_op (o_bin rfl rfl rfl rfl) ?_
            refine r_op (o_assign rfl rfl) ?_
            refine r_end ?_
            refine t_le ?_ (ih0 (m + 1) (by (try dsimp only); omega) (by (try dsimp only); omega))
            exact ⟨⟨rfl, ⟨rfl, ⟨rfl, ⟨rfl, ⟨rfl, ⟨(eqI (wr64 (by omega) (by omega))), trivial⟩⟩⟩⟩⟩⟩, ⟨(eqR (by rw [List.take_of_length_le (l := es) (i := j) (by omega)]; rfl)), trivial⟩, rfl⟩
        ·
          have h7' := of_decide_eq_false h7
          refine t_exit rfl ?_
          refine t_seq ?_
          refine t_region ?_
          refine r_op (o_move rfl rfl) ?_
          refine r_op (o_move rfl rfl) ?_
          obtain ⟨z21, hz22, b23⟩ := at_get (xs := rnd n es ((List.replicate (n).toNat (false)).set (a).toNat (true)) m) (n := b) (by omega) (by omega)
          refine r_op (o_indexo rfl (by kernel_rfl) rfl rfl rfl b23 (at_lt b23 hz22)) ?_
          refine r_op (o_load1o rfl (by kernel_rfl) rfl rfl rfl hz22) ?_
          refine r_op (o_assign rfl rfl) ?_
          refine r_end ?_
          refine t_ret Tryz.func45 (.tmp rfl .nil) rfl fun E S w u hI hd => ?_
          refine post_mk hI hd ?_ trivial rfl rfl rfl <;> clear hI hd <;> (try clear ih0) <;> (try clear ih1)
          all_goals (refine scB ?_; (exact reach_yes gd.1 gd.2.1 gd.2.2 (by omega) hz22))
    ·
      have g2' := of_decide_eq_false (bnt g2)
      refine r_guard rfl rfl rfl (nc g2) (fun _ => ?_)
      refine r_guard rfl rfl rfl (nc g2) (fun _ => ?_)
      refine r_guard rfl rfl rfl (nc g2) (fun _ => ?_)
      refine r_guard rfl rfl rfl (nc g2) (fun _ => ?_)
      refine r_op (o_pickT rfl rfl g2 rfl) ?_
      refine r_end ?_
      refine t_cond rfl (fun _ => ?_) (nc rfl)
      refine t_seq ?_
      refine t_region ?_
      refine r_op (o_assign rfl rfl) ?_
      refine r_end ?_
      refine t_ret Tryz.func45 (.tmp rfl .nil) rfl fun E S w u hI hd => ?_
      refine post_mk hI hd ?_ trivial rfl rfl rfl <;> clear hI hd <;> (try clear ih0) <;> (try clear ih1)
      all_goals (refine scB ?_; (exact reach_no (by (simp only [IntKind.wrap_i64] at *; omega))))
  ·
    have g1' := of_decide_eq_false (bnt g1)
    refine r_guard rfl rfl rfl (nc g1) (fun _ => ?_)
    refine r_guard rfl rfl rfl (nc g1) (fun _ => ?_)
    refine r_guard rfl rfl rfl (nc g1) (fun _ => ?_)
    refine r_guard rfl rfl rfl (nc g1) (fun _ => ?_)
    refine r_op (o_pickT rfl rfl g1 rfl) ?_
    refine r_op (o_move rfl rfl) ?_
    refine r_guard rfl rfl rfl (nc rfl) (fun _ => ?_)
    refine r_guard rfl rfl rfl (nc rfl) (fun _ => ?_)
    refine r_guard rfl rfl rfl (nc rfl) (fun _ => ?_)
    refine r_guard rfl rfl rfl (nc rfl) (fun _ => ?_)
    refine r_guard rfl rfl rfl (nc rfl) (fun _ => ?_)
    refine r_op (o_pickT rfl rfl rfl rfl) ?_
    refine r_end ?_
    refine t_cond rfl (fun _ => ?_) (nc rfl)
    refine t_seq ?_
    refine t_region ?_
    refine r_op (o_assign rfl rfl) ?_
    refine r_end ?_
    refine t_ret Tryz.func45 (.tmp rfl .nil) rfl fun E S w u hI hd => ?_
    refine post_mk hI hd ?_ trivial rfl rfl rfl <;> clear hI hd <;> (try clear ih0) <;> (try clear ih1)
    all_goals (refine scB ?_; (exact reach_no (by (simp only [IntKind.wrap_i64] at *; omega))))
set_option maxHeartbeats 1000000 in
set_option maxRecDepth 10000 in
theorem c_spec_SpecialCycleEdge (rs : Rels) (ds : List Dep) (hrs : rs.length ≤ 4611686018427387904) (hds : szS (fun (x : (List (Int × (List (Int)))) × (List (Int × (List (Int)))) × Bool × Int × Int) => (szS (fun (x : Int × (List (Int))) => (x.2).length) (x.1)) + (szS (fun (x : Int × (List (Int))) => (x.2).length) (x.2.1))) ds ≤ 1048576) : Pu Tryz.prog 10 [.c (.t none (.sl 3 (enS3 encS encI encB) (rs))), .c (.t none (.sl 5 (enS5 (enSl 2 (enS2 encI (enSl 1 encI))) (enSl 2 (enS2 encI (enSl 1 encI))) encB encI encI) (ds)))] [] 0 (.tup [(true, [.t none (.v (.int .i64 ((spcE rs ds).1))), .t none (.v (.int .i64 ((spcE rs ds).2.1))), .t none (.v (.bool ((spcE rs ds).2.2)))]), (false, [.t none (.v (.bool (spcF rs ds)))])]) := by
  refine pu_enter Tryz.func10 rfl (Nat.le_of_ble_eq_true rfl) fun w S => ?_
  have gl := sz_len (f := (fun (x : (List (Int × (List (Int)))) × (List (Int × (List (Int)))) × Bool × Int × Int) => (szS (fun (x : Int × (List (Int))) => (x.2).length) (x.1)) + (szS (fun (x : Int × (List (Int))) => (x.2).length) (x.2.1)))) (l := ds); have gg := graph_len (rs := rs) (ds := ds)
  refine t_seq ?_
  refine t_region ?_
  refine r_op (o_alloc 0 (zs := [.int .i64 (0), .int .i64 (0), .bool (false)]) rfl rfl (by kernel_rfl) rfl) ?_
  refine r_op (o_assign rfl rfl) ?_
  refine r_end ?_
  refine t_seq ?_
  refine t_region ?_
  refine r_op (o_move rfl rfl) ?_
  refine r_op (o_move rfl rfl) ?_
  refine r_op (o_call 1 2 false (Go.Proofs.enters_of Tryz.func44 (by kernel_rfl) rfl) (c_spec_PositionGraph (rs) (ds) (by omega) (by omega)) rfl (.cons rfl (.c .t0) (.cons rfl (.c .t0) .nil)) rfl rfl rfl) ?_
  refine r_op (o_assign rfl rfl) ?_
  refine r_end ?_
  refine t_seq ?_
  refine t_seq ?_
  refine t_region ?_
  refine r_op (o_assign rfl rfl) ?_
  refine r_end ?_
  refine t_block ?_
  refine t_loopL (fun m => ⟨[(0, some (.c (.t none (.sl 3 (enS3 encS encI encB) (rs))))), (4, some (.c (.ptr 0 0))), (6, some (.c (.own 1))), (7, some (.c (.t none (.v (.int .i64 ((m : Int)))))))], [(0, some (.box [.t none (.v (.int .i64 (0))), .t none (.v (.int .i64 (0))), .t none (.v (.bool (false)))])), (1, some (.row none 30 true 3 (enS3 encI encI encB) (graphL (rs) (ds))))], 2⟩ : Nat → St) (fun m => m ≤ (graphL rs ds).length ∧ ∀ j z, j < m → (graphL rs ds)[j]? = some z → spcP rs (graphL rs ds) z = false) (fun m => (graphL rs ds).length - m) 0 ⟨⟨rfl, ⟨rfl, ⟨rfl, ⟨rfl, trivial⟩⟩⟩⟩, ⟨rfl, ⟨rfl, trivial⟩⟩, rfl⟩ (by exact ⟨Nat.zero_le _, fun j z h => by omega⟩) ?_
  rintro m hI ih0
  try dsimp only at hI ih0
  obtain ⟨i1, i2⟩ := hI
  refine t_seq ?_
  refine t_seq ?_
  refine t_region ?_
  refine r_op (o_move rfl rfl) ?_
  refine r_op (o_move rfl rfl) ?_
  refine r_op (o_leno rfl rfl rfl rfl) ?_
  refine r_op (o_bin rfl rfl rfl rfl) ?_
  refine r_end ?_
  refine t_cond rfl (fun h1 => ?_) (fun h1 => ?_)
  ·
    have h1' := of_decide_eq_true h1
    refine t_skip ?_
    refine t_seq ?_
    refine t_block ?_
    refine t_seq ?_
    refine t_draw (fun _ => true) (by kernel_rfl) ?_
    refine d_take 0 rfl rfl (by kernel_rfl) (by kernel_rfl) (by kernel_rfl) (p_move rfl) ?_
    refine d_take 1 rfl rfl (by kernel_rfl) (by kernel_rfl) (by kernel_rfl) (p_move rfl) ?_
    obtain ⟨z2, hz3, b4⟩ := at_get (xs := graphL (rs) (ds)) (n := (m : Int)) (by omega) (by omega)
    refine d_take 2 rfl rfl (by kernel_rfl) (by kernel_rfl) (by kernel_rfl) (p_indexo (by kernel_rfl) rfl rfl rfl b4 (at_lt b4 hz3)) ?_
    refine d_take 3 rfl rfl (by kernel_rfl) (by kernel_rfl) (by kernel_rfl) (p_fieldo (off := 2) (by kernel_rfl) rfl) ?_
    refine d_take 4 rfl rfl (by kernel_rfl) (by kernel_rfl) (by kernel_rfl) (p_load1o (by kernel_rfl) rfl rfl rfl hz3) ?_
    refine d_take 5 rfl rfl (by kernel_rfl) (by kernel_rfl) (by kernel_rfl) (p_move rfl) ?_
    refine d_guard 6 rfl rfl (by kernel_rfl) (by kernel_rfl) (by kernel_rfl) rfl rfl (fun _ => p_move rfl) (fun g5 => ?_) (fun g5 => ?_)
    ·
      have g5' := g5
      refine d_guard 8 rfl rfl (by kernel_rfl) (by kernel_rfl) (by kernel_rfl) rfl rfl (fun _ => p_move rfl) (fun _ => ?_) (nc g5)
      refine d_guard 9 rfl rfl (by kernel_rfl) (by kernel_rfl) (by kernel_rfl) rfl rfl (fun _ => p_move rfl) (fun _ => ?_) (nc g5)
      refine d_guard 10 rfl rfl (by kernel_rfl) (by kernel_rfl) (by kernel_rfl) rfl rfl (fun _ => p_move rfl) (fun _ => ?_) (nc g5)
      refine d_guard 11 rfl rfl (by kernel_rfl) (by kernel_rfl) (by kernel_rfl) rfl rfl (fun _ => p_indexo (by kernel_rfl) rfl rfl rfl b4 (at_lt b4 hz3)) (fun _ => ?_) (nc g5)
      refine d_guard 12 rfl rfl (by kernel_rfl) (by kernel_rfl) (by kernel_rfl) rfl rfl (fun _ => p_fieldo (off := 1) (by kernel_rfl) rfl) (fun _ => ?_) (nc g5)
      refine d_guard 13 rfl rfl (by kernel_rfl) (by kernel_rfl) (by kernel_rfl) rfl rfl (fun _ => p_load1o (by kernel_rfl) rfl rfl rfl hz3) (fun _ => ?_) (nc g5)
      refine d_guard 14 rfl rfl (by kernel_rfl) (by kernel_rfl) (by kernel_rfl) rfl rfl (fun _ => p_move rfl) (fun _ => ?_) (nc g5)
      refine d_guard 15 rfl rfl (by kernel_rfl) (by kernel_rfl) (by kernel_rfl) rfl rfl (fun _ => p_move rfl) (fun _ => ?_) (nc g5)
      refine d_guard 16 rfl rfl (by kernel_rfl) (by kernel_rfl) (by kernel_rfl) rfl rfl (fun _ => p_indexo (by kernel_rfl) rfl rfl rfl b4 (at_lt b4 hz3)) (fun _ => ?_) (nc g5)
      refine d_guard 17 rfl rfl (by kernel_rfl) (by kernel_rfl) (by kernel_rfl) rfl rfl (fun _ => p_fieldo (off := 0) (by kernel_rfl) rfl) (fun _ => ?_) (nc g5)
      refine d_guard 18 rfl rfl (by kernel_rfl) (by kernel_rfl) (by kernel_rfl) rfl rfl (fun _ => p_load1o (by kernel_rfl) rfl rfl rfl hz3) (fun _ => ?_) (nc g5)
      refine d_onlyG 7 rfl rfl (by kernel_rfl) rfl rfl rfl (fun _ => (o_call 2 2 false (Go.Proofs.enters_of Tryz.func46 (by kernel_rfl) rfl) (c_spec_PositionCount (rs) (by omega)) rfl (.cons rfl (.c .t0) .nil) rfl rfl rfl)) (fun _ => ?_) (nc g5)
      refine d_onlyG 19 rfl rfl (by kernel_rfl) rfl rfl rfl (fun _ => (o_call 2 2 false (Go.Proofs.enters_of Tryz.func45 (by kernel_rfl) rfl) (c_spec_IsReachable (cntP (rs)) (graphL (rs) (ds)) (z2.2.1) (z2.1) (by omega)) rfl (.cons rfl (.c .t0) (.cons rfl (.c (.own rfl)) (.cons rfl (.c .t0) (.cons rfl (.c .t0) .nil)))) rfl rfl rfl)) (fun _ => ?_) (nc g5)
      refine d_take 20 rfl rfl (by kernel_rfl) (by kernel_rfl) (by kernel_rfl) (p_pickT rfl g5 rfl) ?_
      refine d_end (by kernel_rfl) ?_
      refine t_cond rfl (fun h6 => ?_) (fun h6 => ?_)
      ·
        have h6' := h6
        refine t_seq ?_
        refine t_region ?_
        refine r_op (o_move rfl rfl) ?_
        refine r_op (o_move rfl rfl) ?_
        refine r_op (o_indexo rfl (by kernel_rfl) rfl rfl rfl b4 (at_lt b4 hz3)) ?_
        refine r_op (o_loadAo rfl (by kernel_rfl) (by kernel_rfl) rfl rfl hz3) ?_
        refine r_op (o_storeb (n := 3) (by kernel_rfl) rfl rfl rfl rfl rfl rfl) ?_
        refine r_op (o_assign rfl rfl) ?_
        refine r_end ?_
        refine t_ret Tryz.func10 (.cells (n := 3) (by kernel_rfl) (by kernel_rfl) rfl rfl rfl (.tmp rfl .nil)) rfl fun E S w u hI hd => ?_
        refine post_mk hI hd ?_ trivial rfl rfl rfl <;> clear hI hd <;> (try clear ih0)
        all_goals ((have v := spc_hit i2 hz3 (spc_y (by assumption) (by assumption)); exact tupE v.1 v.2))
      ·
        have h6' := h6
        refine t_skip ?_
        refine t_endblock ?_
        refine t_region ?_
        refine r_op (o_move rfl rfl) ?_
        refine r_op (o_bin rfl rfl rfl rfl) ?_
        refine r_op (o_assign rfl rfl) ?_
        refine r_end ?_
        refine t_le ?_ (ih0 (m + 1) (by (try dsimp only); omega) (by (try dsimp only); exact ⟨by omega, no_step i2 hz3 rfl (by exact spc_n2 (by assumption))⟩))
        exact ⟨⟨rfl, ⟨rfl, ⟨rfl, ⟨(eqI (wr64 (by omega) (by omega))), trivial⟩⟩⟩⟩, ⟨rfl, ⟨rfl, trivial⟩⟩, rfl⟩
    ·
      have g5' := g5
      refine d_guard 7 rfl rfl (by kernel_rfl) (by kernel_rfl) (by kernel_rfl) rfl rfl (v := .c .top) (ncf g5) (ncf g5) (fun _ => ?_)
      refine d_guard 8 rfl rfl (by kernel_rfl) (by kernel_rfl) (by kernel_rfl) rfl rfl (v := .c .top) (ncf g5) (ncf g5) (fun _ => ?_)
      refine d_guard 9 rfl rfl (by kernel_rfl) (by kernel_rfl) (by kernel_rfl) rfl rfl (v := .c .top) (ncf g5) (ncf g5) (fun _ => ?_)
      refine d_guard 10 rfl rfl (by kernel_rfl) (by kernel_rfl) (by kernel_rfl) rfl rfl (v := .c .top) (ncf g5) (ncf g5) (fun _ => ?_)
      refine d_guard 11 rfl rfl (by kernel_rfl) (by kernel_rfl) (by kernel_rfl) rfl rfl (v := .c .top) (ncf g5) (ncf g5) (fun _ => ?_)
      refine d_guard 12 rfl rfl (by kernel_rfl) (by kernel_rfl) (by kernel_rfl) rfl rfl (v := .c .top) (ncf g5) (ncf g5) (fun _ => ?_)
      refine d_guard 13 rfl rfl (by kernel_rfl) (by kernel_rfl) (by kernel_rfl) rfl rfl (v := .c .top) (ncf g5) (ncf g5) (fun _ => ?_)
      refine d_guard 14 rfl rfl (by kernel_rfl) (by kernel_rfl) (by kernel_rfl) rfl rfl (v := .c .top) (ncf g5) (ncf g5) (fun _ => ?_)
      refine d_guard 15 rfl rfl (by kernel_rfl) (by kernel_rfl) (by kernel_rfl) rfl rfl (v := .c .top) (ncf g5) (ncf g5) (fun _ => ?_)
      refine d_guard 16 rfl rfl (by kernel_rfl) (by kernel_rfl) (by kernel_rfl) rfl rfl (v := .c .top) (ncf g5) (ncf g5) (fun _ => ?_)
      refine d_guard 17 rfl rfl (by kernel_rfl) (by kernel_rfl) (by kernel_rfl) rfl rfl (v := .c .top) (ncf g5) (ncf g5) (fun _ => ?_)
      refine d_guard 18 rfl rfl (by kernel_rfl) (by kernel_rfl) (by kernel_rfl) rfl rfl (v := .c .top) (ncf g5) (ncf g5) (fun _ => ?_)
      refine d_guard 19 rfl rfl (by kernel_rfl) (by kernel_rfl) (by kernel_rfl) rfl rfl (v := .c .top) (ncf g5) (ncf g5) (fun _ => ?_)
      refine d_take 20 rfl rfl (by kernel_rfl) (by kernel_rfl) (by kernel_rfl) (p_pickF rfl g5 rfl) ?_
      refine d_end (by kernel_rfl) ?_
      refine t_cond rfl (ncf rfl) (fun _ => ?_)
      refine t_skip ?_
      refine t_endblock ?_
      refine t_region ?_
      refine r_op (o_move rfl rfl) ?_
      refine r_op (o_bin rfl rfl rfl rfl) ?_
      refine r_op (o_assign rfl rfl) ?_
      refine r_end ?_
      refine t_le ?_ (ih0 (m + 1) (by (try dsimp only); omega) (by (try dsimp only); exact ⟨by omega, no_step i2 hz3 rfl (by exact spc_n1 (by assumption))⟩))
      exact ⟨⟨rfl, ⟨rfl, ⟨rfl, ⟨(eqI (wr64 (by omega) (by omega))), trivial⟩⟩⟩⟩, ⟨rfl, ⟨rfl, trivial⟩⟩, rfl⟩
  ·
    have h1' := of_decide_eq_false h1
    refine t_exit rfl ?_
    refine t_seq ?_
    refine t_region ?_
    refine r_op (o_build rfl (pl := [(0, 1), (1, 1), (2, 1)]) (zs := [.int .i64 (0), .int .i64 (0), .bool (false)]) (by kernel_rfl) (by kernel_rfl) rfl rfl rfl) ?_
    refine r_op (o_storeb (n := 3) (by kernel_rfl) rfl rfl rfl rfl rfl rfl) ?_
    refine r_op (o_assign rfl rfl) ?_
    refine r_end ?_
    refine t_ret Tryz.func10 (.cells (n := 3) (by kernel_rfl) (by kernel_rfl) rfl rfl rfl (.tmp rfl .nil)) rfl fun E S w u hI hd => ?_
    refine post_mk hI hd ?_ trivial rfl rfl rfl <;> clear hI hd <;> (try clear ih0)
    all_goals ((have v := spc_none i2 (by omega); exact tupE v.1 v.2))
set_option maxHeartbeats 1000000 in
set_option maxRecDepth 10000 in
theorem c_impl_PositionRanks (rs : Rels) (ds : List Dep) (hrs : rs.length ≤ 4611686018427387904) (hds : szS (fun (x : (List (Int × (List (Int)))) × (List (Int × (List (Int)))) × Bool × Int × Int) => (szS (fun (x : Int × (List (Int))) => (x.2).length) (x.1)) + (szS (fun (x : Int × (List (Int))) => (x.2).length) (x.2.1))) ds ≤ 1048576) : Pu Tryz.prog 11 [.c (.t none (.sl 3 (enS3 encS encI encB) (rs))), .c (.t none (.sl 5 (enS5 (enSl 2 (enS2 encI (enSl 1 encI))) (enSl 2 (enS2 encI (enSl 1 encI))) encB encI encI) (ds)))] [(0, some (.row none 3 true 1 encI (rksL rs ds)))] 1 (.tup [(false, [.own 0]), (false, [.t none (.v (.bool (waB rs ds)))])]) := by
  refine pu_enter Tryz.func11 rfl (Nat.le_of_ble_eq_true rfl) fun w S => ?_
  have gl := sz_len (f := (fun (x : (List (Int × (List (Int)))) × (List (Int × (List (Int)))) × Bool × Int × Int) => (szS (fun (x : Int × (List (Int))) => (x.2).length) (x.1)) + (szS (fun (x : Int × (List (Int))) => (x.2).length) (x.2.1)))) (l := ds); have gg := graph_len (rs := rs) (ds := ds); have cb := cnt_bnd rs; have wn := (sq_wr rs).1; have wn2 := (sq_wr rs).2
  refine t_seq ?_
  refine t_region ?_
  refine r_op (o_assign rfl rfl) ?_
  refine r_op (o_assign rfl rfl) ?_
  refine r_end ?_
  refine t_seq ?_
  refine t_seq ?_
  refine t_region ?_
  refine r_op (o_move rfl rfl) ?_
  refine r_op (o_move rfl rfl) ?_
  refine r_op (o_call 0 0 false (Go.Proofs.enters_of Tryz.func8 (by kernel_rfl) rfl) (c_impl_IsWeaklyAcyclic (rs) (ds) (by omega) (by omega)) rfl (.cons rfl (.c .t0) (.cons rfl (.c .t0) .nil)) rfl rfl rfl) ?_
  refine r_op (o_not rfl rfl) ?_
  refine r_end ?_
  refine t_cond rfl (fun h1 => ?_) (fun h1 => ?_)
  ·
    have h1' := h1
    try simp only [decide_eq_true_eq, decide_eq_false_iff_not, Bool.not_eq_true', Bool.not_eq_false', Bool.not_false, Bool.not_true] at h1'
    refine t_seq ?_
    refine t_region ?_
    refine r_op (o_lit0 0 (e := 3) (sz := 1) (zs := [.int .i64 (0)]) encI rfl rfl (by kernel_rfl) rfl) ?_
    refine r_op (o_assign rfl rfl) ?_
    refine r_op (o_assign rfl rfl) ?_
    refine r_end ?_
    refine gt_as0b 4 0 5 rfl rfl rfl rfl ?_
    refine t_ret Tryz.func11 (.tmp rfl (.tmp rfl .nil)) rfl fun E S w u hI hd => ?_
    refine post_mk hI hd ?_ ⟨eqR ?_, trivial⟩ rfl rfl rfl <;> clear hI hd <;> (try clear ih0) <;> (try clear ih1)
    all_goals (first | exact tupB (Eq.symm (by assumption)) | exact rks_no (by assumption))
  ·
    have h1' := h1
    try simp only [decide_eq_true_eq, decide_eq_false_iff_not, Bool.not_eq_true', Bool.not_eq_false', Bool.not_false, Bool.not_true] at h1'
    refine t_skip ?_
    refine t_seq ?_
    refine t_draw (fun _ => true) (by kernel_rfl) ?_
    refine d_take 0 rfl rfl (by kernel_rfl) (by kernel_rfl) (by kernel_rfl) (p_move rfl) ?_
    refine d_take 3 rfl rfl (by kernel_rfl) (by kernel_rfl) (by kernel_rfl) (p_move rfl) ?_
    refine d_take 4 rfl rfl (by kernel_rfl) (by kernel_rfl) (by kernel_rfl) (p_move rfl) ?_
    refine d_only 1 rfl (by kernel_rfl) rfl (o_call 0 0 false (Go.Proofs.enters_of Tryz.func21 (by kernel_rfl) rfl) (c_impl_PositionCount (rs) (by omega)) rfl (.cons rfl (.c .t0) .nil) rfl rfl rfl) ?_
    refine d_two 2 5 rfl rfl (by kernel_rfl) rfl rfl (o_make 0 true (et := 3) (sz := 1) (by' := 8) encI (0) (zs := [.int .i64 (0)]) rfl rfl (by kernel_rfl) (by kernel_rfl) rfl rfl (.cons (.v rfl) .nil) rfl rfl (by omega) (by omega) (by omega)) (o_call 0 3 false (Go.Proofs.enters_of Tryz.func17 (by kernel_rfl) rfl) (c_impl_PositionGraph (rs) (ds) (by omega) (by omega)) rfl (.cons rfl (.c .t0) (.cons rfl (.c .t0) .nil)) rfl rfl rfl) ?_ ?_
    ·
      refine d_only 5 rfl (by kernel_rfl) rfl (o_call 1 4 false (Go.Proofs.enters_of Tryz.func17 (by kernel_rfl) rfl) (c_impl_PositionGraph (rs) (ds) (by omega) (by omega)) rfl (.cons rfl (.c .t0) (.cons rfl (.c .t0) .nil)) rfl rfl rfl) ?_
      refine d_take 6 rfl rfl (by kernel_rfl) (by kernel_rfl) (by kernel_rfl) (p_assign rfl) ?_
      refine d_take 7 rfl rfl (by kernel_rfl) (by kernel_rfl) (by kernel_rfl) (p_assign rfl) ?_
      refine d_end (by kernel_rfl) ?_
      refine t_seq ?_
      refine t_seq ?_
      refine t_region ?_
      refine r_op (o_assign rfl rfl) ?_
      refine r_end ?_
      refine t_block ?_
      refine t_loopL (fun (q, c) => ⟨[(4, some (.c (.t none (.v (.slice none 0 0))))), (5, some (.c (.t none (.v (.bool (false)))))), (6, some (.c (.own 0))), (7, some (.c (.own 2))), (8, some (.c (.t none (.v (.bool (c))))))], [(0, some (.row none 3 true 1 encI (q))), (2, some (.row none 30 true 3 (enS3 encI encI encB) (graphL (rs) (ds))))], 4⟩ : List Int × Bool → St) (fun (q, c) => rkI (cntP rs) (graphL rs ds) q ∧ (c = false → stil (graphL rs ds) q)) (fun (q, c) => rkM (cntP rs) q c) (zerosI (cntP rs), true) ⟨⟨rfl, ⟨rfl, ⟨rfl, ⟨rfl, ⟨rfl, trivial⟩⟩⟩⟩⟩, ⟨(eqR rfl), ⟨rfl, trivial⟩⟩, rfl⟩ (by exact ⟨rk_zero _ _, fun h => by cases h⟩) ?_
      rintro ⟨q, c⟩ hI ih0
      try dsimp only at hI ih0
      obtain ⟨i1, i2⟩ := hI; have hw : waB rs ds = true := (by assumption); have hin := wa_in hw; have hac := wa_acyc hw; have cb := cnt_bnd rs; have ql := i1.1
      refine t_seq ?_
      refine t_seq ?_
      refine t_region ?_
      refine r_op (o_move rfl rfl) ?_
      refine r_end ?_
      refine t_cond rfl (fun h2 => ?_) (fun h2 => ?_)
      ·
        have h2' := h2
        refine t_skip ?_
        refine t_block ?_
        refine t_seq ?_
        refine t_region ?_
        refine r_op (o_assign rfl rfl) ?_
        refine r_end ?_
        refine t_seq ?_
        refine t_region ?_
        refine r_op (o_move rfl rfl) ?_
        refine r_op (o_leno rfl rfl rfl rfl) ?_
        refine r_op (o_move rfl rfl) ?_
        refine r_end ?_
        refine t_block ?_
        refine t_loopL (fun j => ⟨[(4, some (.c (.t none (.v (.slice none 0 0))))), (5, some (.c (.t none (.v (.bool (false)))))), (6, some (.c (.own 0))), (7, some (.c (.own 2))), (8, some (.c (.t none (.v (.bool (decide (sumI q < sumI (((graphL rs ds).take j).foldl relE q)))))))), (24, some (.c (.own 2))), (25, some (.c (.t none (.v (.int .i64 (((graphL (rs) (ds)).length : Int))))))), (26, some (.c (.t none (.v (.int .i64 ((j : Int)))))))], [(0, some (.row none 3 true 1 encI (((graphL rs ds).take j).foldl relE q))), (2, some (.row none 30 true 3 (enS3 encI encI encB) (graphL (rs) (ds))))], 4⟩ : Nat → St) (fun j => j ≤ (graphL rs ds).length) (fun j => (graphL rs ds).length - j) 0 ⟨⟨rfl, ⟨rfl, ⟨rfl, ⟨rfl, ⟨(eqBo (by simp)), ⟨rfl, ⟨rfl, ⟨rfl, trivial⟩⟩⟩⟩⟩⟩⟩⟩, ⟨(eqR (by rw [List.take_zero]; rfl)), ⟨rfl, trivial⟩⟩, rfl⟩ (by exact Nat.zero_le _) ?_
        rintro j hI ih1
        try dsimp only at hI ih1
        have j1 := hI; have jk := rk_take hin i1 j; have jl := jk.1
        refine t_seq ?_
        refine t_region ?_
        refine r_op (o_bin rfl rfl rfl rfl) ?_
        refine r_end ?_
        refine t_seq ?_
        refine t_cond rfl (fun h3 => ?_) (fun h3 => ?_)
        ·
          have h3' := of_decide_eq_true h3
          refine t_skip ?_
          refine t_seq ?_
          refine t_block ?_
          refine t_seq ?_
          refine t_region ?_
          obtain ⟨z4, hz5, b6⟩ := at_get (xs := graphL (rs) (ds)) (n := (j : Int)) (by omega) (by omega)
          refine r_op (o_indexo rfl (by kernel_rfl) rfl rfl rfl b6 (at_lt b6 hz5)) ?_
          refine r_op (o_loadAo rfl (by kernel_rfl) (by kernel_rfl) rfl rfl hz5) ?_
          refine r_op (o_alloc 4 (zs := [.int .i64 (0), .int .i64 (0), .bool (false)]) rfl rfl (by kernel_rfl) rfl) ?_
          refine r_op (o_storeb (n := 3) (by kernel_rfl) rfl rfl rfl rfl rfl rfl) ?_
          refine r_end ?_
          refine t_seq ?_
          refine t_region ?_
          refine r_op (o_move rfl rfl) ?_
          refine r_op (o_fieldb rfl (off := 0) (by kernel_rfl) rfl) ?_
          refine r_op (o_load1b rfl (by kernel_rfl) rfl rfl rfl) ?_
          obtain ⟨z7, hz8, b9⟩ := at_get (xs := ((graphL rs ds).take j).foldl relE q) (n := z4.1) (by (have ea := ed_at hin (by assumption) jl; omega)) (by (have ea := ed_at hin (by assumption) jl; omega))
          refine r_op (o_indexo rfl (by kernel_rfl) rfl rfl rfl b9 (at_lt b9 hz8)) ?_
          refine r_op (o_load1o rfl (by kernel_rfl) rfl rfl rfl hz8) ?_
          refine r_op (o_assign rfl rfl) ?_
          refine r_end ?_
          refine t_seq ?_
          refine t_seq ?_
          refine t_region ?_
          refine r_op (o_fieldb rfl (off := 2) (by kernel_rfl) rfl) ?_
          refine r_op (o_load1b rfl (by kernel_rfl) rfl rfl rfl) ?_
          refine r_end ?_
          refine t_cond rfl (fun h10 => ?_) (fun h10 => ?_)
          ·
            have h10' := h10
            refine t_region ?_
            refine r_op (o_move rfl rfl) ?_
            refine r_op (o_bin rfl rfl rfl rfl) ?_
            refine r_op (o_assign rfl rfl) ?_
            refine r_end ?_
            refine t_seq ?_
            refine t_region ?_
            refine r_op (o_move rfl rfl) ?_
            refine r_op (o_move rfl rfl) ?_
            refine r_op (o_fieldb rfl (off := 1) (by kernel_rfl) rfl) ?_
            refine r_op (o_load1b rfl (by kernel_rfl) rfl rfl rfl) ?_
            obtain ⟨z11, hz12, b13⟩ := at_get (xs := ((graphL rs ds).take j).foldl relE q) (n := z4.2.1) (by (have ea := ed_at hin (by assumption) jl; omega)) (by (have ea := ed_at hin (by assumption) jl; omega))
            refine r_op (o_indexo rfl (by kernel_rfl) rfl rfl rfl b13 (at_lt b13 hz12)) ?_
            refine r_op (o_load1o rfl (by kernel_rfl) rfl rfl rfl hz12) ?_
            refine r_op (o_bin rfl rfl rfl rfl) ?_
            refine r_end ?_
            refine t_cond rfl (fun h14 => ?_) (fun h14 => ?_)
            ·
              have h14' := of_decide_eq_true h14
              refine t_region ?_
              refine r_op (o_move rfl rfl) ?_
              refine r_op (o_fieldb rfl (off := 1) (by kernel_rfl) rfl) ?_
              refine r_op (o_load1b rfl (by kernel_rfl) rfl rfl rfl) ?_
              refine r_op (o_move rfl rfl) ?_
              refine r_op (o_indexo rfl (by kernel_rfl) rfl rfl rfl b13 (at_lt b13 hz12)) ?_
              refine r_op (o_storeo (IntKind.i64.wrap (z7 + 1)) (n := 1) (by kernel_rfl) rfl rfl hz12 rfl rfl rfl rfl (.cons .sc .nil) rfl (fun j h1 h2 => by simp at h1 h2; omega)) ?_
              refine r_op (o_assign rfl rfl) ?_
              refine r_end ?_
              refine t_endblock ?_
              refine t_region ?_
              refine r_op (o_bin rfl rfl rfl rfl) ?_
              refine r_op (o_move rfl rfl) ?_
              refine r_end ?_
              refine t_le ?_ (ih1 (j + 1) (by (try dsimp only); omega) (by (try dsimp only); omega))
              exact ⟨⟨rfl, ⟨rfl, ⟨rfl, ⟨rfl, ⟨(eqBo (by exact chg_up hin i1 hz5 hz8 hz12 (rk_v1 hac hin cb jk hz8 (by assumption)) (by omega))), ⟨rfl, ⟨rfl, ⟨(eqI (wr64 (by omega) (by omega))), trivial⟩⟩⟩⟩⟩⟩⟩⟩, ⟨(eqR (by exact rel_up hz5 hz8 hz12 (rk_v1 hac hin cb jk hz8 (by assumption)) (by omega))), ⟨rfl, trivial⟩⟩, rfl⟩
            ·
              have h14' := of_decide_eq_false h14
              refine t_skip ?_
              refine t_endblock ?_
              refine t_region ?_
              refine r_op (o_bin rfl rfl rfl rfl) ?_
              refine r_op (o_move rfl rfl) ?_
              refine r_end ?_
              refine t_le ?_ (ih1 (j + 1) (by (try dsimp only); omega) (by (try dsimp only); omega))
              exact ⟨⟨rfl, ⟨rfl, ⟨rfl, ⟨rfl, ⟨(eqBo (by exact chg_no hz5 hz8 hz12 (rk_v1 hac hin cb jk hz8 (by assumption)) (by omega))), ⟨rfl, ⟨rfl, ⟨(eqI (wr64 (by omega) (by omega))), trivial⟩⟩⟩⟩⟩⟩⟩⟩, ⟨(eqR (by exact rel_no hz5 hz8 hz12 (rk_v1 hac hin cb jk hz8 (by assumption)) (by omega))), ⟨rfl, trivial⟩⟩, rfl⟩
          ·
            have h10' := h10
            refine t_skip ?_
            refine t_seq ?_
            refine t_region ?_
            refine r_op (o_move rfl rfl) ?_
            refine r_op (o_move rfl rfl) ?_
            refine r_op (o_fieldb rfl (off := 1) (by kernel_rfl) rfl) ?_
            refine r_op (o_load1b rfl (by kernel_rfl) rfl rfl rfl) ?_
            obtain ⟨z15, hz16, b17⟩ := at_get (xs := ((graphL rs ds).take j).foldl relE q) (n := z4.2.1) (by (have ea := ed_at hin (by assumption) jl; omega)) (by (have ea := ed_at hin (by assumption) jl; omega))
            refine r_op (o_indexo rfl (by kernel_rfl) rfl rfl rfl b17 (at_lt b17 hz16)) ?_
            refine r_op (o_load1o rfl (by kernel_rfl) rfl rfl rfl hz16) ?_
            refine r_op (o_bin rfl rfl rfl rfl) ?_
            refine r_end ?_
            refine t_cond rfl (fun h18 => ?_) (fun h18 => ?_)
            ·
              have h18' := of_decide_eq_true h18
              refine t_region ?_
              refine r_op (o_move rfl rfl) ?_
              refine r_op (o_fieldb rfl (off := 1) (by kernel_rfl) rfl) ?_
              refine r_op (o_load1b rfl (by kernel_rfl) rfl rfl rfl) ?_
              refine r_op (o_move rfl rfl) ?_
              refine r_op (o_indexo rfl (by kernel_rfl) rfl rfl rfl b17 (at_lt b17 hz16)) ?_
              refine r_op (o_storeo (z7) (n := 1) (by kernel_rfl) rfl rfl hz16 rfl rfl rfl rfl (.cons .sc .nil) rfl (fun j h1 h2 => by simp at h1 h2; omega)) ?_
              refine r_op (o_assign rfl rfl) ?_
              refine r_end ?_
              refine t_endblock ?_
              refine t_region ?_
              refine r_op (o_bin rfl rfl rfl rfl) ?_
              refine r_op (o_move rfl rfl) ?_
              refine r_end ?_
              refine t_le ?_ (ih1 (j + 1) (by (try dsimp only); omega) (by (try dsimp only); omega))
              exact ⟨⟨rfl, ⟨rfl, ⟨rfl, ⟨rfl, ⟨(eqBo (by exact chg_up hin i1 hz5 hz8 hz16 (rk_v0 (by assumption)) (by omega))), ⟨rfl, ⟨rfl, ⟨(eqI (wr64 (by omega) (by omega))), trivial⟩⟩⟩⟩⟩⟩⟩⟩, ⟨(eqR (by exact rel_up hz5 hz8 hz16 (rk_v0 (by assumption)) (by omega))), ⟨rfl, trivial⟩⟩, rfl⟩
            ·
              have h18' := of_decide_eq_false h18
              refine t_skip ?_
              refine t_endblock ?_
              refine t_region ?_
              refine r_op (o_bin rfl rfl rfl rfl) ?_
              refine r_op (o_move rfl rfl) ?_
              refine r_end ?_
              refine t_le ?_ (ih1 (j + 1) (by (try dsimp only); omega) (by (try dsimp only); omega))
              exact ⟨⟨rfl, ⟨rfl, ⟨rfl, ⟨rfl, ⟨(eqBo (by exact chg_no hz5 hz8 hz16 (rk_v0 (by assumption)) (by omega))), ⟨rfl, ⟨rfl, ⟨(eqI (wr64 (by omega) (by omega))), trivial⟩⟩⟩⟩⟩⟩⟩⟩, ⟨(eqR (by exact rel_no hz5 hz8 hz16 (rk_v0 (by assumption)) (by omega))), ⟨rfl, trivial⟩⟩, rfl⟩
        ·
          have h3' := of_decide_eq_false h3
          refine t_exit rfl ?_
          refine t_endblock ?_
          refine t_le ?_ (ih0 ((graphL rs ds).foldl relE q, decide (sumI q < sumI (((graphL rs ds).take j).foldl relE q))) (by (try dsimp only); (obtain rfl : c = true := by assumption); rw [List.take_of_length_le (l := (graphL rs ds)) (i := j) (by omega)]; exact rkM_lt hac hin cb.1 i1) (by (try dsimp only); exact ⟨rk_next hin i1, fun h => chg_end hin i1 (by omega) h⟩))
          exact ⟨⟨rfl, ⟨rfl, ⟨rfl, ⟨rfl, ⟨rfl, trivial⟩⟩⟩⟩⟩, ⟨(eqR (by rw [List.take_of_length_le (l := (graphL rs ds)) (i := j) (by omega)])), ⟨rfl, trivial⟩⟩, rfl⟩
      ·
        have h2' := h2
        refine t_exit rfl ?_
        refine t_seq ?_
        refine t_region ?_
        refine r_op (o_move rfl rfl) ?_
        refine r_op (o_assign rfl rfl) ?_
        refine r_op (o_assign rfl rfl) ?_
        refine r_end ?_
        refine gt_as0b 4 0 5 rfl rfl rfl rfl ?_
        refine t_ret Tryz.func11 (.tmp rfl (.tmp rfl .nil)) rfl fun E S w u hI hd => ?_
        refine post_mk hI hd ?_ ⟨eqR ?_, trivial⟩ rfl rfl rfl <;> clear hI hd <;> (try clear ih0) <;> (try clear ih1)
        all_goals (first | exact tupB (Eq.symm (by assumption)) | exact rks_end hw i1 (i2 (by assumption)))
    ·
      refine d_only 2 rfl (by kernel_rfl) rfl (o_make 3 true (et := 3) (sz := 1) (by' := 8) encI (0) (zs := [.int .i64 (0)]) rfl rfl (by kernel_rfl) (by kernel_rfl) rfl rfl (.cons (.v rfl) .nil) rfl rfl (by omega) (by omega) (by omega)) ?_
      refine d_take 6 rfl rfl (by kernel_rfl) (by kernel_rfl) (by kernel_rfl) (p_assign rfl) ?_
      refine d_take 7 rfl rfl (by kernel_rfl) (by kernel_rfl) (by kernel_rfl) (p_assign rfl) ?_
      refine d_end (by kernel_rfl) ?_
      refine t_seq ?_
      refine t_seq ?_
      refine t_region ?_
      refine r_op (o_assign rfl rfl) ?_
      refine r_end ?_
      refine t_block ?_
      refine t_loopL (fun (q, c) => ⟨[(4, some (.c (.t none (.v (.slice none 0 0))))), (5, some (.c (.t none (.v (.bool (false)))))), (6, some (.c (.own 3))), (7, some (.c (.own 1))), (8, some (.c (.t none (.v (.bool (c))))))], [(1, some (.row none 30 true 3 (enS3 encI encI encB) (graphL (rs) (ds)))), (3, some (.row none 3 true 1 encI (q)))], 4⟩ : List Int × Bool → St) (fun (q, c) => rkI (cntP rs) (graphL rs ds) q ∧ (c = false → stil (graphL rs ds) q)) (fun (q, c) => rkM (cntP rs) q c) (zerosI (cntP rs), true) ⟨⟨rfl, ⟨rfl, ⟨rfl, ⟨rfl, ⟨rfl, trivial⟩⟩⟩⟩⟩, ⟨rfl, ⟨(eqR rfl), trivial⟩⟩, rfl⟩ (by exact ⟨rk_zero _ _, fun h => by cases h⟩) ?_
      rintro ⟨q, c⟩ hI ih0
      try dsimp only at hI ih0
      obtain ⟨i1, i2⟩ := hI; have hw : waB rs ds = true := (by assumption); have hin := wa_in hw; have hac := wa_acyc hw; have cb := cnt_bnd rs; have ql := i1.1
      refine t_seq ?_
      refine t_seq ?_
      refine t_region ?_
      refine r_op (o_move rfl rfl) ?_
      refine r_end ?_
      refine t_cond rfl (fun h19 => ?_) (fun h19 => ?_)
      ·
        have h19' := h19
        refine t_skip ?_
        refine t_block ?_
        refine t_seq ?_
        refine t_region ?_
        refine r_op (o_assign rfl rfl) ?_
        refine r_end ?_
        refine t_seq ?_
        refine t_region ?_
        refine r_op (o_move rfl rfl) ?_
        refine r_op (o_leno rfl rfl rfl rfl) ?_
        refine r_op (o_move rfl rfl) ?_
        refine r_end ?_
        refine t_block ?_
        refine t_loopL (fun j => ⟨[(4, some (.c (.t none (.v (.slice none 0 0))))), (5, some (.c (.t none (.v (.bool (false)))))), (6, some (.c (.own 3))), (7, some (.c (.own 1))), (8, some (.c (.t none (.v (.bool (decide (sumI q < sumI (((graphL rs ds).take j).foldl relE q)))))))), (24, some (.c (.own 1))), (25, some (.c (.t none (.v (.int .i64 (((graphL (rs) (ds)).length : Int))))))), (26, some (.c (.t none (.v (.int .i64 ((j : Int)))))))], [(1, some (.row none 30 true 3 (enS3 encI encI encB) (graphL (rs) (ds)))), (3, some (.row none 3 true 1 encI (((graphL rs ds).take j).foldl relE q)))], 4⟩ : Nat → St) (fun j => j ≤ (graphL rs ds).length) (fun j => (graphL rs ds).length - j) 0 ⟨⟨rfl, ⟨rfl, ⟨rfl, ⟨rfl, ⟨(eqBo (by simp)), ⟨rfl, ⟨rfl, ⟨rfl, trivial⟩⟩⟩⟩⟩⟩⟩⟩, ⟨rfl, ⟨(eqR (by rw [List.take_zero]; rfl)), trivial⟩⟩, rfl⟩ (by exact Nat.zero_le _) ?_
        rintro j hI ih1
        try dsimp only at hI ih1
        have j1 := hI; have jk := rk_take hin i1 j; have jl := jk.1
        refine t_seq ?_
        refine t_region ?_
        refine r_op (o_bin rfl rfl rfl rfl) ?_
        refine r_end ?_
        refine t_seq ?_
        refine t_cond rfl (fun h20 => ?_) (fun h20 => ?_)
        ·
          have h20' := of_decide_eq_true h20
          refine t_skip ?_
          refine t_seq ?_
          refine t_block ?_
          refine t_seq ?_
          refine t_region ?_
          obtain ⟨z21, hz22, b23⟩ := at_get (xs := graphL (rs) (ds)) (n := (j : Int)) (by omega) (by omega)
          refine r_op (o_indexo rfl (by kernel_rfl) rfl rfl rfl b23 (at_lt b23 hz22)) ?_
          refine r_op (o_loadAo rfl (by kernel_rfl) (by kernel_rfl) rfl rfl hz22) ?_
          refine r_op (o_alloc 4 (zs := [.int .i64 (0), .int .i64 (0), .bool (false)]) rfl rfl (by kernel_rfl) rfl) ?_
          refine r_op (o_storeb (n := 3) (by kernel_rfl) rfl rfl rfl rfl rfl rfl) ?_
          refine r_end ?_
          refine t_seq ?_
          refine t_region ?_
          refine r_op (o_move rfl rfl) ?_
          refine r_op (o_fieldb rfl (off := 0) (by kernel_rfl) rfl) ?_
          refine r_op (o_load1b rfl (by kernel_rfl) rfl rfl rfl) ?_
          obtain ⟨z24, hz25, b26⟩ := at_get (xs := ((graphL rs ds).take j).foldl relE q) (n := z21.1) (by (have ea := ed_at hin (by assumption) jl; omega)) (by (have ea := ed_at hin (by assumption) jl; omega))
          refine r_op (o_indexo rfl (by kernel_rfl) rfl rfl rfl b26 (at_lt b26 hz25)) ?_
          refine r_op (o_load1o rfl (by kernel_rfl) rfl rfl rfl hz25) ?_
          refine r_op (o_assign rfl rfl) ?_
          refine r_end ?_
          refine t_seq ?_
          refine t_seq ?_
          refine t_region ?_
          refine r_op (o_fieldb rfl (off := 2) (by kernel_rfl) rfl) ?_
          refine r_op (o_load1b rfl (by kernel_rfl) rfl rfl rfl) ?_
          refine r_end ?_
          refine t_cond rfl (fun h27 => ?_) (fun h27 => ?_)
          ·
            have h27' := h27
            refine t_region ?_
            refine r_op (o_move rfl rfl) ?_
            refine r_op (o_bin rfl rfl rfl rfl) ?_
            refine r_op (o_assign rfl rfl) ?_
            refine r_end ?_
            refine t_seq ?_
            refine t_region ?_
            refine r_op (o_move rfl rfl) ?_
            refine r_op (o_move rfl rfl) ?_
            refine r_op (o_fieldb rfl (off := 1) (by kernel_rfl) rfl) ?_
            refine r_op (o_load1b rfl (by kernel_rfl) rfl rfl rfl) ?_
            obtain ⟨z28, hz29, b30⟩ := at_get (xs := ((graphL rs ds).take j).foldl relE q) (n := z21.2.1) (by (have ea := ed_at hin (by assumption) jl; omega)) (by (have ea := ed_at hin (by assumption) jl; omega))
            refine r_op (o_indexo rfl (by kernel_rfl) rfl rfl rfl b30 (at_lt b30 hz29)) ?_
            refine r_op (o_load1o rfl (by kernel_rfl) rfl rfl rfl hz29) ?_
            refine r_op (o_bin rfl rfl rfl rfl) ?_
            refine r_end ?_
            refine t_cond rfl (fun h31 => ?_) (fun h31 => ?_)
            ·
              have h31' := of_decide_eq_true h31
              refine t_region ?_
              refine r_op (o_move rfl rfl) ?_
              refine r_op (o_fieldb rfl (off := 1) (by kernel_rfl) rfl) ?_
              refine r_op (o_load1b rfl (by kernel_rfl) rfl rfl rfl) ?_
              refine r_op (o_move rfl rfl) ?_
              refine r_op (o_indexo rfl (by kernel_rfl) rfl rfl rfl b30 (at_lt b30 hz29)) ?_
              refine r_op (o_storeo (IntKind.i64.wrap (z24 + 1)) (n := 1) (by kernel_rfl) rfl rfl hz29 rfl rfl rfl rfl (.cons .sc .nil) rfl (fun j h1 h2 => by simp at h1 h2; omega)) ?_
              refine r_op (o_assign rfl rfl) ?_
              refine r_end ?_
              refine t_endblock ?_
              refine t_region ?_
              refine r_op (o_bin rfl rfl rfl rfl) ?_
              refine r_op (o_move rfl rfl) ?_
              refine r_end ?_
              refine t_le ?_ (ih1 (j + 1) (by (try dsimp only); omega) (by (try dsimp only); omega))
              exact ⟨⟨rfl, ⟨rfl, ⟨rfl, ⟨rfl, ⟨(eqBo (by exact chg_up hin i1 hz22 hz25 hz29 (rk_v1 hac hin cb jk hz25 (by assumption)) (by omega))), ⟨rfl, ⟨rfl, ⟨(eqI (wr64 (by omega) (by omega))), trivial⟩⟩⟩⟩⟩⟩⟩⟩, ⟨rfl, ⟨(eqR (by exact rel_up hz22 hz25 hz29 (rk_v1 hac hin cb jk hz25 (by assumption)) (by omega))), trivial⟩⟩, rfl⟩
            ·
              have h31' := of_decide_eq_false h31
              refine t_skip ?_
              refine t_endblock ?_
              refine t_region ?_
              refine r_op (o_bin rfl rfl rfl rfl) ?_
              refine r_op (o_move rfl rfl) ?_
              refine r_end ?_
              refine t_le ?_ (ih1 (j + 1) (by (try dsimp only); omega) (by (try dsimp only); omega))
              exact ⟨⟨rfl, ⟨rfl, ⟨rfl, ⟨rfl, ⟨(eqBo (by exact chg_no hz22 hz25 hz29 (rk_v1 hac hin cb jk hz25 (by assumption)) (by omega))), ⟨rfl, ⟨rfl, ⟨(eqI (wr64 (by omega) (by omega))), trivial⟩⟩⟩⟩⟩⟩⟩⟩, ⟨rfl, ⟨(eqR (by exact rel_no hz22 hz25 hz29 (rk_v1 hac hin cb jk hz25 (by assumption)) (by omega))), trivial⟩⟩, rfl⟩
          ·
            have h27' := h27
            refine t_skip ?_
            refine t_seq ?_
            refine t_region ?_
            refine r_op (o_move rfl rfl) ?_
            refine r_op (o_move rfl rfl) ?_
            refine r_op (o_fieldb rfl (off := 1) (by kernel_rfl) rfl) ?_
            refine r_op (o_load1b rfl (by kernel_rfl) rfl rfl rfl) ?_
            obtain ⟨z32, hz33, b34⟩ := at_get (xs := ((graphL rs ds).take j).foldl relE q) (n := z21.2.1) (by (have ea := ed_at hin (by assumption) jl; omega)) (by (have ea := ed_at hin (by assumption) jl; omega))
            refine r_op (o_indexo rfl (by kernel_rfl) rfl rfl rfl b34 (at_lt b34 hz33)) ?_
            refine r_op (o_load1o rfl (by kernel_rfl) rfl rfl rfl hz33) ?_
            refine r_op (o_bin rfl rfl rfl rfl) ?_
            refine r_end ?_
            refine t_cond rfl (fun h35 => ?_) (fun h35 => ?_)
            ·
              have h35' := of_decide_eq_true h35
              refine t_region ?_
              refine r_op (o_move rfl rfl) ?_
              refine r_op (o_fieldb rfl (off := 1) (by kernel_rfl) rfl) ?_
              refine r_op (o_load1b rfl (by kernel_rfl) rfl rfl rfl) ?_
              refine r_op (o_move rfl rfl) ?_
              refine r_op (o_indexo rfl (by kernel_rfl) rfl rfl rfl b34 (at_lt b34 hz33)) ?_
              refine r_op (o_storeo (z24) (n := 1) (by kernel_rfl) rfl rfl hz33 rfl rfl rfl rfl (.cons .sc .nil) rfl (fun j h1 h2 => by simp at h1 h2; omega)) ?_
              refine r_op (o_assign rfl rfl) ?_
              refine r_end ?_
              refine t_endblock ?_
              refine t_region ?_
              refine r_op (o_bin rfl rfl rfl rfl) ?_
              refine r_op (o_move rfl rfl) ?_
              refine r_end ?_
              refine t_le ?_ (ih1 (j + 1) (by (try dsimp only); omega) (by (try dsimp only); omega))
              exact ⟨⟨rfl, ⟨rfl, ⟨rfl, ⟨rfl, ⟨(eqBo (by exact chg_up hin i1 hz22 hz25 hz33 (rk_v0 (by assumption)) (by omega))), ⟨rfl, ⟨rfl, ⟨(eqI (wr64 (by omega) (by omega))), trivial⟩⟩⟩⟩⟩⟩⟩⟩, ⟨rfl, ⟨(eqR (by exact rel_up hz22 hz25 hz33 (rk_v0 (by assumption)) (by omega))), trivial⟩⟩, rfl⟩
            ·
              have h35' := of_decide_eq_false h35
              refine t_skip ?_
              refine t_endblock ?_
              refine t_region ?_
              refine r_op (o_bin rfl rfl rfl rfl) ?_
              refine r_op (o_move rfl rfl) ?_
              refine r_end ?_
              refine t_le ?_ (ih1 (j + 1) (by (try dsimp only); omega) (by (try dsimp only); omega))
              exact ⟨⟨rfl, ⟨rfl, ⟨rfl, ⟨rfl, ⟨(eqBo (by exact chg_no hz22 hz25 hz33 (rk_v0 (by assumption)) (by omega))), ⟨rfl, ⟨rfl, ⟨(eqI (wr64 (by omega) (by omega))), trivial⟩⟩⟩⟩⟩⟩⟩⟩, ⟨rfl, ⟨(eqR (by exact rel_no hz22 hz25 hz33 (rk_v0 (by assumption)) (by omega))), trivial⟩⟩, rfl⟩
        ·
          have h20' := of_decide_eq_false h20
          refine t_exit rfl ?_
          refine t_endblock ?_
          refine t_le ?_ (ih0 ((graphL rs ds).foldl relE q, decide (sumI q < sumI (((graphL rs ds).take j).foldl relE q))) (by (try dsimp only); (obtain rfl : c = true := by assumption); rw [List.take_of_length_le (l := (graphL rs ds)) (i := j) (by omega)]; exact rkM_lt hac hin cb.1 i1) (by (try dsimp only); exact ⟨rk_next hin i1, fun h => chg_end hin i1 (by omega) h⟩))
          exact ⟨⟨rfl, ⟨rfl, ⟨rfl, ⟨rfl, ⟨rfl, trivial⟩⟩⟩⟩⟩, ⟨rfl, ⟨(eqR (by rw [List.take_of_length_le (l := (graphL rs ds)) (i := j) (by omega)])), trivial⟩⟩, rfl⟩
      ·
        have h19' := h19
        refine t_exit rfl ?_
        refine t_seq ?_
        refine t_region ?_
        refine r_op (o_move rfl rfl) ?_
        refine r_op (o_assign rfl rfl) ?_
        refine r_op (o_assign rfl rfl) ?_
        refine r_end ?_
        refine gt_as0b 4 3 5 rfl rfl rfl rfl ?_
        refine t_ret Tryz.func11 (.tmp rfl (.tmp rfl .nil)) rfl fun E S w u hI hd => ?_
        refine post_mk hI hd ?_ ⟨eqR ?_, trivial⟩ rfl rfl rfl <;> clear hI hd <;> (try clear ih0) <;> (try clear ih1)
        all_goals (first | exact tupB (Eq.symm (by assumption)) | exact rks_end hw i1 (i2 (by assumption)))
set_option maxHeartbeats 1000000 in
set_option maxRecDepth 10000 in
theorem c_spec_IsWeaklyAcyclic (rs : Rels) (ds : List Dep) (hrs : rs.length ≤ 4611686018427387904) (hds : szS (fun (x : (List (Int × (List (Int)))) × (List (Int × (List (Int)))) × Bool × Int × Int) => (szS (fun (x : Int × (List (Int))) => (x.2).length) (x.1)) + (szS (fun (x : Int × (List (Int))) => (x.2).length) (x.2.1))) ds ≤ 1048576) : Pu Tryz.prog 13 [.c (.t none (.sl 3 (enS3 encS encI encB) (rs))), .c (.t none (.sl 5 (enS5 (enSl 2 (enS2 encI (enSl 1 encI))) (enSl 2 (enS2 encI (enSl 1 encI))) encB encI encI) (ds)))] [] 0 (.c (.t none (.v (.bool (!(spcF rs ds) && depsOk rs ds))))) := by
  refine pu_enter Tryz.func13 rfl (Nat.le_of_ble_eq_true rfl) fun w S => ?_
  have gl := sz_len (f := (fun (x : (List (Int × (List (Int)))) × (List (Int × (List (Int)))) × Bool × Int × Int) => (szS (fun (x : Int × (List (Int))) => (x.2).length) (x.1)) + (szS (fun (x : Int × (List (Int))) => (x.2).length) (x.2.1)))) (l := ds)
  refine t_seq ?_
  refine t_region ?_
  refine r_op (o_assign rfl rfl) ?_
  refine r_end ?_
  refine t_seq ?_
  refine t_region ?_
  refine r_op (o_move rfl rfl) ?_
  refine r_op (o_move rfl rfl) ?_
  refine r_op (o_call 0 0 false (Go.Proofs.enters_of Tryz.func10 (by kernel_rfl) rfl) (c_spec_SpecialCycleEdge (rs) (ds) (by omega) (by omega)) rfl (.cons rfl (.c .t0) (.cons rfl (.c .t0) .nil)) rfl rfl rfl) ?_
  refine r_op (o_move rfl rfl) ?_
  refine r_op (o_extract rfl rfl rfl rfl) ?_
  refine r_op (o_extract rfl rfl rfl rfl) ?_
  refine r_op (o_alloc 0 (zs := [.int .i64 (0), .int .i64 (0), .bool (false)]) rfl rfl (by kernel_rfl) rfl) ?_
  refine r_op (o_storeb (n := 3) (by kernel_rfl) rfl rfl rfl rfl rfl rfl) ?_
  refine r_op (o_assign rfl rfl) ?_
  refine r_end ?_
  refine t_seq ?_
  refine t_region ?_
  refine r_op (o_move rfl rfl) ?_
  refine r_op (o_move rfl rfl) ?_
  refine r_op (o_call 1 1 false (Go.Proofs.enters_of Tryz.func18 (by kernel_rfl) rfl) (c_spec_AreValidDependencies (rs) (ds) (by omega) (by omega)) rfl (.cons rfl (.c .t0) (.cons rfl (.c .t0) .nil)) rfl rfl rfl) ?_
  refine r_op (o_move rfl rfl) ?_
  refine r_guard rfl rfl rfl (fun g1 => ?_) (fun g1 => ?_)
  ·
    have g1' := g1
    refine r_op (o_move rfl rfl) ?_
    refine r_guard rfl rfl rfl (fun _ => ?_) (nc g1)
    refine r_op (o_not rfl rfl) ?_
    refine r_op (o_pickT rfl rfl g1 rfl) ?_
    refine r_op (o_assign rfl rfl) ?_
    refine r_end ?_
    refine t_ret Tryz.func13 (.tmp rfl .nil) rfl fun E S w u hI hd => ?_
    refine post_mk hI hd ?_ trivial rfl rfl rfl <;> clear hI hd
    all_goals (refine scB ?_; clear hrs hds gl; grind)
  ·
    have g1' := g1
    refine r_guard rfl rfl rfl (ncf g1) (fun _ => ?_)
    refine r_op (o_pickF rfl rfl g1 rfl) ?_
    refine r_op (o_assign rfl rfl) ?_
    refine r_end ?_
    refine t_ret Tryz.func13 (.tmp rfl .nil) rfl fun E S w u hI hd => ?_
    refine post_mk hI hd ?_ trivial rfl rfl rfl <;> clear hI hd
    all_goals (refine scB ?_; clear hrs hds gl; grind)
set_option maxHeartbeats 1000000 in
set_option maxRecDepth 10000 in
theorem c_spec_PositionRanks (rs : Rels) (ds : List Dep) (hrs : rs.length ≤ 4611686018427387904) (hds : szS (fun (x : (List (Int × (List (Int)))) × (List (Int × (List (Int)))) × Bool × Int × Int) => (szS (fun (x : Int × (List (Int))) => (x.2).length) (x.1)) + (szS (fun (x : Int × (List (Int))) => (x.2).length) (x.2.1))) ds ≤ 1048576) : Pu Tryz.prog 12 [.c (.t none (.sl 3 (enS3 encS encI encB) (rs))), .c (.t none (.sl 5 (enS5 (enSl 2 (enS2 encI (enSl 1 encI))) (enSl 2 (enS2 encI (enSl 1 encI))) encB encI encI) (ds)))] [(0, some (.row none 3 true 1 encI (rksL rs ds)))] 1 (.tup [(false, [.own 0]), (false, [.t none (.v (.bool (waB rs ds)))])]) := by
  refine pu_enter Tryz.func12 rfl (Nat.le_of_ble_eq_true rfl) fun w S => ?_
  have gl := sz_len (f := (fun (x : (List (Int × (List (Int)))) × (List (Int × (List (Int)))) × Bool × Int × Int) => (szS (fun (x : Int × (List (Int))) => (x.2).length) (x.1)) + (szS (fun (x : Int × (List (Int))) => (x.2).length) (x.2.1)))) (l := ds); have gg := graph_len (rs := rs) (ds := ds); have cb := cnt_bnd rs; have wn := (sq_wr rs).1; have wn2 := (sq_wr rs).2
  refine t_seq ?_
  refine t_region ?_
  refine r_op (o_assign rfl rfl) ?_
  refine r_op (o_assign rfl rfl) ?_
  refine r_end ?_
  refine t_seq ?_
  refine t_seq ?_
  refine t_region ?_
  refine r_op (o_move rfl rfl) ?_
  refine r_op (o_move rfl rfl) ?_
  refine r_op (o_call 0 0 false (Go.Proofs.enters_of Tryz.func13 (by kernel_rfl) rfl) (c_spec_IsWeaklyAcyclic (rs) (ds) (by omega) (by omega)) rfl (.cons rfl (.c .t0) (.cons rfl (.c .t0) .nil)) rfl rfl rfl) ?_
  refine r_op (o_not rfl rfl) ?_
  refine r_end ?_
  refine t_cond rfl (fun h1 => ?_) (fun h1 => ?_)
  ·
    have h1' := h1
    try simp only [decide_eq_true_eq, decide_eq_false_iff_not, Bool.not_eq_true', Bool.not_eq_false', Bool.not_false, Bool.not_true] at h1'
    refine t_seq ?_
    refine t_region ?_
    refine r_op (o_lit0 0 (e := 3) (sz := 1) (zs := [.int .i64 (0)]) encI rfl rfl (by kernel_rfl) rfl) ?_
    refine r_op (o_assign rfl rfl) ?_
    refine r_op (o_assign rfl rfl) ?_
    refine r_end ?_
    refine gt_as0b 4 0 5 rfl rfl rfl rfl ?_
    refine t_ret Tryz.func12 (.tmp rfl (.tmp rfl .nil)) rfl fun E S w u hI hd => ?_
    refine post_mk hI hd ?_ ⟨eqR ?_, trivial⟩ rfl rfl rfl <;> clear hI hd <;> (try clear ih0) <;> (try clear ih1)
    all_goals (first | exact tupB (Eq.symm (by assumption)) | exact rks_no (by assumption))
  ·
    have h1' := h1
    try simp only [decide_eq_true_eq, decide_eq_false_iff_not, Bool.not_eq_true', Bool.not_eq_false', Bool.not_false, Bool.not_true] at h1'
    refine t_skip ?_
    refine t_seq ?_
    refine t_region ?_
    refine r_op (o_move rfl rfl) ?_
    refine r_op (o_call 0 0 false (Go.Proofs.enters_of Tryz.func46 (by kernel_rfl) rfl) (c_spec_PositionCount (rs) (by omega)) rfl (.cons rfl (.c .t0) .nil) rfl rfl rfl) ?_
    refine r_op (o_assign rfl rfl) ?_
    refine r_end ?_
    refine t_seq ?_
    refine t_region ?_
    refine r_op (o_move rfl rfl) ?_
    refine r_op (o_move rfl rfl) ?_
    refine r_op (o_call 0 1 false (Go.Proofs.enters_of Tryz.func44 (by kernel_rfl) rfl) (c_spec_PositionGraph (rs) (ds) (by omega) (by omega)) rfl (.cons rfl (.c .t0) (.cons rfl (.c .t0) .nil)) rfl rfl rfl) ?_
    refine r_op (o_assign rfl rfl) ?_
    refine r_end ?_
    refine t_seq ?_
    refine t_region ?_
    refine r_op (o_move rfl rfl) ?_
    refine r_op (o_make 1 true (et := 3) (sz := 1) (by' := 8) encI (0) (zs := [.int .i64 (0)]) rfl rfl (by kernel_rfl) (by kernel_rfl) rfl rfl (.cons (.v rfl) .nil) rfl rfl (by omega) (by omega) (by omega)) ?_
    refine r_op (o_assign rfl rfl) ?_
    refine r_end ?_
    refine t_seq ?_
    refine t_seq ?_
    refine t_region ?_
    refine r_op (o_assign rfl rfl) ?_
    refine r_end ?_
    refine t_block ?_
    refine t_loopL (fun k => ⟨[(4, some (.c (.t none (.v (.slice none 0 0))))), (5, some (.c (.t none (.v (.bool (false)))))), (6, some (.c (.t none (.v (.int .i64 (cntP (rs))))))), (7, some (.c (.own 0))), (8, some (.c (.own 1))), (9, some (.c (.t none (.v (.int .i64 ((k : Int)))))))], [(0, some (.row none 30 true 3 (enS3 encI encI encB) (graphL (rs) (ds)))), (1, some (.row none 3 true 1 encI (relK (graphL rs ds) (zerosI (cntP rs)) k)))], 2⟩ : Nat → St) (fun k => k ≤ sqN rs) (fun k => sqN rs - k) 0 ⟨⟨rfl, ⟨rfl, ⟨rfl, ⟨rfl, ⟨rfl, ⟨rfl, trivial⟩⟩⟩⟩⟩⟩, ⟨rfl, ⟨(eqR rfl), trivial⟩⟩, rfl⟩ (by exact Nat.zero_le _) ?_
    rintro k hI ih0
    try dsimp only at hI ih0
    have i0 := hI; have hw : waB rs ds = true := (by assumption); have hin := wa_in hw; have hac := wa_acyc hw; have cb := cnt_bnd rs; have i1 := rk_relK hin k; have ql := i1.1
    refine t_seq ?_
    refine t_seq ?_
    refine t_region ?_
    refine r_op (o_move rfl rfl) ?_
    refine r_op (o_move rfl rfl) ?_
    refine r_op (o_move rfl rfl) ?_
    refine r_op (o_bin rfl rfl rfl rfl) ?_
    refine r_op (o_bin rfl rfl rfl rfl) ?_
    refine r_end ?_
    refine t_cond rfl (fun h2 => ?_) (fun h2 => ?_)
    ·
      have h2' := of_decide_eq_true h2
      refine t_skip ?_
      refine t_seq ?_
      refine t_block ?_
      refine t_seq ?_
      refine t_region ?_
      refine r_op (o_assign rfl rfl) ?_
      refine r_end ?_
      refine t_block ?_
      refine t_loopL (fun j => ⟨[(4, some (.c (.t none (.v (.slice none 0 0))))), (5, some (.c (.t none (.v (.bool (false)))))), (6, some (.c (.t none (.v (.int .i64 (cntP (rs))))))), (7, some (.c (.own 0))), (8, some (.c (.own 1))), (9, some (.c (.t none (.v (.int .i64 ((k : Int))))))), (10, some (.c (.t none (.v (.int .i64 ((j : Int)))))))], [(0, some (.row none 30 true 3 (enS3 encI encI encB) (graphL (rs) (ds)))), (1, some (.row none 3 true 1 encI (((graphL rs ds).take j).foldl relE (relK (graphL rs ds) (zerosI (cntP rs)) k))))], 2⟩ : Nat → St) (fun j => j ≤ (graphL rs ds).length) (fun j => (graphL rs ds).length - j) 0 ⟨⟨rfl, ⟨rfl, ⟨rfl, ⟨rfl, ⟨rfl, ⟨rfl, ⟨rfl, trivial⟩⟩⟩⟩⟩⟩⟩, ⟨rfl, ⟨(eqR (by rw [List.take_zero]; rfl)), trivial⟩⟩, rfl⟩ (by exact Nat.zero_le _) ?_
      rintro j hI ih1
      try dsimp only at hI ih1
      have j1 := hI; have jk := rk_take hin i1 j; have jl := jk.1
      refine t_seq ?_
      refine t_seq ?_
      refine t_region ?_
      refine r_op (o_move rfl rfl) ?_
      refine r_op (o_move rfl rfl) ?_
      refine r_op (o_leno rfl rfl rfl rfl) ?_
      refine r_op (o_bin rfl rfl rfl rfl) ?_
      refine r_end ?_
      refine t_cond rfl (fun h3 => ?_) (fun h3 => ?_)
      ·
        have h3' := of_decide_eq_true h3
        refine t_skip ?_
        refine t_seq ?_
        refine t_block ?_
        refine t_seq ?_
        refine t_region ?_
        refine r_op (o_move rfl rfl) ?_
        refine r_op (o_move rfl rfl) ?_
        refine r_op (o_move rfl rfl) ?_
        obtain ⟨z4, hz5, b6⟩ := at_get (xs := graphL (rs) (ds)) (n := (j : Int)) (by omega) (by omega)
        refine r_op (o_indexo rfl (by kernel_rfl) rfl rfl rfl b6 (at_lt b6 hz5)) ?_
        refine r_op (o_fieldo rfl (off := 0) (by kernel_rfl) rfl) ?_
        refine r_op (o_load1o rfl (by kernel_rfl) rfl rfl rfl hz5) ?_
        obtain ⟨z7, hz8, b9⟩ := at_get (xs := ((graphL rs ds).take j).foldl relE (relK (graphL rs ds) (zerosI (cntP rs)) k)) (n := z4.1) (by (have ea := ed_at hin (by assumption) jl; omega)) (by (have ea := ed_at hin (by assumption) jl; omega))
        refine r_op (o_indexo rfl (by kernel_rfl) rfl rfl rfl b9 (at_lt b9 hz8)) ?_
        refine r_op (o_load1o rfl (by kernel_rfl) rfl rfl rfl hz8) ?_
        refine r_op (o_assign rfl rfl) ?_
        refine r_end ?_
        refine t_seq ?_
        refine t_seq ?_
        refine t_region ?_
        refine r_op (o_move rfl rfl) ?_
        refine r_op (o_move rfl rfl) ?_
        refine r_op (o_indexo rfl (by kernel_rfl) rfl rfl rfl b6 (at_lt b6 hz5)) ?_
        refine r_op (o_fieldo rfl (off := 2) (by kernel_rfl) rfl) ?_
        refine r_op (o_load1o rfl (by kernel_rfl) rfl rfl rfl hz5) ?_
        refine r_end ?_
        refine t_cond rfl (fun h10 => ?_) (fun h10 => ?_)
        ·
          have h10' := h10
          refine t_region ?_
          refine r_op (o_move rfl rfl) ?_
          refine r_op (o_bin rfl rfl rfl rfl) ?_
          refine r_op (o_assign rfl rfl) ?_
          refine r_end ?_
          refine t_draw (fun i => !(Nat.beq i 17)) (by kernel_rfl) ?_
          refine d_take 0 rfl rfl (by kernel_rfl) (by kernel_rfl) (by kernel_rfl) (p_move rfl) ?_
          refine d_take 1 rfl rfl (by kernel_rfl) (by kernel_rfl) (by kernel_rfl) (p_move rfl) ?_
          refine d_take 2 rfl rfl (by kernel_rfl) (by kernel_rfl) (by kernel_rfl) (p_move rfl) ?_
          refine d_take 3 rfl rfl (by kernel_rfl) (by kernel_rfl) (by kernel_rfl) (p_indexo (by kernel_rfl) rfl rfl rfl b6 (at_lt b6 hz5)) ?_
          refine d_take 4 rfl rfl (by kernel_rfl) (by kernel_rfl) (by kernel_rfl) (p_fieldo (off := 1) (by kernel_rfl) rfl) ?_
          refine d_take 5 rfl rfl (by kernel_rfl) (by kernel_rfl) (by kernel_rfl) (p_load1o (by kernel_rfl) rfl rfl rfl hz5) ?_
          refine d_take 6 rfl rfl (by kernel_rfl) (by kernel_rfl) (by kernel_rfl) (p_move rfl) ?_
          refine d_take 7 rfl rfl (by kernel_rfl) (by kernel_rfl) (by kernel_rfl) (p_move rfl) ?_
          refine d_take 8 rfl rfl (by kernel_rfl) (by kernel_rfl) (by kernel_rfl) (p_move rfl) ?_
          refine d_take 9 rfl rfl (by kernel_rfl) (by kernel_rfl) (by kernel_rfl) (p_indexo (by kernel_rfl) rfl rfl rfl b6 (at_lt b6 hz5)) ?_
          refine d_take 10 rfl rfl (by kernel_rfl) (by kernel_rfl) (by kernel_rfl) (p_fieldo (off := 1) (by kernel_rfl) rfl) ?_
          refine d_take 11 rfl rfl (by kernel_rfl) (by kernel_rfl) (by kernel_rfl) (p_load1o (by kernel_rfl) rfl rfl rfl hz5) ?_
          obtain ⟨z11, hz12, b13⟩ := at_get (xs := ((graphL rs ds).take j).foldl relE (relK (graphL rs ds) (zerosI (cntP rs)) k)) (n := z4.2.1) (by (have ea := ed_at hin (by assumption) jl; omega)) (by (have ea := ed_at hin (by assumption) jl; omega))
          refine d_take 12 rfl rfl (by kernel_rfl) (by kernel_rfl) (by kernel_rfl) (p_indexo (by kernel_rfl) rfl rfl rfl b13 (at_lt b13 hz12)) ?_
          refine d_take 13 rfl rfl (by kernel_rfl) (by kernel_rfl) (by kernel_rfl) (p_load1o (by kernel_rfl) rfl rfl rfl hz12) ?_
          refine d_take 14 rfl rfl (by kernel_rfl) (by kernel_rfl) (by kernel_rfl) (p_move rfl) ?_
          refine d_take 15 rfl rfl (by kernel_rfl) (by kernel_rfl) (by kernel_rfl) (p_max rfl rfl) ?_
          refine d_take 16 rfl rfl (by kernel_rfl) (by kernel_rfl) (by kernel_rfl) (p_indexo (by kernel_rfl) rfl rfl rfl b13 (at_lt b13 hz12)) ?_
          refine d_only 17 rfl (by kernel_rfl) rfl (o_storeo (if z11 < (IntKind.i64.wrap (z7 + 1)) then (IntKind.i64.wrap (z7 + 1)) else z11) (n := 1) (by kernel_rfl) rfl rfl hz12 rfl rfl rfl rfl (.cons .sc .nil) rfl (fun j h1 h2 => by simp at h1 h2; omega)) ?_
          refine d_end (by kernel_rfl) ?_
          refine t_endblock ?_
          refine t_region ?_
          refine r_op (o_move rfl rfl) ?_
          refine r_op (o_bin rfl rfl rfl rfl) ?_
          refine r_op (o_assign rfl rfl) ?_
          refine r_end ?_
          refine t_le ?_ (ih1 (j + 1) (by (try dsimp only); omega) (by (try dsimp only); omega))
          exact ⟨⟨rfl, ⟨rfl, ⟨rfl, ⟨rfl, ⟨rfl, ⟨rfl, ⟨(eqI (wr64 (by omega) (by omega))), trivial⟩⟩⟩⟩⟩⟩⟩, ⟨rfl, ⟨(eqR (by exact rel_max hz5 hz8 hz12 (by rw [← (rk_v1 hac hin cb jk hz8 (by assumption))]; split <;> omega))), trivial⟩⟩, rfl⟩
        ·
          have h10' := h10
          refine t_skip ?_
          refine t_draw (fun i => !(Nat.beq i 17)) (by kernel_rfl) ?_
          refine d_take 0 rfl rfl (by kernel_rfl) (by kernel_rfl) (by kernel_rfl) (p_move rfl) ?_
          refine d_take 1 rfl rfl (by kernel_rfl) (by kernel_rfl) (by kernel_rfl) (p_move rfl) ?_
          refine d_take 2 rfl rfl (by kernel_rfl) (by kernel_rfl) (by kernel_rfl) (p_move rfl) ?_
          refine d_take 3 rfl rfl (by kernel_rfl) (by kernel_rfl) (by kernel_rfl) (p_indexo (by kernel_rfl) rfl rfl rfl b6 (at_lt b6 hz5)) ?_
          refine d_take 4 rfl rfl (by kernel_rfl) (by kernel_rfl) (by kernel_rfl) (p_fieldo (off := 1) (by kernel_rfl) rfl) ?_
          refine d_take 5 rfl rfl (by kernel_rfl) (by kernel_rfl) (by kernel_rfl) (p_load1o (by kernel_rfl) rfl rfl rfl hz5) ?_
          refine d_take 6 rfl rfl (by kernel_rfl) (by kernel_rfl) (by kernel_rfl) (p_move rfl) ?_
          refine d_take 7 rfl rfl (by kernel_rfl) (by kernel_rfl) (by kernel_rfl) (p_move rfl) ?_
          refine d_take 8 rfl rfl (by kernel_rfl) (by kernel_rfl) (by kernel_rfl) (p_move rfl) ?_
          refine d_take 9 rfl rfl (by kernel_rfl) (by kernel_rfl) (by kernel_rfl) (p_indexo (by kernel_rfl) rfl rfl rfl b6 (at_lt b6 hz5)) ?_
          refine d_take 10 rfl rfl (by kernel_rfl) (by kernel_rfl) (by kernel_rfl) (p_fieldo (off := 1) (by kernel_rfl) rfl) ?_
          refine d_take 11 rfl rfl (by kernel_rfl) (by kernel_rfl) (by kernel_rfl) (p_load1o (by kernel_rfl) rfl rfl rfl hz5) ?_
          obtain ⟨z14, hz15, b16⟩ := at_get (xs := ((graphL rs ds).take j).foldl relE (relK (graphL rs ds) (zerosI (cntP rs)) k)) (n := z4.2.1) (by (have ea := ed_at hin (by assumption) jl; omega)) (by (have ea := ed_at hin (by assumption) jl; omega))
          refine d_take 12 rfl rfl (by kernel_rfl) (by kernel_rfl) (by kernel_rfl) (p_indexo (by kernel_rfl) rfl rfl rfl b16 (at_lt b16 hz15)) ?_
          refine d_take 13 rfl rfl (by kernel_rfl) (by kernel_rfl) (by kernel_rfl) (p_load1o (by kernel_rfl) rfl rfl rfl hz15) ?_
          refine d_take 14 rfl rfl (by kernel_rfl) (by kernel_rfl) (by kernel_rfl) (p_move rfl) ?_
          refine d_take 15 rfl rfl (by kernel_rfl) (by kernel_rfl) (by kernel_rfl) (p_max rfl rfl) ?_
          refine d_take 16 rfl rfl (by kernel_rfl) (by kernel_rfl) (by kernel_rfl) (p_indexo (by kernel_rfl) rfl rfl rfl b16 (at_lt b16 hz15)) ?_
          refine d_only 17 rfl (by kernel_rfl) rfl (o_storeo (if z14 < z7 then z7 else z14) (n := 1) (by kernel_rfl) rfl rfl hz15 rfl rfl rfl rfl (.cons .sc .nil) rfl (fun j h1 h2 => by simp at h1 h2; omega)) ?_
          refine d_end (by kernel_rfl) ?_
          refine t_endblock ?_
          refine t_region ?_
          refine r_op (o_move rfl rfl) ?_
          refine r_op (o_bin rfl rfl rfl rfl) ?_
          refine r_op (o_assign rfl rfl) ?_
          refine r_end ?_
          refine t_le ?_ (ih1 (j + 1) (by (try dsimp only); omega) (by (try dsimp only); omega))
          exact ⟨⟨rfl, ⟨rfl, ⟨rfl, ⟨rfl, ⟨rfl, ⟨rfl, ⟨(eqI (wr64 (by omega) (by omega))), trivial⟩⟩⟩⟩⟩⟩⟩, ⟨rfl, ⟨(eqR (by exact rel_max hz5 hz8 hz15 (by rw [← (rk_v0 (by assumption))]; split <;> omega))), trivial⟩⟩, rfl⟩
      ·
        have h3' := of_decide_eq_false h3
        refine t_exit rfl ?_
        refine t_endblock ?_
        refine t_region ?_
        refine r_op (o_move rfl rfl) ?_
        refine r_op (o_bin rfl rfl rfl rfl) ?_
        refine r_op (o_assign rfl rfl) ?_
        refine r_end ?_
        refine t_le ?_ (ih0 (k + 1) (by (try dsimp only); omega) (by (try dsimp only); omega))
        exact ⟨⟨rfl, ⟨rfl, ⟨rfl, ⟨rfl, ⟨rfl, ⟨(eqI (wr64 (by omega) (by omega))), trivial⟩⟩⟩⟩⟩⟩, ⟨rfl, ⟨(eqR (by rw [List.take_of_length_le (l := (graphL rs ds)) (i := j) (by omega)]; rfl)), trivial⟩⟩, rfl⟩
    ·
      have h2' := of_decide_eq_false h2
      refine t_exit rfl ?_
      refine t_seq ?_
      refine t_region ?_
      refine r_op (o_move rfl rfl) ?_
      refine r_op (o_assign rfl rfl) ?_
      refine r_op (o_assign rfl rfl) ?_
      refine r_end ?_
      refine gt_as0b 4 1 5 rfl rfl rfl rfl ?_
      refine t_ret Tryz.func12 (.tmp rfl (.tmp rfl .nil)) rfl fun E S w u hI hd => ?_
      refine post_mk hI hd ?_ ⟨eqR ?_, trivial⟩ rfl rfl rfl <;> clear hI hd <;> (try clear ih0) <;> (try clear ih1)
      all_goals (first | exact tupB (Eq.symm (by assumption)) | exact rks_spec hw (show k = sqN rs by omega))
set_option maxHeartbeats 1000000 in
set_option maxRecDepth 10000 in
theorem c_laws_sameInts (a b : List Int) (ha : a.length ≤ 4611686018427387904) : Pu Tryz.prog 14 [.c (.t none (.sl 1 encI (a))), .c (.t none (.sl 1 encI (b)))] [] 0 (.c (.t none (.v (.bool (decide (a = b)))))) := by
  refine pu_enter Tryz.func14 rfl (Nat.le_of_ble_eq_true rfl) fun w S => ?_
  refine t_seq ?_
  refine t_region ?_
  refine r_op (o_assign rfl rfl) ?_
  refine r_end ?_
  refine t_seq ?_
  refine t_seq ?_
  refine t_region ?_
  refine r_op (o_move rfl rfl) ?_
  refine r_op (o_len rfl rfl rfl) ?_
  refine r_op (o_move rfl rfl) ?_
  refine r_op (o_len rfl rfl rfl) ?_
  refine r_op (o_bin rfl rfl rfl rfl) ?_
  refine r_end ?_
  refine t_cond rfl (fun h1 => ?_) (fun h1 => ?_)
  ·
    have h1' := of_decide_eq_true h1
    refine t_seq ?_
    refine t_region ?_
    refine r_op (o_assign rfl rfl) ?_
    refine r_end ?_
    refine t_ret Tryz.func14 (.tmp rfl .nil) rfl fun E S w u hI hd => ?_
    refine post_mk hI hd ?_ trivial rfl rfl rfl <;> clear hI hd <;> (try clear ih0)
    all_goals ((have : a ≠ b := by rintro rfl; simp at *); simp [this])
  ·
    have h1' := of_decide_eq_false h1
    refine t_skip ?_
    refine t_seq ?_
    refine t_seq ?_
    refine t_region ?_
    refine r_op (o_assign rfl rfl) ?_
    refine r_end ?_
    refine t_block ?_
    refine t_loopL (fun m => ⟨[(0, some (.c (.t none (.sl 1 encI (a))))), (1, some (.c (.t none (.sl 1 encI (b))))), (5, some (.c (.t none (.v (.int .i64 ((m : Int)))))))], [], 0⟩ : Nat → St) (fun m => m ≤ a.length ∧ a.length = b.length ∧ a.take m = b.take m) (fun m => a.length - m) 0 ⟨⟨rfl, ⟨rfl, ⟨rfl, trivial⟩⟩⟩, trivial, rfl⟩ (by exact ⟨Nat.zero_le _, by omega, rfl⟩) ?_
    rintro m hI ih0
    try dsimp only at hI ih0
    obtain ⟨i1, i2, i3⟩ := hI
    refine t_seq ?_
    refine t_seq ?_
    refine t_region ?_
    refine r_op (o_move rfl rfl) ?_
    refine r_op (o_move rfl rfl) ?_
    refine r_op (o_len rfl rfl rfl) ?_
    refine r_op (o_bin rfl rfl rfl rfl) ?_
    refine r_end ?_
    refine t_cond rfl (fun h2 => ?_) (fun h2 => ?_)
    ·
      have h2' := of_decide_eq_true h2
      refine t_skip ?_
      refine t_seq ?_
      refine t_block ?_
      refine t_seq ?_
      refine t_draw (fun _ => true) (by kernel_rfl) ?_
      refine d_take 0 rfl rfl (by kernel_rfl) (by kernel_rfl) (by kernel_rfl) (p_move rfl) ?_
      refine d_take 1 rfl rfl (by kernel_rfl) (by kernel_rfl) (by kernel_rfl) (p_move rfl) ?_
      obtain ⟨z3, hz4, b5⟩ := at_get (xs := a) (n := (m : Int)) (by omega) (by omega)
      refine d_take 2 rfl rfl (by kernel_rfl) (by kernel_rfl) (by kernel_rfl) (p_index (by kernel_rfl) rfl rfl b5 hz4) ?_
      refine d_take 3 rfl rfl (by kernel_rfl) (by kernel_rfl) (by kernel_rfl) (p_load1 (by kernel_rfl) rfl rfl) ?_
      refine d_take 4 rfl rfl (by kernel_rfl) (by kernel_rfl) (by kernel_rfl) (p_move rfl) ?_
      refine d_take 5 rfl rfl (by kernel_rfl) (by kernel_rfl) (by kernel_rfl) (p_move rfl) ?_
      obtain ⟨z6, hz7, b8⟩ := at_get (xs := b) (n := (m : Int)) (by omega) (by omega)
      refine d_take 6 rfl rfl (by kernel_rfl) (by kernel_rfl) (by kernel_rfl) (p_index (by kernel_rfl) rfl rfl b8 hz7) ?_
      refine d_take 7 rfl rfl (by kernel_rfl) (by kernel_rfl) (by kernel_rfl) (p_load1 (by kernel_rfl) rfl rfl) ?_
      refine d_take 8 rfl rfl (by kernel_rfl) (by kernel_rfl) (by kernel_rfl) (p_bin rfl rfl rfl) ?_
      refine d_end (by kernel_rfl) ?_
      refine t_cond rfl (fun h9 => ?_) (fun h9 => ?_)
      ·
        have h9' := of_decide_eq_true h9
        refine t_seq ?_
        refine t_region ?_
        refine r_op (o_assign rfl rfl) ?_
        refine r_end ?_
        refine t_ret Tryz.func14 (.tmp rfl .nil) rfl fun E S w u hI hd => ?_
        refine post_mk hI hd ?_ trivial rfl rfl rfl <;> clear hI hd <;> (try clear ih0)
        all_goals (have := ne_at (a := a) (b := b) (by assumption) (by assumption) (by assumption); simp_all)
      ·
        have h9' := of_decide_eq_false h9
        refine t_skip ?_
        refine t_endblock ?_
        refine t_region ?_
        refine r_op (o_move rfl rfl) ?_
        refine r_op (o_bin rfl rfl rfl rfl) ?_
        refine r_op (o_assign rfl rfl) ?_
        refine r_end ?_
        refine t_le ?_ (ih0 (m + 1) (by (try dsimp only); omega) (by (try dsimp only); exact ⟨by omega, i2, take_same i3 (same_at (by assumption) (by assumption) (by omega))⟩))
        exact ⟨⟨rfl, ⟨rfl, ⟨(eqI (wr64 (by omega) (by omega))), trivial⟩⟩⟩, trivial, rfl⟩
    ·
      have h2' := of_decide_eq_false h2
      refine t_exit rfl ?_
      refine t_seq ?_
      refine t_region ?_
      refine r_op (o_assign rfl rfl) ?_
      refine r_end ?_
      refine t_ret Tryz.func14 (.tmp rfl .nil) rfl fun E S w u hI hd => ?_
      refine post_mk hI hd ?_ trivial rfl rfl rfl <;> clear hI hd <;> (try clear ih0)
      all_goals ((obtain rfl : m = a.length := by omega); rw [List.take_length, i2, List.take_length] at i3; simp [i3])
def Tryz.laysI_ren : Go.Shelf.Ren := ⟨fun | 171 => 140 | 243 => 188 | 246 => 226 | 283 => 259 | 284 => 260 | 285 => 261 | 286 => 262 | 129 => 258 | 317 => 285 | 318 => 286 | 319 => 287 | 320 => 288 | 337 => 296 | 338 => 297 | n => n, fun | 3 => 3 | 9 => 9 | 2 => 2 | 4 => 4 | 171 => 237 | 0 => 0 | 53 => 236 | 37 => 22 | 5 => 5 | 173 => 239 | 212 => 258 | 51 => 234 | 20 => 20 | 213 => 259 | 46 => 190 | 232 => 275 | 233 => 276 | n => n, fun | 17 => 1 | 18 => 4 | 19 => 5 | n => n⟩
theorem Tryz.laysI : Go.Proofs.Lays.n171 Tryz.prog Tryz.laysI_ren := {
 mixed := by kernel_rfl
 f129 := Tryz.func258.trans (congrArg some (by kernel_rfl))
 f171 := Tryz.func140.trans (congrArg some (by kernel_rfl))
 f243 := Tryz.func188.trans (congrArg some (by kernel_rfl))
 f246 := Tryz.func226.trans (congrArg some (by kernel_rfl))
 f283 := Tryz.func259.trans (congrArg some (by kernel_rfl))
 f284 := Tryz.func260.trans (congrArg some (by kernel_rfl))
 f285 := Tryz.func261.trans (congrArg some (by kernel_rfl))
 f286 := Tryz.func262.trans (congrArg some (by kernel_rfl))
 f317 := Tryz.func285.trans (congrArg some (by kernel_rfl))
 f318 := Tryz.func286.trans (congrArg some (by kernel_rfl))
 f319 := Tryz.func287.trans (congrArg some (by kernel_rfl))
 f320 := Tryz.func288.trans (congrArg some (by kernel_rfl))
 f337 := Tryz.func296.trans (congrArg some (by kernel_rfl))
 f338 := Tryz.func297.trans (congrArg some (by kernel_rfl))
 t0 := Tryz.underlying0
 a0 := Tryz.isAgg0
 z0 := Tryz.sizeOf0
 v0 := Tryz.zeroValue0
 t2 := Tryz.underlying2
 a2 := Tryz.isAgg2
 z2 := Tryz.sizeOf2
 v2 := Tryz.zeroValue2
 t3 := Tryz.underlying3
 a3 := Tryz.isAgg3
 z3 := Tryz.sizeOf3
 v3 := Tryz.zeroValue3
 t4 := Tryz.underlying4
 a4 := Tryz.isAgg4
 z4 := Tryz.sizeOf4
 v4 := Tryz.zeroValue4
 t5 := Tryz.underlying5
 a5 := Tryz.isAgg5
 z5 := Tryz.sizeOf5
 v5 := Tryz.zeroValue5
 t9 := Tryz.underlying9
 a9 := Tryz.isAgg9
 z9 := Tryz.sizeOf9
 v9 := Tryz.zeroValue9
 t20 := Tryz.underlying20
 a20 := Tryz.isAgg20
 z20 := Tryz.sizeOf20
 v20 := Tryz.zeroValue20
 t37 := Tryz.underlying22
 a37 := Tryz.isAgg22
 z37 := Tryz.sizeOf22
 v37 := Tryz.zeroValue22
 t46 := Tryz.underlying190
 a46 := Tryz.isAgg190
 z46 := Tryz.sizeOf190
 v46 := Tryz.zeroValue190
 t51 := Tryz.underlying234
 a51 := Tryz.isAgg234
 z51 := Tryz.sizeOf234
 v51 := Tryz.zeroValue234
 t53 := Tryz.underlying236
 a53 := Tryz.isAgg236
 z53 := Tryz.sizeOf236
 v53 := Tryz.zeroValue236
 t171 := Tryz.underlying237
 a171 := Tryz.isAgg237
 z171 := Tryz.sizeOf237
 v171 := Tryz.zeroValue237
 t173 := Tryz.underlying239
 a173 := Tryz.isAgg239
 z173 := Tryz.sizeOf239
 v173 := Tryz.zeroValue239
 t212 := Tryz.underlying258
 a212 := Tryz.isAgg258
 z212 := Tryz.sizeOf258
 v212 := Tryz.zeroValue258
 t213 := Tryz.underlying259
 a213 := Tryz.isAgg259
 z213 := Tryz.sizeOf259
 t232 := Tryz.underlying275
 a232 := Tryz.isAgg275
 z232 := Tryz.sizeOf275
 v232 := Tryz.zeroValue275
 t233 := Tryz.underlying276
 a233 := Tryz.isAgg276
 z233 := Tryz.sizeOf276
 v233 := Tryz.zeroValue276
 g17 := by kernel_rfl
 g18 := by kernel_rfl
 g19 := by kernel_rfl }
set_option maxHeartbeats 1000000 in
set_option maxRecDepth 10000 in
theorem c_strconv_Itoa (i : Int) (hi : 0 ≤ i ∧ i < 100) : Pu Tryz.prog 140 [.c (.t none (.v (.int .i64 (i))))] [] 0 (.c (.t none (.v (.string (mkS (fmtN i)))))) := by
  exact (fmtN_dec (n := i) hi.1) ▸ itoa_pu Tryz.laysI i hi
set_option maxHeartbeats 1000000 in
set_option maxRecDepth 10000 in
theorem c_impl_FormatInt (i : Int) (hi : 0 ≤ i ∧ i < 100) : Pu Tryz.prog 73 [.c (.t none (.v (.int .i64 (i))))] [] 0 (.c (.t none (.v (.string (mkS (fmtN i)))))) := by
  refine pu_enter Tryz.func73 rfl (Nat.le_of_ble_eq_true rfl) fun w S => ?_
  refine t_seq ?_
  refine t_region ?_
  refine r_op (o_assign rfl rfl) ?_
  refine r_end ?_
  refine t_seq ?_
  refine t_region ?_
  refine r_op (o_move rfl rfl) ?_
  refine r_op (o_call 0 0 false (Go.Proofs.enters_of Tryz.func140 (by kernel_rfl) rfl) (c_strconv_Itoa (i) (by omega)) rfl (.cons rfl (.c .t0) .nil) rfl rfl rfl) ?_
  refine r_op (o_assign rfl rfl) ?_
  refine r_end ?_
  refine t_ret Tryz.func73 (.tmp rfl .nil) rfl fun E S w u hI hd => ?_
  refine post_mk hI hd ?_ trivial rfl rfl rfl <;> clear hI hd
  all_goals (rfl)
set_option maxHeartbeats 1000000 in
set_option maxRecDepth 10000 in
theorem c_impl_FormatPosition (rs : Rels) (p : Int) (hrs : rs.length ≤ 4611686018427387904) (hp : okI p) : Pu Tryz.prog 47 [.c (.t none (.sl 3 (enS3 encS encI encB) (rs))), .c (.t none (.v (.int .i64 (p))))] [] 0 (.c (.t none (.v (.string (mkS (posT rs p)))))) := by
  refine pu_enter Tryz.func47 rfl (Nat.le_of_ble_eq_true rfl) fun w S => ?_
  have hp1 := hp.1; have hp2 := hp.2; have cb := cnt_bnd rs; have wc : IntKind.i64.wrap (cntP rs - 1) = cntP rs - 1 := wr64 (by omega) (by omega)
  refine t_seq ?_
  refine t_region ?_
  refine r_op (o_assign rfl rfl) ?_
  refine r_end ?_
  refine t_seq ?_
  refine t_seq ?_
  refine t_region ?_
  refine r_op (o_move rfl rfl) ?_
  refine r_op (o_move rfl rfl) ?_
  refine r_op (o_call 0 0 false (Go.Proofs.enters_of Tryz.func21 (by kernel_rfl) rfl) (c_impl_PositionCount (rs) (by omega)) rfl (.cons rfl (.c .t0) .nil) rfl rfl rfl) ?_
  refine r_op (o_bin rfl rfl rfl rfl) ?_
  refine r_op (o_call 0 0 false (Go.Proofs.enters_of Tryz.func56 (by kernel_rfl) rfl) (c_impl_within (p) (0) (IntKind.i64.wrap ((cntP (rs)) - 1))) rfl (.cons rfl (.c .t0) (.cons rfl (.c .t0) (.cons rfl (.c .t0) .nil))) rfl rfl rfl) ?_
  refine r_op (o_not rfl rfl) ?_
  refine r_end ?_
  refine t_cond rfl (fun h1 => ?_) (fun h1 => ?_)
  ·
    have h1' := of_decide_eq_false (bnt h1)
    refine t_seq ?_
    refine t_region ?_
    refine r_op (o_assign rfl rfl) ?_
    refine r_end ?_
    refine t_ret Tryz.func47 (.tmp rfl .nil) rfl fun E S w u hI hd => ?_
    refine post_mk hI hd ?_ trivial rfl rfl rfl <;> clear hI hd <;> (try clear ih0)
    all_goals (refine scS ?_; (exact posT_no (by omega)))
  ·
    have h1' := of_decide_eq_true (bnf h1)
    refine t_skip ?_
    refine t_seq ?_
    refine t_region ?_
    refine r_op (o_assign rfl rfl) ?_
    refine r_end ?_
    refine t_seq ?_
    refine t_block ?_
    refine t_loopL (fun (m, q) => ⟨[(0, some (.c (.t none (.sl 3 (enS3 encS encI encB) (rs))))), (1, some (.c (.t none (.v (.int .i64 (q)))))), (4, some (.c (.t none (.v (.string (mkS (([] : List UInt8)))))))), (5, some (.c (.t none (.v (.int .i64 ((m : Int)))))))], [], 0⟩ : Nat × Int → St) (fun (m, q) => m ≤ rs.length ∧ 0 ≤ q ∧ p = sumA (rs.take m) + q) (fun (m, q) => rs.length - m) (0, p) ⟨⟨rfl, ⟨rfl, ⟨rfl, ⟨rfl, trivial⟩⟩⟩⟩, trivial, rfl⟩ (by exact ⟨Nat.zero_le _, by omega, by unfold sumA; simp⟩) ?_
    rintro ⟨m, q⟩ hI ih0
    try dsimp only at hI ih0
    obtain ⟨i1, i2, i3⟩ := hI; have pl := pos_lt (rs := rs) (m := m) (by omega) i3 i2; have pr := rels_ok pl.1; have sb := sumA_bnd pl.1 m
    refine t_seq ?_
    refine t_seq ?_
    refine t_region ?_
    refine r_op (o_move rfl rfl) ?_
    refine r_op (o_move rfl rfl) ?_
    refine r_op (o_move rfl rfl) ?_
    obtain ⟨z2, hz3, b4⟩ := at_get (xs := rs) (n := (m : Int)) (by omega) (by omega)
    refine r_op (o_index rfl (by kernel_rfl) rfl rfl b4 hz3) ?_
    refine r_op (o_field rfl (off := 1) (by kernel_rfl) rfl) ?_
    refine r_op (o_load1 rfl (by kernel_rfl) rfl rfl) ?_
    refine r_op (o_bin rfl rfl rfl rfl) ?_
    refine r_end ?_
    refine t_cond rfl (fun h5 => ?_) (fun h5 => ?_)
    ·
      have h5' := of_decide_eq_true h5
      refine t_skip ?_
      refine t_block ?_
      refine t_seq ?_
      refine t_region ?_
      refine r_op (o_move rfl rfl) ?_
      refine r_op (o_move rfl rfl) ?_
      refine r_op (o_move rfl rfl) ?_
      refine r_op (o_index rfl (by kernel_rfl) rfl rfl b4 hz3) ?_
      refine r_op (o_field rfl (off := 1) (by kernel_rfl) rfl) ?_
      refine r_op (o_load1 rfl (by kernel_rfl) rfl rfl) ?_
      refine r_op (o_bin rfl rfl rfl rfl) ?_
      refine r_op (o_assign rfl rfl) ?_
      refine r_end ?_
      refine t_region ?_
      refine r_op (o_move rfl rfl) ?_
      refine r_op (o_bin rfl rfl rfl rfl) ?_
      refine r_op (o_assign rfl rfl) ?_
      refine r_end ?_
      refine t_endblock ?_
      have ra := pr.2 _ (List.mem_of_getElem? hz3); have wq : IntKind.i64.wrap (q - z2.2.1) = q - z2.2.1 := wr64 (by omega) (by omega)
      refine t_le ?_ (ih0 (m + 1, q - z2.2.1) (by (try dsimp only); omega) (by (try dsimp only); exact ⟨by omega, by omega, by have e := sumA_step hz3; rw [Int.toNat_natCast] at e; omega⟩))
      exact ⟨⟨rfl, ⟨(eqI (by omega)), ⟨rfl, ⟨(eqI (wr64 (by omega) (by omega))), trivial⟩⟩⟩⟩, trivial, rfl⟩
    ·
      have h5' := of_decide_eq_false h5
      refine t_exit rfl ?_
      refine t_seq ?_
      refine t_draw (fun _ => true) (by kernel_rfl) ?_
      refine d_take 0 rfl rfl (by kernel_rfl) (by kernel_rfl) (by kernel_rfl) (p_move rfl) ?_
      refine d_take 1 rfl rfl (by kernel_rfl) (by kernel_rfl) (by kernel_rfl) (p_move rfl) ?_
      refine d_take 2 rfl rfl (by kernel_rfl) (by kernel_rfl) (by kernel_rfl) (p_index (by kernel_rfl) rfl rfl b4 hz3) ?_
      refine d_take 3 rfl rfl (by kernel_rfl) (by kernel_rfl) (by kernel_rfl) (p_field (off := 0) (by kernel_rfl) rfl) ?_
      refine d_take 4 rfl rfl (by kernel_rfl) (by kernel_rfl) (by kernel_rfl) (p_load1 (by kernel_rfl) rfl rfl) ?_
      refine d_take 5 rfl rfl (by kernel_rfl) (by kernel_rfl) (by kernel_rfl) (p_move rfl) ?_
      refine d_only 6 rfl (by kernel_rfl) rfl (o_call 0 0 false (Go.Proofs.enters_of Tryz.func73 (by kernel_rfl) rfl) (c_impl_FormatInt (q) (by omega)) rfl (.cons rfl (.c .t0) .nil) rfl rfl rfl) ?_
      refine d_take 7 rfl rfl (by kernel_rfl) (by kernel_rfl) (by kernel_rfl) (p_cat rfl rfl (by (have n1 := name_len pl.1 (by assumption); have n2 := fmtN_len (n := q) (by omega); omega))) ?_
      refine d_take 8 rfl rfl (by kernel_rfl) (by kernel_rfl) (by kernel_rfl) (p_assign rfl) ?_
      refine d_end (by kernel_rfl) ?_
      refine t_ret Tryz.func47 (.tmp rfl .nil) rfl fun E S w u hI hd => ?_
      refine post_mk hI hd ?_ trivial rfl rfl rfl <;> clear hI hd <;> (try clear ih0)
      all_goals (refine scS ?_; (exact posT_go (by omega) i3 i2 (by assumption) (by omega)))
set_option maxHeartbeats 1000000 in
set_option maxRecDepth 10000 in
theorem c_impl_FormatTermination (rs : Rels) (ds : List Dep) (hrs : rs.length ≤ 4611686018427387904) (hds : szS (fun (x : (List (Int × (List (Int)))) × (List (Int × (List (Int)))) × Bool × Int × Int) => (szS (fun (x : Int × (List (Int))) => (x.2).length) (x.1)) + (szS (fun (x : Int × (List (Int))) => (x.2).length) (x.2.1))) ds ≤ 1048576) : Pu Tryz.prog 15 [.c (.t none (.sl 3 (enS3 encS encI encB) (rs))), .c (.t none (.sl 5 (enS5 (enSl 2 (enS2 encI (enSl 1 encI))) (enSl 2 (enS2 encI (enSl 1 encI))) encB encI encI) (ds)))] [] 0 (.c (.t none (.v (.string (mkS (fmtW rs ds)))))) := by
  refine pu_enter Tryz.func15 rfl (Nat.le_of_ble_eq_true rfl) fun w S => ?_
  have gl := sz_len (f := (fun (x : (List (Int × (List (Int)))) × (List (Int × (List (Int)))) × Bool × Int × Int) => (szS (fun (x : Int × (List (Int))) => (x.2).length) (x.1)) + (szS (fun (x : Int × (List (Int))) => (x.2).length) (x.2.1)))) (l := ds); have si := @spcE_in rs ds; have q1 := posT_len rs (spcE rs ds).1; have q2 := posT_len rs (spcE rs ds).2.1
  refine t_seq ?_
  refine t_region ?_
  refine r_op (o_assign rfl rfl) ?_
  refine r_end ?_
  refine t_seq ?_
  refine t_seq ?_
  refine t_region ?_
  refine r_op (o_move rfl rfl) ?_
  refine r_op (o_move rfl rfl) ?_
  refine r_op (o_call 0 0 false (Go.Proofs.enters_of Tryz.func41 (by kernel_rfl) rfl) (c_impl_AreValidDependencies (rs) (ds) (by omega) (by omega)) rfl (.cons rfl (.c .t0) (.cons rfl (.c .t0) .nil)) rfl rfl rfl) ?_
  refine r_op (o_not rfl rfl) ?_
  refine r_end ?_
  refine t_cond rfl (fun h1 => ?_) (fun h1 => ?_)
  ·
    have h1' := (bnt h1)
    refine t_seq ?_
    refine t_region ?_
    refine r_op (o_assign rfl rfl) ?_
    refine r_end ?_
    refine t_ret Tryz.func15 (.tmp rfl .nil) rfl fun E S w u hI hd => ?_
    refine post_mk hI hd ?_ trivial rfl rfl rfl <;> clear hI hd
    all_goals (refine scS ?_; (exact fmtW_no (by assumption)))
  ·
    have h1' := (bnf h1)
    refine t_skip ?_
    refine t_seq ?_
    refine t_region ?_
    refine r_op (o_move rfl rfl) ?_
    refine r_op (o_move rfl rfl) ?_
    refine r_op (o_call 0 0 false (Go.Proofs.enters_of Tryz.func9 (by kernel_rfl) rfl) (c_impl_SpecialCycleEdge (rs) (ds) (by omega) (by omega)) rfl (.cons rfl (.c .t0) (.cons rfl (.c .t0) .nil)) rfl rfl rfl) ?_
    refine r_op (o_move rfl rfl) ?_
    refine r_op (o_extract rfl rfl rfl rfl) ?_
    refine r_op (o_extract rfl rfl rfl rfl) ?_
    refine r_op (o_alloc 0 (zs := [.int .i64 (0), .int .i64 (0), .bool (false)]) rfl rfl (by kernel_rfl) rfl) ?_
    refine r_op (o_storeb (n := 3) (by kernel_rfl) rfl rfl rfl rfl rfl rfl) ?_
    refine r_op (o_assign rfl rfl) ?_
    refine r_end ?_
    refine t_seq ?_
    refine t_seq ?_
    refine t_region ?_
    refine r_op (o_move rfl rfl) ?_
    refine r_op (o_not rfl rfl) ?_
    refine r_end ?_
    refine t_cond rfl (fun h2 => ?_) (fun h2 => ?_)
    ·
      have h2' := (bnt h2)
      refine t_seq ?_
      refine t_region ?_
      refine r_op (o_assign rfl rfl) ?_
      refine r_end ?_
      refine t_ret Tryz.func15 (.tmp rfl .nil) rfl fun E S w u hI hd => ?_
      refine post_mk hI hd ?_ trivial rfl rfl rfl <;> clear hI hd
      all_goals (refine scS ?_; (exact fmtW_ok (by assumption) (by assumption)))
    ·
      have h2' := (bnf h2)
      refine t_skip ?_
      refine t_seq ?_
      refine t_draw (fun _ => true) (by kernel_rfl) ?_
      refine d_take 0 rfl rfl (by kernel_rfl) (by kernel_rfl) (by kernel_rfl) (p_move rfl) ?_
      refine d_take 1 rfl rfl (by kernel_rfl) (by kernel_rfl) (by kernel_rfl) (p_fieldb (off := 0) (by kernel_rfl) rfl) ?_
      refine d_take 2 rfl rfl (by kernel_rfl) (by kernel_rfl) (by kernel_rfl) (p_load1b (by kernel_rfl) rfl rfl rfl) ?_
      refine d_take 5 rfl rfl (by kernel_rfl) (by kernel_rfl) (by kernel_rfl) (p_move rfl) ?_
      refine d_take 6 rfl rfl (by kernel_rfl) (by kernel_rfl) (by kernel_rfl) (p_fieldb (off := 1) (by kernel_rfl) rfl) ?_
      refine d_take 7 rfl rfl (by kernel_rfl) (by kernel_rfl) (by kernel_rfl) (p_load1b (by kernel_rfl) rfl rfl rfl) ?_
      refine d_only 3 rfl (by kernel_rfl) rfl (o_call 1 1 false (Go.Proofs.enters_of Tryz.func47 (by kernel_rfl) rfl) (c_impl_FormatPosition (rs) ((spcE (rs) (ds)).1) (by omega) (by (unfold okI; omega))) rfl (.cons rfl (.c .t0) (.cons rfl (.c .t0) .nil)) rfl rfl rfl) ?_
      refine d_take 4 rfl rfl (by kernel_rfl) (by kernel_rfl) (by kernel_rfl) (p_cat rfl rfl (by (simp only [List.length_append, List.length_cons, List.length_nil]; omega))) ?_
      refine d_only 8 rfl (by kernel_rfl) rfl (o_call 1 1 false (Go.Proofs.enters_of Tryz.func47 (by kernel_rfl) rfl) (c_impl_FormatPosition (rs) ((spcE (rs) (ds)).2.1) (by omega) (by (unfold okI; omega))) rfl (.cons rfl (.c .t0) (.cons rfl (.c .t0) .nil)) rfl rfl rfl) ?_
      refine d_take 9 rfl rfl (by kernel_rfl) (by kernel_rfl) (by kernel_rfl) (p_cat rfl rfl (by (simp only [List.length_append, List.length_cons, List.length_nil]; omega))) ?_
      refine d_take 10 rfl rfl (by kernel_rfl) (by kernel_rfl) (by kernel_rfl) (p_assign rfl) ?_
      refine d_end (by kernel_rfl) ?_
      refine t_ret Tryz.func15 (.tmp rfl .nil) rfl fun E S w u hI hd => ?_
      refine post_mk hI hd ?_ trivial rfl rfl rfl <;> clear hI hd
      all_goals (refine scS ?_; (exact fmtW_bad (by assumption) (by assumption)))
set_option maxHeartbeats 1000000 in
set_option maxRecDepth 10000 in
theorem c_spec_FormatInt (k : Int) (hk : 0 ≤ k) (hk2 : k < 4611686018427387904) : Pu Tryz.prog 75 [.c (.t none (.v (.int .i64 (k))))] [] 0 (.c (.t none (.v (.string (mkS (fmtN k)))))) := by
  refine pu_enter Tryz.func75 rfl (Nat.le_of_ble_eq_true rfl) fun w S => ?_
  refine t_seq ?_
  refine t_region ?_
  refine r_op (o_assign rfl rfl) ?_
  refine r_end ?_
  refine t_seq ?_
  refine t_seq ?_
  refine t_region ?_
  refine r_op (o_move rfl rfl) ?_
  refine r_op (o_bin rfl rfl rfl rfl) ?_
  refine r_end ?_
  refine t_cond rfl (fun h1 => ?_) (fun h1 => ?_)
  ·
    have h1' := of_decide_eq_true h1
    refine t_seq ?_
    refine t_region ?_
    refine r_op (o_assign rfl rfl) ?_
    refine r_end ?_
    refine t_ret Tryz.func75 (.tmp rfl .nil) rfl fun E S w u hI hd => ?_
    refine post_mk hI hd ?_ trivial rfl rfl rfl <;> clear hI hd <;> (try clear ih0)
    all_goals (refine scS ?_; unfold fmtN; (rw [if_pos (by assumption)]; done))
  ·
    have h1' := of_decide_eq_false h1
    refine t_skip ?_
    refine t_seq ?_
    refine t_region ?_
    refine r_op (o_assign rfl rfl) ?_
    refine r_end ?_
    refine t_seq ?_
    refine t_region ?_
    refine r_op (o_move rfl rfl) ?_
    refine r_op (o_bin rfl rfl rfl rfl) ?_
    refine r_op (o_assign rfl rfl) ?_
    refine r_end ?_
    refine t_seq ?_
    refine t_block ?_
    refine t_loopL (fun (q, out) => ⟨[(0, some (.c (.t none (.v (.int .i64 ((q : Int))))))), (2, some (.c (.t none (.v (.string (mkS (([] : List UInt8)))))))), (3, some (.c (.t none (.v (.string (mkS (out))))))), (4, some (.c (.t none (.v (.bool (decide (k < 0)))))))], [], 0⟩ : Nat × List UInt8 → St) (fun (q, out) => digs q ++ out = digs k.toNat ∧ (q : Int) ≤ k ∧ out.length + q ≤ k.toNat) (fun (q, out) => q) (k.toNat, []) ⟨⟨(eqI (by omega)), ⟨rfl, ⟨rfl, ⟨rfl, trivial⟩⟩⟩⟩, trivial, rfl⟩ (by exact ⟨List.append_nil _, by omega, by simp⟩) ?_
    rintro ⟨q, out⟩ hI ih0
    try dsimp only at hI ih0
    obtain ⟨i1, i2, i3⟩ := hI
    refine t_seq ?_
    refine t_seq ?_
    refine t_region ?_
    refine r_op (o_move rfl rfl) ?_
    refine r_op (o_bin rfl rfl rfl rfl) ?_
    refine r_end ?_
    refine t_cond rfl (fun h2 => ?_) (fun h2 => ?_)
    ·
      have h2' := of_decide_eq_true h2
      refine t_skip ?_
      refine t_block ?_
      refine t_seq ?_
      refine t_region ?_
      refine r_op (o_move rfl rfl) ?_
      refine r_op (o_binD rfl rfl rfl (rem_lit 10 rfl (by decide))) ?_
      refine r_op (o_assign rfl rfl) ?_
      refine r_end ?_
      refine t_seq ?_
      refine t_seq ?_
      refine t_region ?_
      refine r_op (o_move rfl rfl) ?_
      refine r_op (o_bin rfl rfl rfl rfl) ?_
      refine r_end ?_
      refine t_cond rfl (fun h3 => ?_) (fun h3 => ?_)
      ·
        have h3' := of_decide_eq_true h3
        exfalso; omega
      ·
        have h3' := of_decide_eq_false h3
        refine t_skip ?_
        refine t_seq ?_
        refine t_region ?_
        refine r_op (o_move rfl rfl) ?_
        refine r_op (o_bin rfl rfl rfl rfl) ?_
        refine r_op (o_conv rfl Tryz.underlying3 Tryz.underlying5 rfl) ?_
        refine r_op (o_lit1 0 (e := 5) (sz := 1) (zs := [.int .u8 0]) (enc := encU) (IntKind.u8.wrap (IntKind.i64.wrap (48 + ((q % 10 : Nat) : Int)))) rfl rfl (by kernel_rfl) rfl rfl rfl rfl rfl rfl (.cons .sc .nil)) ?_
        refine r_op (o_convBSo rfl Tryz.underlying22 Tryz.underlying5 Tryz.underlying9 rfl rfl) ?_
        refine r_op (o_move rfl rfl) ?_
        refine r_op (o_cat rfl rfl rfl (by (simp [bytesOf]; omega))) ?_
        refine r_op (o_assign rfl rfl) ?_
        refine r_end ?_
        refine t_region ?_
        refine r_op (o_move rfl rfl) ?_
        refine r_op (o_binD rfl rfl rfl (quo_lit 10 rfl (by decide) (by omega))) ?_
        refine r_op (o_assign rfl rfl) ?_
        refine r_end ?_
        refine t_endblock ?_
        refine t_le ?_ (ih0 (q / 10, (bytesOf ([IntKind.u8.wrap (IntKind.i64.wrap (48 + ((q % 10 : Nat) : Int)))])) ++ out) (by (try dsimp only); omega) (by (try dsimp only); exact ⟨by rw [digit_byte, ← i1, digs_step (q := q) (by omega), List.append_assoc], by omega, by rw [digit_byte]; simp only [List.length_append, List.length_cons, List.length_nil]; omega⟩))
        exact ⟨⟨rfl, ⟨rfl, ⟨rfl, ⟨rfl, trivial⟩⟩⟩⟩, trivial, rfl⟩
    ·
      have h2' := of_decide_eq_false h2
      refine t_exit rfl ?_
      refine t_seq ?_
      refine t_seq ?_
      refine t_region ?_
      refine r_op (o_move rfl rfl) ?_
      refine r_end ?_
      refine t_cond rfl (fun h4 => ?_) (fun h4 => ?_)
      ·
        have h4' := of_decide_eq_true h4
        exfalso; omega
      ·
        have h4' := of_decide_eq_false h4
        refine t_skip ?_
        refine t_seq ?_
        refine t_region ?_
        refine r_op (o_move rfl rfl) ?_
        refine r_op (o_assign rfl rfl) ?_
        refine r_end ?_
        refine t_ret Tryz.func75 (.tmp rfl .nil) rfl fun E S w u hI hd => ?_
        refine post_mk hI hd ?_ trivial rfl rfl rfl <;> clear hI hd <;> (try clear ih0)
        all_goals (refine scS ?_; unfold fmtN; ((obtain rfl : q = 0 := by omega); (have e := i1; simp only [digs, List.nil_append] at e; rw [if_neg (by omega), e])))
set_option maxHeartbeats 1000000 in
set_option maxRecDepth 10000 in
theorem c_spec_FormatPosition (rs : Rels) (p : Int) (hrs : rs.length ≤ 4611686018427387904) (hp : okI p) : Pu Tryz.prog 48 [.c (.t none (.sl 3 (enS3 encS encI encB) (rs))), .c (.t none (.v (.int .i64 (p))))] [] 0 (.c (.t none (.v (.string (mkS (posT rs p)))))) := by
  refine pu_enter Tryz.func48 rfl (Nat.le_of_ble_eq_true rfl) fun w S => ?_
  have hp1 := hp.1; have hp2 := hp.2; have cb := cnt_bnd rs; have wc : IntKind.i64.wrap (cntP rs - 1) = cntP rs - 1 := wr64 (by omega) (by omega)
  refine t_seq ?_
  refine t_region ?_
  refine r_op (o_assign rfl rfl) ?_
  refine r_end ?_
  refine t_seq ?_
  refine t_seq ?_
  refine t_region ?_
  refine r_op (o_assign rfl rfl) ?_
  refine r_end ?_
  refine t_block ?_
  refine t_loopL (fun m => ⟨[(0, some (.c (.t none (.sl 3 (enS3 encS encI encB) (rs))))), (1, some (.c (.t none (.v (.int .i64 (p)))))), (5, some (.c (.t none (.v (.int .i64 ((m : Int)))))))], [], 0⟩ : Nat → St) (fun m => m ≤ rs.length ∧ lowP rs p m 0) (fun m => rs.length - m) 0 ⟨⟨rfl, ⟨rfl, ⟨rfl, trivial⟩⟩⟩, trivial, rfl⟩ (by exact ⟨Nat.zero_le _, low_start⟩) ?_
  rintro m hI ih0
  try dsimp only at hI ih0
  obtain ⟨i1, i2⟩ := hI
  refine t_seq ?_
  refine t_seq ?_
  refine t_region ?_
  refine r_op (o_move rfl rfl) ?_
  refine r_op (o_move rfl rfl) ?_
  refine r_op (o_len rfl rfl rfl) ?_
  refine r_op (o_bin rfl rfl rfl rfl) ?_
  refine r_end ?_
  refine t_cond rfl (fun h1 => ?_) (fun h1 => ?_)
  ·
    have h1' := of_decide_eq_true h1
    refine t_skip ?_
    refine t_seq ?_
    refine t_block ?_
    refine t_seq ?_
    refine t_region ?_
    refine r_op (o_assign rfl rfl) ?_
    refine r_end ?_
    refine t_block ?_
    refine t_loopL (fun j => ⟨[(0, some (.c (.t none (.sl 3 (enS3 encS encI encB) (rs))))), (1, some (.c (.t none (.v (.int .i64 (p)))))), (5, some (.c (.t none (.v (.int .i64 ((m : Int))))))), (6, some (.c (.t none (.v (.int .i64 ((j : Int)))))))], [], 0⟩ : Nat → St) (fun j => j ≤ 3 ∧ lowP rs p m (j : Int)) (fun j => 3 - j) 0 ⟨⟨rfl, ⟨rfl, ⟨rfl, ⟨rfl, trivial⟩⟩⟩⟩, trivial, rfl⟩ (by exact ⟨Nat.zero_le _, i2⟩) ?_
    rintro j hI ih1
    try dsimp only at hI ih1
    obtain ⟨j1, j2⟩ := hI
    refine t_seq ?_
    refine t_seq ?_
    refine t_region ?_
    refine r_op (o_move rfl rfl) ?_
    refine r_op (o_bin rfl rfl rfl rfl) ?_
    refine r_end ?_
    refine t_cond rfl (fun h2 => ?_) (fun h2 => ?_)
    ·
      have h2' := of_decide_eq_true h2
      refine t_skip ?_
      refine t_seq ?_
      refine t_block ?_
      refine t_seq ?_
      refine t_region ?_
      refine r_op (o_move rfl rfl) ?_
      refine r_op (o_bin rfl rfl rfl rfl) ?_
      refine r_op (o_move rfl rfl) ?_
      refine r_guard rfl rfl rfl (fun g3 => ?_) (fun g3 => ?_)
      ·
        have g3' := of_decide_eq_true g3
        refine r_op (o_move rfl rfl) ?_
        refine r_guard rfl rfl rfl (fun _ => ?_) (nc g3)
        refine r_op (o_move rfl rfl) ?_
        refine r_guard rfl rfl rfl (fun _ => ?_) (nc g3)
        refine r_op (o_move rfl rfl) ?_
        refine r_guard rfl rfl rfl (fun _ => ?_) (nc g3)
        refine r_op (o_call 0 0 false (Go.Proofs.enters_of Tryz.func100 (by kernel_rfl) rfl) (c_spec_PositionIndex (rs) ((m : Int)) ((j : Int)) (by omega)) rfl (.cons rfl (.c .t0) (.cons rfl (.c .t0) (.cons rfl (.c .t0) .nil))) rfl rfl rfl) ?_
        refine r_guard rfl rfl rfl (fun _ => ?_) (nc g3)
        refine r_op (o_move rfl rfl) ?_
        refine r_guard rfl rfl rfl (fun _ => ?_) (nc g3)
        refine r_op (o_bin rfl rfl rfl rfl) ?_
        refine r_op (o_pickT rfl rfl g3 rfl) ?_
        refine r_end ?_
        refine t_cond rfl (fun h4 => ?_) (fun h4 => ?_)
        ·
          have h4' := of_decide_eq_true h4
          refine t_seq ?_
          refine t_draw (fun _ => true) (by kernel_rfl) ?_
          refine d_take 0 rfl rfl (by kernel_rfl) (by kernel_rfl) (by kernel_rfl) (p_move rfl) ?_
          refine d_take 1 rfl rfl (by kernel_rfl) (by kernel_rfl) (by kernel_rfl) (p_move rfl) ?_
          obtain ⟨z5, hz6, b7⟩ := at_get (xs := rs) (n := (m : Int)) (by omega) (by omega)
          refine d_take 2 rfl rfl (by kernel_rfl) (by kernel_rfl) (by kernel_rfl) (p_index (by kernel_rfl) rfl rfl b7 hz6) ?_
          refine d_take 3 rfl rfl (by kernel_rfl) (by kernel_rfl) (by kernel_rfl) (p_field (off := 0) (by kernel_rfl) rfl) ?_
          refine d_take 4 rfl rfl (by kernel_rfl) (by kernel_rfl) (by kernel_rfl) (p_load1 (by kernel_rfl) rfl rfl) ?_
          refine d_take 5 rfl rfl (by kernel_rfl) (by kernel_rfl) (by kernel_rfl) (p_move rfl) ?_
          refine d_only 6 rfl (by kernel_rfl) rfl (o_call 0 0 false (Go.Proofs.enters_of Tryz.func75 (by kernel_rfl) rfl) (c_spec_FormatInt ((j : Int)) (by omega) (by omega)) rfl (.cons rfl (.c .t0) .nil) rfl rfl rfl) ?_
          refine d_take 7 rfl rfl (by kernel_rfl) (by kernel_rfl) (by kernel_rfl) (p_cat rfl rfl (by (have n1 := name_len (pos_ok (by assumption) (by omega)) (by assumption); have n2 := fmtN_len (n := (j : Int)) (by omega); omega))) ?_
          refine d_take 8 rfl rfl (by kernel_rfl) (by kernel_rfl) (by kernel_rfl) (p_assign rfl) ?_
          refine d_end (by kernel_rfl) ?_
          refine t_ret Tryz.func48 (.tmp rfl .nil) rfl fun E S w u hI hd => ?_
          refine post_mk hI hd ?_ trivial rfl rfl rfl <;> clear hI hd <;> (try clear ih0) <;> (try clear ih1)
          all_goals (refine scS ?_; (exact low_hit (by omega) (by omega) (by assumption) (by assumption)))
        ·
          have h4' := of_decide_eq_false h4
          refine t_skip ?_
          refine t_endblock ?_
          refine t_region ?_
          refine r_op (o_move rfl rfl) ?_
          refine r_op (o_bin rfl rfl rfl rfl) ?_
          refine r_op (o_assign rfl rfl) ?_
          refine r_end ?_
          refine t_le ?_ (ih1 (j + 1) (by (try dsimp only); omega) (by (try dsimp only); exact ⟨by omega, by (exact low_stepm (by omega) (by omega) (by omega) j2 (by assumption))⟩))
          exact ⟨⟨rfl, ⟨rfl, ⟨rfl, ⟨(eqI (wr64 (by omega) (by omega))), trivial⟩⟩⟩⟩, trivial, rfl⟩
      ·
        have g3' := of_decide_eq_false g3
        refine r_guard rfl rfl rfl (ncf g3) (fun _ => ?_)
        refine r_guard rfl rfl rfl (ncf g3) (fun _ => ?_)
        refine r_guard rfl rfl rfl (ncf g3) (fun _ => ?_)
        refine r_guard rfl rfl rfl (ncf g3) (fun _ => ?_)
        refine r_guard rfl rfl rfl (ncf g3) (fun _ => ?_)
        refine r_op (o_pickF rfl rfl g3 rfl) ?_
        refine r_end ?_
        refine t_cond rfl (ncf rfl) (fun _ => ?_)
        refine t_skip ?_
        refine t_endblock ?_
        refine t_region ?_
        refine r_op (o_move rfl rfl) ?_
        refine r_op (o_bin rfl rfl rfl rfl) ?_
        refine r_op (o_assign rfl rfl) ?_
        refine r_end ?_
        refine t_le ?_ (ih1 (j + 1) (by (try dsimp only); omega) (by (try dsimp only); exact ⟨by omega, by (exact low_neg (by omega))⟩))
        exact ⟨⟨rfl, ⟨rfl, ⟨rfl, ⟨(eqI (wr64 (by omega) (by omega))), trivial⟩⟩⟩⟩, trivial, rfl⟩
    ·
      have h2' := of_decide_eq_false h2
      refine t_exit rfl ?_
      refine t_endblock ?_
      refine t_region ?_
      refine r_op (o_move rfl rfl) ?_
      refine r_op (o_bin rfl rfl rfl rfl) ?_
      refine r_op (o_assign rfl rfl) ?_
      refine r_end ?_
      refine t_le ?_ (ih0 (m + 1) (by (try dsimp only); omega) (by (try dsimp only); exact ⟨by omega, low_nextm (by omega) j2 (by omega) (by omega)⟩))
      exact ⟨⟨rfl, ⟨rfl, ⟨(eqI (wr64 (by omega) (by omega))), trivial⟩⟩⟩, trivial, rfl⟩
  ·
    have h1' := of_decide_eq_false h1
    refine t_exit rfl ?_
    refine t_seq ?_
    refine t_region ?_
    refine r_op (o_assign rfl rfl) ?_
    refine r_end ?_
    refine t_ret Tryz.func48 (.tmp rfl .nil) rfl fun E S w u hI hd => ?_
    refine post_mk hI hd ?_ trivial rfl rfl rfl <;> clear hI hd <;> (try clear ih0) <;> (try clear ih1)
    all_goals (refine scS ?_; (exact low_end i2 (by omega)))
set_option maxHeartbeats 1000000 in
set_option maxRecDepth 10000 in
theorem c_spec_FormatTermination (rs : Rels) (ds : List Dep) (hrs : rs.length ≤ 4611686018427387904) (hds : szS (fun (x : (List (Int × (List (Int)))) × (List (Int × (List (Int)))) × Bool × Int × Int) => (szS (fun (x : Int × (List (Int))) => (x.2).length) (x.1)) + (szS (fun (x : Int × (List (Int))) => (x.2).length) (x.2.1))) ds ≤ 1048576) : Pu Tryz.prog 16 [.c (.t none (.sl 3 (enS3 encS encI encB) (rs))), .c (.t none (.sl 5 (enS5 (enSl 2 (enS2 encI (enSl 1 encI))) (enSl 2 (enS2 encI (enSl 1 encI))) encB encI encI) (ds)))] [] 0 (.c (.t none (.v (.string (mkS (fmtW rs ds)))))) := by
  refine pu_enter Tryz.func16 rfl (Nat.le_of_ble_eq_true rfl) fun w S => ?_
  have gl := sz_len (f := (fun (x : (List (Int × (List (Int)))) × (List (Int × (List (Int)))) × Bool × Int × Int) => (szS (fun (x : Int × (List (Int))) => (x.2).length) (x.1)) + (szS (fun (x : Int × (List (Int))) => (x.2).length) (x.2.1)))) (l := ds); have si := @spcE_in rs ds; have q1 := posT_len rs (spcE rs ds).1; have q2 := posT_len rs (spcE rs ds).2.1
  refine t_seq ?_
  refine t_region ?_
  refine r_op (o_assign rfl rfl) ?_
  refine r_end ?_
  refine t_seq ?_
  refine t_seq ?_
  refine t_region ?_
  refine r_op (o_move rfl rfl) ?_
  refine r_op (o_move rfl rfl) ?_
  refine r_op (o_call 0 0 false (Go.Proofs.enters_of Tryz.func18 (by kernel_rfl) rfl) (c_spec_AreValidDependencies (rs) (ds) (by omega) (by omega)) rfl (.cons rfl (.c .t0) (.cons rfl (.c .t0) .nil)) rfl rfl rfl) ?_
  refine r_op (o_not rfl rfl) ?_
  refine r_end ?_
  refine t_cond rfl (fun h1 => ?_) (fun h1 => ?_)
  ·
    have h1' := (bnt h1)
    refine t_seq ?_
    refine t_region ?_
    refine r_op (o_assign rfl rfl) ?_
    refine r_end ?_
    refine t_ret Tryz.func16 (.tmp rfl .nil) rfl fun E S w u hI hd => ?_
    refine post_mk hI hd ?_ trivial rfl rfl rfl <;> clear hI hd
    all_goals (refine scS ?_; (exact fmtW_no (by assumption)))
  ·
    have h1' := (bnf h1)
    refine t_skip ?_
    refine t_seq ?_
    refine t_region ?_
    refine r_op (o_move rfl rfl) ?_
    refine r_op (o_move rfl rfl) ?_
    refine r_op (o_call 0 0 false (Go.Proofs.enters_of Tryz.func10 (by kernel_rfl) rfl) (c_spec_SpecialCycleEdge (rs) (ds) (by omega) (by omega)) rfl (.cons rfl (.c .t0) (.cons rfl (.c .t0) .nil)) rfl rfl rfl) ?_
    refine r_op (o_move rfl rfl) ?_
    refine r_op (o_extract rfl rfl rfl rfl) ?_
    refine r_op (o_extract rfl rfl rfl rfl) ?_
    refine r_op (o_alloc 0 (zs := [.int .i64 (0), .int .i64 (0), .bool (false)]) rfl rfl (by kernel_rfl) rfl) ?_
    refine r_op (o_storeb (n := 3) (by kernel_rfl) rfl rfl rfl rfl rfl rfl) ?_
    refine r_op (o_assign rfl rfl) ?_
    refine r_end ?_
    refine t_seq ?_
    refine t_seq ?_
    refine t_region ?_
    refine r_op (o_move rfl rfl) ?_
    refine r_op (o_not rfl rfl) ?_
    refine r_end ?_
    refine t_cond rfl (fun h2 => ?_) (fun h2 => ?_)
    ·
      have h2' := (bnt h2)
      refine t_seq ?_
      refine t_region ?_
      refine r_op (o_assign rfl rfl) ?_
      refine r_end ?_
      refine t_ret Tryz.func16 (.tmp rfl .nil) rfl fun E S w u hI hd => ?_
      refine post_mk hI hd ?_ trivial rfl rfl rfl <;> clear hI hd
      all_goals (refine scS ?_; (exact fmtW_ok (by assumption) (by assumption)))
    ·
      have h2' := (bnf h2)
      refine t_skip ?_
      refine t_seq ?_
      refine t_draw (fun _ => true) (by kernel_rfl) ?_
      refine d_take 0 rfl rfl (by kernel_rfl) (by kernel_rfl) (by kernel_rfl) (p_move rfl) ?_
      refine d_take 1 rfl rfl (by kernel_rfl) (by kernel_rfl) (by kernel_rfl) (p_fieldb (off := 0) (by kernel_rfl) rfl) ?_
      refine d_take 2 rfl rfl (by kernel_rfl) (by kernel_rfl) (by kernel_rfl) (p_load1b (by kernel_rfl) rfl rfl rfl) ?_
      refine d_take 5 rfl rfl (by kernel_rfl) (by kernel_rfl) (by kernel_rfl) (p_move rfl) ?_
      refine d_take 6 rfl rfl (by kernel_rfl) (by kernel_rfl) (by kernel_rfl) (p_fieldb (off := 1) (by kernel_rfl) rfl) ?_
      refine d_take 7 rfl rfl (by kernel_rfl) (by kernel_rfl) (by kernel_rfl) (p_load1b (by kernel_rfl) rfl rfl rfl) ?_
      refine d_only 3 rfl (by kernel_rfl) rfl (o_call 1 1 false (Go.Proofs.enters_of Tryz.func48 (by kernel_rfl) rfl) (c_spec_FormatPosition (rs) ((spcE (rs) (ds)).1) (by omega) (by (unfold okI; omega))) rfl (.cons rfl (.c .t0) (.cons rfl (.c .t0) .nil)) rfl rfl rfl) ?_
      refine d_take 4 rfl rfl (by kernel_rfl) (by kernel_rfl) (by kernel_rfl) (p_cat rfl rfl (by (simp only [List.length_append, List.length_cons, List.length_nil]; omega))) ?_
      refine d_only 8 rfl (by kernel_rfl) rfl (o_call 1 1 false (Go.Proofs.enters_of Tryz.func48 (by kernel_rfl) rfl) (c_spec_FormatPosition (rs) ((spcE (rs) (ds)).2.1) (by omega) (by (unfold okI; omega))) rfl (.cons rfl (.c .t0) (.cons rfl (.c .t0) .nil)) rfl rfl rfl) ?_
      refine d_take 9 rfl rfl (by kernel_rfl) (by kernel_rfl) (by kernel_rfl) (p_cat rfl rfl (by (simp only [List.length_append, List.length_cons, List.length_nil]; omega))) ?_
      refine d_take 10 rfl rfl (by kernel_rfl) (by kernel_rfl) (by kernel_rfl) (p_assign rfl) ?_
      refine d_end (by kernel_rfl) ?_
      refine t_ret Tryz.func16 (.tmp rfl .nil) rfl fun E S w u hI hd => ?_
      refine post_mk hI hd ?_ trivial rfl rfl rfl <;> clear hI hd
      all_goals (refine scS ?_; (exact fmtW_bad (by assumption) (by assumption)))
end Go.Eng
