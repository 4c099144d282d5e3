/- FnExactFirstStep answers true at every input, and the input reads as it did. Conditions: none beyond the row's own. -/
import Derived.Test.YthcggkagkihamaaGreatRows
import Derived.Test.YthcggkagkihamaaGreatFnsFnExactFirstStep
import Derived.WalkKit
import Derived.ProofKit
import Derived.OpenShut
import Derived.ShutString
import Derived.ChangeOld
import Derived.Below
import Derived.SizedLaws
import Derived.Carry
namespace Go.Proofs.YthcggkagkihamaaGreat.fnExactFirstStep
open Go.ChangeShapes Go.WideShapes Go.ChangeAt Go.RowKit Go.Eng
open Go.ChangeMaps (open_string shut_string)
set_option linter.unusedVariables false
theorem own : ownKnob Tryz.prog.godebug = none := by kernel_rfl
theorem laidOut : laidOutB Tryz.prog = true := by kernel_rfl
set_option maxRecDepth 100000 in
theorem lifted (os : Os) (started : os.Started) (H : Type) (enc : TypeId × Value → H) :
    ReturnsInHanded {} Tryz.checked os 4 .any (Rows.fnExactFirstStepSpec.pre6 enc Tryz.prog Tryz.f4 Rows.fnExactFirstStepRow.domain false) (Rows.fnExactFirstStepSpec.post enc Tryz.prog Tryz.f4 false true false false) := by
  refine returnsInHanded_of_change_sized (C := Tryz.checked) own started (by kernel_rfl) Tryz.func4
    (ChangeSpec.witness6 (enc := enc) (C := Tryz.checked) false ⟨#[], #[.agg #[.slice none 0 0, .slice none 0 0], .slice none 0 0], []⟩ 8 (by kernel_rfl) (by kernel_rfl) (by kernel_rfl) (by kernel_rfl)) ?_
  intro W base args ds gs before hval0 hW hcnd hsz0 _
  have hval : ∀ (j : Nat) t v, Tryz.f4.params[j]? = some t → args[j]? = some v → Value.okWide Tryz.prog W .any base t v := hval0
  have hW' := hW
  obtain ⟨p, q, hA0, hV, rfl, hfz, hnd⟩ := hW
  have hA : DataW.TrodAll enc Tryz.prog W 0 (fun _ => true) true Tryz.f4.params.toList args.toList ds p := hA0
  rw [Tryz.params4] at hA hval
  obtain ⟨v0, vs0, d0, ds0, p0, q0, hargs, rfl, rfl, h0, r0⟩ := trodAll_cons hA
  obtain ⟨v1, vs1, d1, ds1, p1, q1, rfl, rfl, rfl, h1, r1⟩ := trodAll_cons r0
  obtain ⟨rfl, rfl, rfl⟩ := trodAll_nil r1
  obtain rfl : args = #[v0, v1] := by cases args; simp_all
  obtain ⟨rfl, rfl⟩ := trodVars_none hV
  have k0 := h0
  have lt0 : ∀ x ∈ p0, x.block < W.heap.size := by obtain ⟨m, hm⟩ := k0; exact DataW.trod_lt m _ _ _ hm
  obtain ⟨x0, cs0, rfl, hl0, K0, ok0⟩ := arg_agg Tryz.underlying25 (op_struct2 Tryz.underlying25 (by kernel_rfl) (by kernel_rfl) (op_slice Tryz.underlying22 (by kernel_rfl) (by decide) (op_struct3 Tryz.underlying126 (by kernel_rfl) (by kernel_rfl) (op_string Tryz.underlying9) (op_int Tryz.underlying3) (op_bool Tryz.underlying4))) (op_slice Tryz.underlying23 (by kernel_rfl) (by decide) (op_struct2 Tryz.underlying128 (by kernel_rfl) (by kernel_rfl) (op_int Tryz.underlying3) (op_slice Tryz.underlying29 (by kernel_rfl) (by decide) (op_int Tryz.underlying3))))) (hval 0 25 _ rfl rfl) h0
  have k1 := h1
  have lt1 : ∀ x ∈ p1, x.block < W.heap.size := by obtain ⟨m, hm⟩ := k1; exact DataW.trod_lt m _ _ _ hm
  have hc1 : v1.cells.toList = [v1] := by
    obtain ⟨A, n, c, rfl⟩ := okWide_slice Tryz.underlying51 (hval 1 51 _ rfl rfl)
    rfl
  obtain ⟨x1, K1, ok1⟩ := arg_one (op_slice Tryz.underlying51 (by kernel_rfl) (by decide) (op_struct5 Tryz.underlying28 (by kernel_rfl) (by kernel_rfl) (op_slice Tryz.underlying26 (by kernel_rfl) (by decide) (op_struct2 Tryz.underlying130 (by kernel_rfl) (by kernel_rfl) (op_int Tryz.underlying3) (op_slice Tryz.underlying29 (by kernel_rfl) (by decide) (op_int Tryz.underlying3)))) (op_slice Tryz.underlying26 (by kernel_rfl) (by decide) (op_struct2 Tryz.underlying130 (by kernel_rfl) (by kernel_rfl) (op_int Tryz.underlying3) (op_slice Tryz.underlying29 (by kernel_rfl) (by decide) (op_int Tryz.underlying3)))) (op_bool Tryz.underlying4) (op_int Tryz.underlying3) (op_int Tryz.underlying3))) hc1 h1
  clear hA0 hval0 hsz0
  refine ((c_laws_FnExactFirstStep x0.1 x0.2 x1 ok0.1 ok0.2 ok1) 0 W (fun k => k < W.heap.size) [(.agg cs0.toArray), v1] (fun k h => h) ?_).mono fun e W' ⟨u, E', S', he, hI, hu⟩ => ?_
  · exact (denA_cons (den_cells (c := (Go.Eng.enS2 (Go.Eng.enSl 3 (Go.Eng.enS3 Go.Eng.encS Go.Eng.encI Go.Eng.encB)) (Go.Eng.enSl 2 (Go.Eng.enS2 Go.Eng.encI (Go.Eng.enSl 1 Go.Eng.encI)))) x0) hl0 K0) (denA_cons (show denV _ _ _ (.c (.t none _)) _ from ⟨trivial, K1⟩) denA_nil))
  have bel := below_kept hI.kept
  have hu : u = .bool true := hu.2.1
  subst he hu
  exact ⟨_, rfl, _, _, _, [], _, [], hW', trodAll_mk1 (shut_bool Tryz.underlying4 _), (trodAll_cons_mk (Below.trod laidOut (by kernel_rfl) (of_decide_eq_true (by kernel_rfl)) k0 bel lt0) (trodAll_cons_mk (Below.trod laidOut (by kernel_rfl) (of_decide_eq_true (by kernel_rfl)) k1 bel lt1) trodAll_mk0)), rfl, bel.frame _, fun h => by cases h⟩
theorem over : Rows.fnExactFirstStepRow.holds Tryz.pinned (OpenSpec.ofChange Rows.fnExactFirstStepSpec) :=
  OpenClaim.holds_of_wide 4 Tryz.f4 rfl rfl rfl rfl rfl rfl rfl ⟨rfl, rfl, rfl, rfl, rfl⟩ rfl rfl rfl rfl rfl (by kernel_rfl) Tryz.func4 (by kernel_rfl)
    (of_decide_eq_true (by kernel_rfl)) (by unfold Func.isWrapper; first | (rw [if_pos (by decide +kernel)]; kernel_rfl) | (rw [if_neg (by decide +kernel)]; exact ⟨rfl, rfl⟩))
    (fun os started H enc _ => lifted os started H enc)
theorem proved : Rows.FnExactFirstStepSaid := over
end Go.Proofs.YthcggkagkihamaaGreat.fnExactFirstStep
namespace Go.Proofs.YthcggkagkihamaaGreat
/-- The row, under a short name, for the claim. -/
theorem fnExactFirstStep_holds : Rows.FnExactFirstStepSaid := fnExactFirstStep.proved
end Go.Proofs.YthcggkagkihamaaGreat
