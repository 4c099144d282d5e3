/- FnSatisfaction answers true at every input, and the input reads as it did. Conditions: none beyond the row's own. -/
import Derived.Test.YtjjoopbebildfaaGreatRows
import Derived.Test.YtjjoopbebildfaaGreatFnsFnSatisfaction
import Derived.WalkKit
import Derived.ProofKit
import Derived.OpenShut
import Derived.ShutString
import Derived.ChangeOld
import Derived.Below
import Derived.SizedLaws
import Derived.Carry
namespace Go.Proofs.YtjjoopbebildfaaGreat.fnSatisfaction
open Go.ChangeShapes Go.WideShapes Go.ChangeAt Go.RowKit Go.Eng
open Go.ChangeMaps (open_string shut_string)
set_option linter.unusedVariables false
theorem own : ownKnob Tryz.prog.godebug = none := by kernel_rfl
theorem laidOut : laidOutB Tryz.prog = true := by kernel_rfl
set_option maxRecDepth 100000 in
theorem lifted (os : Os) (started : os.Started) (H : Type) (enc : TypeId × Value → H) :
    ReturnsInHanded {} Tryz.checked os 5 .any (Rows.fnSatisfactionSpec.pre6 enc Tryz.prog Tryz.f5 Rows.fnSatisfactionRow.domain false) (Rows.fnSatisfactionSpec.post enc Tryz.prog Tryz.f5 false true false false) := by
  refine returnsInHanded_of_change_sized (C := Tryz.checked) own started (by kernel_rfl) Tryz.func5
    (ChangeSpec.witness6 (enc := enc) (C := Tryz.checked) false ⟨#[], #[.slice none 0 0], []⟩ 8 (by kernel_rfl) (by kernel_rfl) (by kernel_rfl) (by kernel_rfl)) ?_
  intro W base args ds gs before hval0 hW hcnd hsz0 _
  have hval : ∀ (j : Nat) t v, Tryz.f5.params[j]? = some t → args[j]? = some v → Value.okWide Tryz.prog W .any base t v := hval0
  have hW' := hW
  obtain ⟨p, q, hA0, hV, rfl, hfz, hnd⟩ := hW
  have hA : DataW.TrodAll enc Tryz.prog W 0 (fun _ => true) true Tryz.f5.params.toList args.toList ds p := hA0
  rw [Tryz.params5] at hA hval
  obtain ⟨v0, vs0, d0, ds0, p0, q0, hargs, rfl, rfl, h0, r0⟩ := trodAll_cons hA
  obtain ⟨rfl, rfl, rfl⟩ := trodAll_nil r0
  obtain rfl : args = #[v0] := by cases args; simp_all
  obtain ⟨rfl, rfl⟩ := trodVars_none hV
  have k0 := h0
  have lt0 : ∀ x ∈ p0, x.block < W.heap.size := by obtain ⟨m, hm⟩ := k0; exact DataW.trod_lt m _ _ _ hm
  have hc0 : v0.cells.toList = [v0] := by
    obtain ⟨A, n, c, rfl⟩ := okWide_slice Tryz.underlying22 (hval 0 22 _ rfl rfl)
    rfl
  obtain ⟨x0, K0, ok0⟩ := arg_one (op_slice Tryz.underlying22 (by kernel_rfl) (by decide) (op_u8 Tryz.underlying5)) hc0 h0
  clear hA0 hval0 hsz0
  refine ((c_laws_FnSatisfaction x0 ok0.1) 0 W (fun k => k < W.heap.size) [v0] (fun k h => h) ?_).mono fun e W' ⟨u, E', S', he, hI, hu⟩ => ?_
  · exact (denA_cons (show denV _ _ _ (.c (.t none _)) _ from ⟨trivial, K0⟩) denA_nil)
  have bel := below_kept hI.kept
  have hu : u = .bool true := hu.2.1
  subst he hu
  exact ⟨_, rfl, _, _, _, [], _, [], hW', trodAll_mk1 (shut_bool Tryz.underlying4 _), (trodAll_cons_mk (Below.trod laidOut (by kernel_rfl) (of_decide_eq_true (by kernel_rfl)) k0 bel lt0) trodAll_mk0), rfl, bel.frame _, fun h => by cases h⟩
theorem over : Rows.fnSatisfactionRow.holds Tryz.pinned (OpenSpec.ofChange Rows.fnSatisfactionSpec) :=
  OpenClaim.holds_of_wide 5 Tryz.f5 rfl rfl rfl rfl rfl rfl rfl ⟨rfl, rfl, rfl, rfl, rfl⟩ rfl rfl rfl rfl rfl (by kernel_rfl) Tryz.func5 (by kernel_rfl)
    (of_decide_eq_true (by kernel_rfl)) (by unfold Func.isWrapper; first | (rw [if_pos (by decide +kernel)]; kernel_rfl) | (rw [if_neg (by decide +kernel)]; exact ⟨rfl, rfl⟩))
    (fun os started H enc _ => lifted os started H enc)
theorem proved : Rows.FnSatisfactionSaid := over
end Go.Proofs.YtjjoopbebildfaaGreat.fnSatisfaction
namespace Go.Proofs.YtjjoopbebildfaaGreat
/-- The row, under a short name, for the claim. -/
theorem fnSatisfaction_holds : Rows.FnSatisfactionSaid := fnSatisfaction.proved
end Go.Proofs.YtjjoopbebildfaaGreat
