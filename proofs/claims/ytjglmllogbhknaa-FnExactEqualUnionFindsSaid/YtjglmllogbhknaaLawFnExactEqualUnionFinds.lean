/- FnExactEqualUnionFinds answers true at every input, and the input reads as it did. Conditions: none beyond the row's own. -/
import Derived.Test.YtjglmllogbhknaaRows
import Derived.Test.YtjglmllogbhknaaPFnExactEqualUnionFindso
import Derived.Test.YtjglmllogbhknaaPureFnExactEqualUnionFinds
import Derived.WalkKit
import Derived.ProofKit
import Derived.OpenShut
import Derived.ShutString
import Derived.ChangeOld
import Derived.Below
import Derived.SizedLaws
import Derived.Carry
namespace Go.Proofs.Ytjglmllogbhknaa.fnExactEqualUnionFinds
open Go.ChangeShapes Go.WideShapes Go.ChangeAt Go.RowKit Go.Proofs.YtjglmllogbhknaaX Go.Proofs.YtjglmllogbhknaaW.PrintWords Go.Proofs.Ytjglmllogbhknaa.PFnExactEqualUnionFinds
open Go.ChangeMaps (open_string shut_string)
set_option linter.unusedVariables false
theorem own : ownKnob Try.prog.godebug = none := by kernel_rfl
theorem laidOut : laidOutB Try.prog = true := by kernel_rfl
set_option maxRecDepth 100000 in
theorem lifted (os : Os) (started : os.Started) (H : Type) (enc : TypeId × Value → H) :
    ReturnsInHanded {} Try.checked os 7 .any (Rows.fnExactEqualUnionFindsSpec.pre6 enc Try.prog Try.f7 Rows.fnExactEqualUnionFindsRow.domain false) (Rows.fnExactEqualUnionFindsSpec.post enc Try.prog Try.f7 false true false false) := by
  refine returnsInHanded_of_change_sized (C := Try.checked) own started (by kernel_rfl) Try.func7
    (ChangeSpec.witness6 (enc := enc) (C := Try.checked) false ⟨#[], #[.agg #[.slice none 0 0], .agg #[.slice none 0 0]], []⟩ 8 (by kernel_rfl) (by kernel_rfl) (by kernel_rfl) (by kernel_rfl)) ?_
  intro W base args ds gs before hval0 hW hcnd hsz0 _
  have hval : ∀ (j : Nat) t v, Try.f7.params[j]? = some t → args[j]? = some v → Value.okWide Try.prog W .any base t v := hval0
  have hW' := hW
  obtain ⟨p, q, hA0, hV, rfl, hfz, hnd⟩ := hW
  have hA : DataW.TrodAll enc Try.prog W 0 (fun _ => true) true Try.f7.params.toList args.toList ds p := hA0
  rw [Try.params7] at hA hval
  obtain ⟨v0, vs0, d0, ds0, p0, q0, hargs, rfl, rfl, h0, r0⟩ := trodAll_cons hA
  obtain ⟨v1, vs1, d1, ds1, p1, q1, rfl, rfl, rfl, h1, r1⟩ := trodAll_cons r0
  obtain ⟨rfl, rfl, rfl⟩ := trodAll_nil r1
  obtain rfl : args = #[v0, v1] := by cases args; simp_all
  obtain ⟨rfl, rfl⟩ := trodVars_none hV
  have k0 := h0
  have lt0 : ∀ x ∈ p0, x.block < W.heap.size := by obtain ⟨m, hm⟩ := k0; exact DataW.trod_lt m _ _ _ hm
  obtain ⟨x0, cs0, rfl, K0, ok0_⟩ := arg_agg Try.underlying37 opens37 (hval 0 37 v0 rfl rfl) h0
  obtain ⟨A0_0, c0_0, e0, hc0_0, hr0_0⟩ := k37_open K0
  obtain rfl : cs0 = #[.slice A0_0 x0.f0.length c0_0] := by cases cs0; simp_all
  have k1 := h1
  have lt1 : ∀ x ∈ p1, x.block < W.heap.size := by obtain ⟨m, hm⟩ := k1; exact DataW.trod_lt m _ _ _ hm
  obtain ⟨x1, cs1, rfl, K1, ok1_⟩ := arg_agg Try.underlying37 opens37 (hval 1 37 v1 rfl rfl) h1
  obtain ⟨A1_0, c1_0, e1, hc1_0, hr1_0⟩ := k37_open K1
  obtain rfl : cs1 = #[.slice A1_0 x1.f0.length c1_0] := by cases cs1; simp_all
  clear hA0 hval0 hsz0
  obtain ⟨k, h⟩ := Pure.FnExactEqualUnionFinds x0.f0 x1.f0 ok0_ ok1_
  refine (laws_FnExactEqualUnionFinds.calls k A0_0 c0_0 x0.f0 A1_0 c1_0 x1.f0 true W rfl hr0_0 hc0_0 hr1_0 hc1_0 h).mono fun e W' ⟨he, bel⟩ => ?_
  subst he
  exact ⟨_, rfl, _, _, _, [], _, [], hW', trodAll_mk1 (shut_bool Try.underlying4 _), (trodAll_cons_mk (Below.trod laidOut (by kernel_rfl) (of_decide_eq_true (by kernel_rfl)) k0 bel lt0) (trodAll_cons_mk (Below.trod laidOut (by kernel_rfl) (of_decide_eq_true (by kernel_rfl)) k1 bel lt1) trodAll_mk0)), rfl, bel.frame _, fun h => by cases h⟩
theorem over : Rows.fnExactEqualUnionFindsRow.holds Try.pinned (OpenSpec.ofChange Rows.fnExactEqualUnionFindsSpec) :=
  OpenClaim.holds_of_wide 7 Try.f7 rfl rfl rfl rfl rfl rfl rfl ⟨rfl, rfl, rfl, rfl, rfl⟩ rfl rfl rfl rfl rfl (by kernel_rfl) Try.func7 (by kernel_rfl)
    (of_decide_eq_true (by kernel_rfl)) (by unfold Func.isWrapper; first | (rw [if_pos (by decide +kernel)]; kernel_rfl) | (rw [if_neg (by decide +kernel)]; exact ⟨rfl, rfl⟩))
    (fun os started H enc _ => lifted os started H enc)
theorem proved : Rows.FnExactEqualUnionFindsSaid := over
#print axioms proved
end Go.Proofs.Ytjglmllogbhknaa.fnExactEqualUnionFinds
namespace Go.Proofs.Ytjglmllogbhknaa
/-- The row, under a short name, for the claim. -/
theorem fnExactEqualUnionFinds_holds : Rows.FnExactEqualUnionFindsSaid := fnExactEqualUnionFinds.proved
end Go.Proofs.Ytjglmllogbhknaa
