/- FnExactPositionRank answers true at every input, and the input reads as it did. Conditions: none beyond the row's own. -/
import Derived.Test.YtoiidmapkgloeaaRows
import Derived.Test.YtoiidmapkgloeaaFnsFnExactPositionRank
import Derived.WalkKit
import Derived.ProofKit
import Derived.OpenShut
import Derived.ShutString
import Derived.ChangeOld
import Derived.Below
import Derived.SizedLaws
import Derived.Carry
namespace Go.Proofs.Ytoiidmapkgloeaa.fnExactPositionRank
open Go.ChangeShapes Go.WideShapes Go.ChangeAt Go.RowKit Go.Eng
open Go.ChangeMaps (open_string shut_string)
set_option linter.unusedVariables false
theorem own : ownKnob Try.prog.godebug = none := by kernel_rfl
theorem laidOut : laidOutB Try.prog = true := by kernel_rfl
set_option maxRecDepth 100000 in
theorem lifted (os : Os) (started : os.Started) (H : Type) (enc : TypeId × Value → H) :
    ReturnsInHanded {} Try.checked os 3 .any (Rows.fnExactPositionRankSpec.pre6 enc Try.prog Try.f3 Rows.fnExactPositionRankRow.domain false) (Rows.fnExactPositionRankSpec.post enc Try.prog Try.f3 false true false false) := by
  refine returnsInHanded_of_change_sized (C := Try.checked) own started (by kernel_rfl) Try.func3
    (ChangeSpec.witness6 (enc := enc) (C := Try.checked) false ⟨#[], #[.slice none 0 0, .slice none 0 0, .int .i64 0], []⟩ 8 (by kernel_rfl) (by kernel_rfl) (by kernel_rfl) (by kernel_rfl)) ?_
  intro W base args ds gs before hval0 hW hcnd hsz0 _
  have hval : ∀ (j : Nat) t v, Try.f3.params[j]? = some t → args[j]? = some v → Value.okWide Try.prog W .any base t v := hval0
  have hW' := hW
  obtain ⟨p, q, hA0, hV, rfl, hfz, hnd⟩ := hW
  have hA : DataW.TrodAll enc Try.prog W 0 (fun _ => true) true Try.f3.params.toList args.toList ds p := hA0
  rw [Try.params3] at hA hval
  obtain ⟨v0, vs0, d0, ds0, p0, q0, hargs, rfl, rfl, h0, r0⟩ := trodAll_cons hA
  obtain ⟨v1, vs1, d1, ds1, p1, q1, rfl, rfl, rfl, h1, r1⟩ := trodAll_cons r0
  obtain ⟨v2, vs2, d2, ds2, p2, q2, rfl, rfl, rfl, h2, r2⟩ := trodAll_cons r1
  obtain ⟨rfl, rfl, rfl⟩ := trodAll_nil r2
  obtain rfl : args = #[v0, v1, v2] := by cases args; simp_all
  obtain ⟨rfl, rfl⟩ := trodVars_none hV
  have k0 := h0
  have lt0 : ∀ x ∈ p0, x.block < W.heap.size := by obtain ⟨m, hm⟩ := k0; exact DataW.trod_lt m _ _ _ hm
  have hc0 : v0.cells.toList = [v0] := by
    obtain ⟨A, n, c, rfl⟩ := okWide_slice Try.underlying22 (hval 0 22 _ rfl rfl)
    rfl
  obtain ⟨x0, K0, ok0⟩ := arg_one (op_slice Try.underlying22 (by kernel_rfl) (by decide) (op_struct3 Try.underlying36 (by kernel_rfl) (by kernel_rfl) (op_string Try.underlying9) (op_int Try.underlying3) (op_bool Try.underlying4))) hc0 h0
  have k1 := h1
  have lt1 : ∀ x ∈ p1, x.block < W.heap.size := by obtain ⟨m, hm⟩ := k1; exact DataW.trod_lt m _ _ _ hm
  have hc1 : v1.cells.toList = [v1] := by
    obtain ⟨A, n, c, rfl⟩ := okWide_slice Try.underlying23 (hval 1 23 _ rfl rfl)
    rfl
  obtain ⟨x1, K1, ok1⟩ := arg_one (op_slice Try.underlying23 (by kernel_rfl) (by decide) (op_struct5 Try.underlying40 (by kernel_rfl) (by kernel_rfl) (op_slice Try.underlying38 (by kernel_rfl) (by decide) (op_struct2 Try.underlying64 (by kernel_rfl) (by kernel_rfl) (op_int Try.underlying3) (op_slice Try.underlying41 (by kernel_rfl) (by decide) (op_int Try.underlying3)))) (op_slice Try.underlying38 (by kernel_rfl) (by decide) (op_struct2 Try.underlying64 (by kernel_rfl) (by kernel_rfl) (op_int Try.underlying3) (op_slice Try.underlying41 (by kernel_rfl) (by decide) (op_int Try.underlying3)))) (op_bool Try.underlying4) (op_int Try.underlying3) (op_int Try.underlying3))) hc1 h1
  have k2 := h2
  have lt2 : ∀ x ∈ p2, x.block < W.heap.size := by obtain ⟨m, hm⟩ := k2; exact DataW.trod_lt m _ _ _ hm
  have hc2 : v2.cells.toList = [v2] := by
    obtain ⟨n, rfl, _⟩ := okWide_int Try.underlying3 (hval 2 3 _ rfl rfl)
    rfl
  obtain ⟨x2, K2, ok2⟩ := arg_one (op_int Try.underlying3) hc2 h2
  clear hA0 hval0 hsz0
  refine ((c_laws_FnExactPositionRank x0 x1 x2 ok0 ok1 ok2) 0 W (fun k => k < W.heap.size) [v0, v1, v2] (fun k h => h) ?_).mono fun e W' ⟨u, E', S', he, hI, hu⟩ => ?_
  · exact (denA_cons (show denV _ _ _ (.c (.t none _)) _ from ⟨trivial, K0⟩) (denA_cons (show denV _ _ _ (.c (.t none _)) _ from ⟨trivial, K1⟩) (denA_cons (show denV _ _ _ (.c (.t none _)) _ from ⟨trivial, K2⟩) denA_nil)))
  have bel := below_kept hI.kept
  have hu : u = .bool true := hu.2.1
  subst he hu
  exact ⟨_, rfl, _, _, _, [], _, [], hW', trodAll_mk1 (shut_bool Try.underlying4 _), (trodAll_cons_mk (Below.trod laidOut (by kernel_rfl) (of_decide_eq_true (by kernel_rfl)) k0 bel lt0) (trodAll_cons_mk (Below.trod laidOut (by kernel_rfl) (of_decide_eq_true (by kernel_rfl)) k1 bel lt1) (trodAll_cons_mk (Below.trod laidOut (by kernel_rfl) (of_decide_eq_true (by kernel_rfl)) k2 bel lt2) trodAll_mk0))), rfl, bel.frame _, fun h => by cases h⟩
theorem over : Rows.fnExactPositionRankRow.holds Try.pinned (OpenSpec.ofChange Rows.fnExactPositionRankSpec) :=
  OpenClaim.holds_of_wide 3 Try.f3 rfl rfl rfl rfl rfl rfl rfl ⟨rfl, rfl, rfl, rfl, rfl⟩ rfl rfl rfl rfl rfl (by kernel_rfl) Try.func3 (by kernel_rfl)
    (of_decide_eq_true (by kernel_rfl)) (by unfold Func.isWrapper; first | (rw [if_pos (by decide +kernel)]; kernel_rfl) | (rw [if_neg (by decide +kernel)]; exact ⟨rfl, rfl⟩))
    (fun os started H enc _ => lifted os started H enc)
theorem proved : Rows.FnExactPositionRankSaid := over
end Go.Proofs.Ytoiidmapkgloeaa.fnExactPositionRank
namespace Go.Proofs.Ytoiidmapkgloeaa
/-- The row, under a short name, for the claim. -/
theorem fnExactPositionRank_holds : Rows.FnExactPositionRankSaid := fnExactPositionRank.proved
end Go.Proofs.Ytoiidmapkgloeaa
