/- FnExactFormatStep answers true at every input, and the input reads as it did. Conditions: none beyond the row's own. -/
import Derived.Test.YtahmpdfnnnibbaaDoorRows
import Derived.Test.YtahmpdfnnnibbaaDoorFnsFnExactFormatStep
import Derived.WalkKit
import Derived.ProofKit
import Derived.OpenShut
import Derived.ShutString
import Derived.ChangeOld
import Derived.Below
import Derived.SizedLaws
import Derived.Carry
import Derived.Test.YtahmpdfnnnibbaaDoorCards
import Derived.Test.YtahmpdfnnnibbaaDoorTie
import Derived.LaidMore
import Derived.Lay
import Derived.SevenTiedAt
import Derived.Stop.Joined
namespace Go.Proofs.YtahmpdfnnnibbaaDoor.fnExactFormatStep
open Go.ChangeShapes Go.WideShapes Go.ChangeAt Go.RowKit Go.Eng
open Go.ChangeMaps (open_string shut_string)
set_option linter.unusedVariables false
set_option maxRecDepth 100000 in
theorem tab_of {W : World} (h : laidMetH Tryd.prog Rows.fnExactFormatStepRow.laid W) : tabX Tryd.prog W := by
  rw [MakeChecks.laidMetH_plain _ _ _ (by kernel_rfl)] at h
  obtain ⟨ps, ⟨g0, t0, cs0, f0, p0, q0, hg0, ht0, hv0, hd0, ⟨g1, t1, cs1, f1, p1, q1, hg1, ht1, hv1, hd1, ⟨g2, t2, cs2, f2, p2, q2, hg2, ht2, hv2, hd2, _, _⟩, _⟩, _⟩, _, _⟩ := h
  obtain rfl := Option.some.inj ((show Tryd.prog.globalNamed "internal/strconv.uint64pow10" = some 1 by kernel_rfl).symm.trans hg2)
  obtain rfl := Option.some.inj ((show (Tryd.prog.globals[1]?).map (·.type) = some 129 by kernel_rfl).symm.trans ht2)
  have e : (Rows.laid_internal_strconv_uint64pow10 : DataW Unit) = Go.Lib.tabData .u64 Go.Lib.pow10Tab := by kernel_rfl
  rw [e] at hd2
  unfold tabX Go.Lib.TabIs
  have := Go.Lib.cells_of_tab (show Tryd.prog.underlying 129 = some (.array 20 112) by kernel_rfl) (show Tryd.prog.underlying 112 = some (.int .u64) by kernel_rfl) (by kernel_rfl) (by kernel_rfl) hd2
  rw [hv2, ← this]
theorem own : ownKnob Tryd.prog.godebug = none := by kernel_rfl
theorem laidOut : laidOutB Tryd.prog = true := by kernel_rfl
set_option maxRecDepth 100000 in
theorem lifted (os : Os) (started : os.Started) (H : Type) (enc : TypeId × Value → H) :
    ReturnsInHanded {} Tryd.checked os 5 .any (fun w args => (Rows.fnExactFormatStepSpec.pre enc Tryd.prog Tryd.f5 Rows.fnExactFormatStepRow.domain false w args ∧ laidMetH Tryd.prog Rows.fnExactFormatStepRow.laid w) ∧ sizedMet enc Tryd.prog Tryd.f5 (OpenSpec.ofChange Rows.fnExactFormatStepSpec) false w args) (Rows.fnExactFormatStepSpec.post enc Tryd.prog Tryd.f5 false true false false) := by
  refine returnsInHanded_of_change_and (C := Tryd.checked) (X := fun w _ => laidMetH Tryd.prog Rows.fnExactFormatStepRow.laid w) (fun _ _ _ hh h => h.of_heap hh) own started (by kernel_rfl) Tryd.func5
    (ChangeSpec.witness_shaped (enc := enc) (C := Tryd.checked) (os := os) (X := fun w _ => laidMetH Tryd.prog Rows.fnExactFormatStepRow.laid w) false (World.laidAll Tryd.prog os Rows.fnExactFormatStepRow.laid) #[.agg #[.int .i64 0, .slice none 0 0]] 8 (World.laidAll_os _ _ _)
      (World.shaped_of_ZipB (by kernel_rfl) (by kernel_rfl)) (by kernel_rfl) (by kernel_rfl) (by kernel_rfl)
      (by rw [MakeChecks.laidMetH_plain _ _ _ (by kernel_rfl)]; exact laidMet_laidAll _ (by kernel_rfl) (by kernel_rfl))) ?_
  intro W base args ds gs before hval0 hW hcnd hsz0 hL0 _
  have hval : ∀ (j : Nat) t v, Tryd.f5.params[j]? = some t → args[j]? = some v → Value.okWide Tryd.prog W .any base t v := hval0
  have hW' := hW
  obtain ⟨p, q, hA0, hV, rfl, hfz, hnd⟩ := hW
  have hA : DataW.TrodAll enc Tryd.prog W 0 (fun _ => true) true Tryd.f5.params.toList args.toList ds p := hA0
  rw [Tryd.params5] at hA hval
  obtain ⟨v0, vs0, d0, ds0, p0, q0, hargs, rfl, rfl, h0, r0⟩ := trodAll_cons hA
  obtain ⟨rfl, rfl, rfl⟩ := trodAll_nil r0
  obtain rfl : args = #[v0] := by cases args; simp_all
  obtain ⟨rfl, rfl⟩ := trodVars_none hV
  have k0 := h0
  have lt0 : ∀ x ∈ p0, x.block < W.heap.size := by obtain ⟨m, hm⟩ := k0; exact DataW.trod_lt m _ _ _ hm
  obtain ⟨x0, cs0, rfl, hl0, K0, ok0⟩ := arg_agg Tryd.underlying33 (op_struct2 Tryd.underlying33 (by kernel_rfl) (by kernel_rfl) (op_int Tryd.underlying3) (op_slice Tryd.underlying31 (by kernel_rfl) (by decide) (op_int Tryd.underlying3))) (hval 0 33 _ rfl rfl) h0
  have hT := tab_of hL0
  clear hA0 hval0 hsz0 hL0
  refine ((c_laws_FnExactFormatStep x0.1 x0.2 ok0.1 ok0.2.1 ok0.2.2) 0 W (fun k => k < W.heap.size) [(.agg cs0.toArray)] hT (fun k h => h) ?_).mono fun e W' ⟨u, E', S', he, hI, hu⟩ => ?_
  · exact (denA_cons (den_cells (c := (Go.Eng.enS2 Go.Eng.encI (Go.Eng.enSl 1 Go.Eng.encI)) x0) hl0 K0) denA_nil)
  have bel := below_kept hI.kept
  have hu : u = .bool true := hu.2.1
  subst he hu
  exact ⟨_, rfl, _, _, _, [], _, [], hW', trodAll_mk1 (shut_bool Tryd.underlying4 _), (trodAll_cons_mk (Below.trod laidOut (by kernel_rfl) (of_decide_eq_true (by kernel_rfl)) k0 bel lt0) trodAll_mk0), rfl, bel.frame _, fun h => by cases h⟩
theorem over : Rows.fnExactFormatStepRow.holds Tryd.pinned (OpenSpec.ofChange Rows.fnExactFormatStepSpec) :=
  OpenClaim.holds_of_wide 5 Tryd.f5 rfl rfl rfl rfl rfl rfl rfl ⟨rfl, rfl, rfl, rfl, rfl⟩ rfl rfl rfl rfl rfl (by kernel_rfl) Tryd.func5 (by kernel_rfl)
    (of_decide_eq_true (by kernel_rfl)) (by unfold Func.isWrapper; first | (rw [if_pos (by decide +kernel)]; kernel_rfl) | (rw [if_neg (by decide +kernel)]; exact ⟨rfl, rfl⟩))
    (fun os started H enc _ => lifted os started H enc)
theorem proved : Rows.FnExactFormatStepCardSaid :=
  Claim7.holds_tied_plain_at .later [] [.data, .data, .data] true (true, "cb237a1c5d27f55a1e852fbd94036d0ee6c83c59d71fc9da6c973921ac130cc6") false over (fun _ h => by cases h) (by kernel_rfl) (fun _ h => by cases h) fnExactFormatStep_row_tie rfl ⟨rfl, rfl⟩ (by kernel_rfl) rfl
    (fun f fn hf hfn => by
      obtain rfl : f = 5 := Option.some.inj ((show Tryd.prog.funcNamed "loop.example/g01919/laws.FnExactFormatStep" = some 5 by kernel_rfl).symm.trans hf) |>.symm
      obtain rfl : fn = Tryd.f5 := (Option.some.inj (Tryd.func5.symm.trans hfn)).symm
      exact ⟨by kernel_rfl, fun j t ht => by
        rw [Tryd.params5] at ht
        have hm : t ∈ [33] := by simpa using Array.mem_of_getElem? ht
        have hall : ([33].all fun u => !Tryd.prog.wantsStandIn u) = true := by kernel_rfl
        exact (show Tryd.prog.wantsStandIn t = false by simpa using List.all_eq_true.1 hall t hm)⟩)
    (by kernel_rfl)
end Go.Proofs.YtahmpdfnnnibbaaDoor.fnExactFormatStep
namespace Go.Proofs.YtahmpdfnnnibbaaDoor
/-- The card, under a short name, for the claim. -/
theorem fnExactFormatStep_holds : Rows.FnExactFormatStepCardSaid := fnExactFormatStep.proved
end Go.Proofs.YtahmpdfnnnibbaaDoor
