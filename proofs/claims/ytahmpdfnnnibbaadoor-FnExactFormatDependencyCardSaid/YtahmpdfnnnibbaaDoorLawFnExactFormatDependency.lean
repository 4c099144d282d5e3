/- FnExactFormatDependency answers true at every input, and the input reads as it did. Conditions: none beyond the row's own. -/
import Derived.Test.YtahmpdfnnnibbaaDoorRows
import Derived.Test.YtahmpdfnnnibbaaDoorFnsFnExactFormatDependency
import Derived.WalkKit
import Derived.ProofKit
import Derived.OpenShut
import Derived.ShutString
import Derived.ChangeOld
import Derived.Below
import Derived.SizedLaws
import Derived.Carry
import Derived.Test.YtahmpdfnnnibbaaDoorCards
import Derived.Test.YtahmpdfnnnibbaaDoorTie
import Derived.LaidMore
import Derived.Lay
import Derived.SevenTiedAt
import Derived.Stop.Joined
namespace Go.Proofs.YtahmpdfnnnibbaaDoor.fnExactFormatDependency
open Go.ChangeShapes Go.WideShapes Go.ChangeAt Go.RowKit Go.Eng
open Go.ChangeMaps (open_string shut_string)
set_option linter.unusedVariables false
theorem own : ownKnob Tryd.prog.godebug = none := by kernel_rfl
theorem laidOut : laidOutB Tryd.prog = true := by kernel_rfl
set_option maxRecDepth 100000 in
theorem lifted (os : Os) (started : os.Started) (H : Type) (enc : TypeId × Value → H) :
    ReturnsInHanded {} Tryd.checked os 7 .any (fun w args => (Rows.fnExactFormatDependencySpec.pre enc Tryd.prog Tryd.f7 Rows.fnExactFormatDependencyRow.domain false w args ∧ laidMetH Tryd.prog Rows.fnExactFormatDependencyRow.laid w) ∧ sizedMet enc Tryd.prog Tryd.f7 (OpenSpec.ofChange Rows.fnExactFormatDependencySpec) false w args) (Rows.fnExactFormatDependencySpec.post enc Tryd.prog Tryd.f7 false true false false) := by
  refine returnsInHanded_of_change_and (C := Tryd.checked) (X := fun w _ => laidMetH Tryd.prog Rows.fnExactFormatDependencyRow.laid w) (fun _ _ _ hh h => h.of_heap hh) own started (by kernel_rfl) Tryd.func7
    (ChangeSpec.witness_shaped (enc := enc) (C := Tryd.checked) (os := os) (X := fun w _ => laidMetH Tryd.prog Rows.fnExactFormatDependencyRow.laid w) false (World.laidAll Tryd.prog os Rows.fnExactFormatDependencyRow.laid) #[.slice none 0 0, .agg #[.slice none 0 0, .slice none 0 0, .bool false, .int .i64 0, .int .i64 0]] 8 (World.laidAll_os _ _ _)
      (World.shaped_of_ZipB (by kernel_rfl) (by kernel_rfl)) (by kernel_rfl) (by kernel_rfl) (by kernel_rfl)
      (by rw [MakeChecks.laidMetH_plain _ _ _ (by kernel_rfl)]; exact laidMet_laidAll _ (by kernel_rfl) (by kernel_rfl))) ?_
  intro W base args ds gs before hval0 hW hcnd hsz0 hL0 _
  have hval : ∀ (j : Nat) t v, Tryd.f7.params[j]? = some t → args[j]? = some v → Value.okWide Tryd.prog W .any base t v := hval0
  have hW' := hW
  obtain ⟨p, q, hA0, hV, rfl, hfz, hnd⟩ := hW
  have hA : DataW.TrodAll enc Tryd.prog W 0 (fun _ => true) true Tryd.f7.params.toList args.toList ds p := hA0
  rw [Tryd.params7] at hA hval
  obtain ⟨v0, vs0, d0, ds0, p0, q0, hargs, rfl, rfl, h0, r0⟩ := trodAll_cons hA
  obtain ⟨v1, vs1, d1, ds1, p1, q1, rfl, rfl, rfl, h1, r1⟩ := trodAll_cons r0
  obtain ⟨rfl, rfl, rfl⟩ := trodAll_nil r1
  obtain rfl : args = #[v0, v1] := by cases args; simp_all
  obtain ⟨rfl, rfl⟩ := trodVars_none hV
  have k0 := h0
  have lt0 : ∀ x ∈ p0, x.block < W.heap.size := by obtain ⟨m, hm⟩ := k0; exact DataW.trod_lt m _ _ _ hm
  have hc0 : v0.cells.toList = [v0] := by
    obtain ⟨A, n, c, rfl⟩ := okWide_slice Tryd.underlying24 (hval 0 24 _ rfl rfl)
    rfl
  obtain ⟨x0, K0, ok0⟩ := arg_one (op_slice Tryd.underlying24 (by kernel_rfl) (by decide) (op_struct3 Tryd.underlying62 (by kernel_rfl) (by kernel_rfl) (op_string Tryd.underlying9) (op_int Tryd.underlying3) (op_bool Tryd.underlying4))) hc0 h0
  have k1 := h1
  have lt1 : ∀ x ∈ p1, x.block < W.heap.size := by obtain ⟨m, hm⟩ := k1; exact DataW.trod_lt m _ _ _ hm
  obtain ⟨x1, cs1, rfl, hl1, K1, ok1⟩ := arg_agg Tryd.underlying50 (op_struct5 Tryd.underlying50 (by kernel_rfl) (by kernel_rfl) (op_slice Tryd.underlying48 (by kernel_rfl) (by decide) (op_struct2 Tryd.underlying41 (by kernel_rfl) (by kernel_rfl) (op_int Tryd.underlying3) (op_slice Tryd.underlying31 (by kernel_rfl) (by decide) (op_int Tryd.underlying3)))) (op_slice Tryd.underlying48 (by kernel_rfl) (by decide) (op_struct2 Tryd.underlying41 (by kernel_rfl) (by kernel_rfl) (op_int Tryd.underlying3) (op_slice Tryd.underlying31 (by kernel_rfl) (by decide) (op_int Tryd.underlying3)))) (op_bool Tryd.underlying4) (op_int Tryd.underlying3) (op_int Tryd.underlying3)) (hval 1 50 _ rfl rfl) h1
  clear hA0 hval0 hsz0 hL0
  refine ((c_laws_FnExactFormatDependency x0 x1.1 x1.2.1 x1.2.2.1 x1.2.2.2.1 x1.2.2.2.2 ok0 ok1.1 ok1.2.1 ok1.2.2.2.1 ok1.2.2.2.2) 0 W (fun k => k < W.heap.size) [v0, (.agg cs1.toArray)] (fun k h => h) ?_).mono fun e W' ⟨u, E', S', he, hI, hu⟩ => ?_
  · exact (denA_cons (show denV _ _ _ (.c (.t none _)) _ from ⟨trivial, K0⟩) (denA_cons (den_cells (c := (Go.Eng.enS5 (Go.Eng.enSl 2 (Go.Eng.enS2 Go.Eng.encI (Go.Eng.enSl 1 Go.Eng.encI))) (Go.Eng.enSl 2 (Go.Eng.enS2 Go.Eng.encI (Go.Eng.enSl 1 Go.Eng.encI))) Go.Eng.encB Go.Eng.encI Go.Eng.encI) x1) hl1 K1) denA_nil))
  have bel := below_kept hI.kept
  have hu : u = .bool true := hu.2.1
  subst he hu
  exact ⟨_, rfl, _, _, _, [], _, [], hW', trodAll_mk1 (shut_bool Tryd.underlying4 _), (trodAll_cons_mk (Below.trod laidOut (by kernel_rfl) (of_decide_eq_true (by kernel_rfl)) k0 bel lt0) (trodAll_cons_mk (Below.trod laidOut (by kernel_rfl) (of_decide_eq_true (by kernel_rfl)) k1 bel lt1) trodAll_mk0)), rfl, bel.frame _, fun h => by cases h⟩
theorem over : Rows.fnExactFormatDependencyRow.holds Tryd.pinned (OpenSpec.ofChange Rows.fnExactFormatDependencySpec) :=
  OpenClaim.holds_of_wide 7 Tryd.f7 rfl rfl rfl rfl rfl rfl rfl ⟨rfl, rfl, rfl, rfl, rfl⟩ rfl rfl rfl rfl rfl (by kernel_rfl) Tryd.func7 (by kernel_rfl)
    (of_decide_eq_true (by kernel_rfl)) (by unfold Func.isWrapper; first | (rw [if_pos (by decide +kernel)]; kernel_rfl) | (rw [if_neg (by decide +kernel)]; exact ⟨rfl, rfl⟩))
    (fun os started H enc _ => lifted os started H enc)
theorem proved : Rows.FnExactFormatDependencyCardSaid :=
  Claim7.holds_tied_plain_at .later [] [.data, .data, .data] true (true, "cb237a1c5d27f55a1e852fbd94036d0ee6c83c59d71fc9da6c973921ac130cc6") false over (fun _ h => by cases h) (by kernel_rfl) (fun _ h => by cases h) fnExactFormatDependency_row_tie rfl ⟨rfl, rfl⟩ (by kernel_rfl) rfl
    (fun f fn hf hfn => by
      obtain rfl : f = 7 := Option.some.inj ((show Tryd.prog.funcNamed "loop.example/g01919/laws.FnExactFormatDependency" = some 7 by kernel_rfl).symm.trans hf) |>.symm
      obtain rfl : fn = Tryd.f7 := (Option.some.inj (Tryd.func7.symm.trans hfn)).symm
      exact ⟨by kernel_rfl, fun j t ht => by
        rw [Tryd.params7] at ht
        have hm : t ∈ [24, 50] := by simpa using Array.mem_of_getElem? ht
        have hall : ([24, 50].all fun u => !Tryd.prog.wantsStandIn u) = true := by kernel_rfl
        exact (show Tryd.prog.wantsStandIn t = false by simpa using List.all_eq_true.1 hall t hm)⟩)
    (by kernel_rfl)
end Go.Proofs.YtahmpdfnnnibbaaDoor.fnExactFormatDependency
namespace Go.Proofs.YtahmpdfnnnibbaaDoor
/-- The card, under a short name, for the claim. -/
theorem fnExactFormatDependency_holds : Rows.FnExactFormatDependencyCardSaid := fnExactFormatDependency.proved
end Go.Proofs.YtahmpdfnnnibbaaDoor
