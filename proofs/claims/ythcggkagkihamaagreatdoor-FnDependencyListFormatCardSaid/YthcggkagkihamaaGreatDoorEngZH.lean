import Derived.Test.YthcggkagkihamaaGreatDoorEngZG
import Derived.Shelf.Strings.Cut
import Derived.Shelf.Strings.Split
import Derived.Shelf.Small.Strs
import Derived.Shelf.Vars
import Derived.Handed
import Derived.SizedLaws
import Derived.ShapedOpen
set_option linter.unusedVariables false
set_option linter.unusedSimpArgs false
namespace Go.Eng
open Go Go.RowKit Go.Proofs
def mxX (g : Nat) (w : World) : Prop := ∃ m : Int, w.cell? ⟨g, 0, none⟩ = some (.int .i64 m)
theorem mx_kept {g : Nat} {w w' : World} (h : Kept (fun _ => False) w w') (ht : mxX g w) : mxX g w' := by
 obtain ⟨m, hm⟩ := ht
 refine ⟨m, ?_⟩
 cases hh : w.heap[g]? with
 | none =>
  unfold World.cell? at hm
  rw [show (⟨g, 0, none⟩ : Addr).block = g from rfl, hh] at hm
  cases hm
 | some o =>
  rw [← hm]
  exact cell_same (h.block g (Array.getElem?_eq_some_iff.1 hh).1 (fun h => h))
theorem two_args {E : Nat → EE} {S : Nat → Prop} {w : World} {a b : AV} {vs : List Value} (h : denA E S w [a, b] vs) : ∃ u v, vs = [u, v] ∧ denV E S w a u ∧ denV E S w b v := by
 obtain ⟨u, e0, d0⟩ := h.2 0 _ rfl
 obtain ⟨v, e1, d1⟩ := h.2 1 _ rfl
 refine ⟨u, v, ?_, d0, d1⟩
 have h1 := h.1
 match vs, h1, e0, e1 with
 | [x, y], _, e0, e1 => cases e0; cases e1; rfl
theorem trivInv {P : Program} {f n : Nat} {w : World} {S : Nat → Prop} (hS : ∀ k, S k → k < w.heap.size) : Inv ⟨P, f, n, w, S, fun _ => False⟩ [] 0 (fun _ => dead) S w :=
 ⟨hS, fun k hk => .inl hk, fun i o h => by simp [alook] at h, fun i j _ h => h.elim, fun i h => h.elim, fun i h => h.elim, Kept.refl _ _⟩
theorem mkS_size (s : List UInt8) : (mkS s).size = s.length := by
 show s.toArray.size = s.length
 simp
theorem cut_pux {P : Program} {ρ : Go.Shelf.Ren} (L : Go.Proofs.Lays.n145 P ρ) (s sep : List UInt8) (hs : s.length < 4294967281) :
  PuX (mxX (ρ.g 1)) P (ρ.f 145) [.c (.t none (.v (.string (mkS s)))), .c (.t none (.v (.string (mkS sep))))] [] 0 (.tup [(false, [.t none (.v (.string (mkS (Lib.cut s sep).1)))]), (false, [.t none (.v (.string (mkS (Lib.cut s sep).2.1)))]), (false, [.t none (.v (.bool (Lib.cut s sep).2.2))])]) := by
 intro n w S vs hX hS hA
 obtain ⟨u, v, rfl, d0, d1⟩ := two_args hA
 obtain ⟨_, rfl, _⟩ := d0
 obtain ⟨_, rfl, _⟩ := d1
 obtain ⟨m, hm⟩ := hX
 refine (Go.Proofs.Any.strings_Cut L (mkS s) (mkS sep) m w (by rw [mkS_size]; exact hs) hm).mono ?_
 rintro e w' ⟨rfl, k, rfl⟩
 refine ⟨_, fun _ => dead, S, rfl, ⟨hS, fun k hk => .inl hk, fun i o h => by simp [alook] at h, fun i j _ h => h.elim, fun i h => h.elim, fun i h => h.elim, ⟨rfl, rfl, rfl, Nat.le_refl _, fun _ _ _ => rfl⟩⟩, ?_⟩
 refine ⟨_, rfl, rfl, fun j b cs hj => ?_⟩
 match j with
 | 0 => cases hj; exact ⟨_, rfl, rfl, fun q c hq => by match q with | 0 => cases hq; exact ⟨_, rfl, trivial, rfl, rfl⟩ | q + 1 => simp at hq⟩
 | 1 => cases hj; exact ⟨_, rfl, rfl, fun q c hq => by match q with | 0 => cases hq; exact ⟨_, rfl, trivial, rfl, rfl⟩ | q + 1 => simp at hq⟩
 | 2 => cases hj; exact ⟨_, rfl, rfl, fun q c hq => by match q with | 0 => cases hq; exact ⟨_, rfl, trivial, rfl, rfl⟩ | q + 1 => simp at hq⟩
 | j + 3 => simp at hj
theorem split_pux {P : Program} {ρ : Go.Shelf.Ren} (L : Go.Proofs.Lays.n146 P ρ) (hi9 : (P.info? (ρ.t 9)).map (fun i => (i.zero, i.size, i.bytes)) = some (some (.string ByteArray.empty), 1, 16)) (s : List UInt8) (b : UInt8) (hs : s.length < 4294967281) :
  PuX (mxX (ρ.g 1)) P (ρ.f 146) [.c (.t none (.v (.string (mkS s)))), .c (.t none (.v (.string (mkS [b]))))] [(0, some (.row none (ρ.t 9) true 1 encS (spl b s)))] 1 (.c (.own 0)) := by
 intro n w S vs hX hS hA
 obtain ⟨u, v, rfl, d0, d1⟩ := two_args hA
 obtain ⟨_, rfl, _⟩ := d0
 obtain ⟨_, rfl, _⟩ := d1
 obtain ⟨m, hm⟩ := hX
 refine (Go.Proofs.Any.strings_Split L hi9 (mkS s) (mkS [b]) m w (by rw [mkS_size]; exact hs) hm (by rw [mkS_size]; simp)).mono ?_
 rintro e w' ⟨rfl, rfl⟩
 have hl := Lib.splitB_all (mkS [b]) (by rw [mkS_size]; simp) 0 (Lib.countB (mkS s) (mkS [b])) (mkS s) rfl
 have hd := Lib.splitB_data (mkS [b]) 0 (Lib.countB (mkS s) (mkS [b])) (mkS s)
 have hsp : (Lib.splitB (mkS [b]) 0 (Lib.countB (mkS s) (mkS [b])) (mkS s)).map (·.data.toList) = spl b s := by
  rw [hd, ← split_spl]
  simp [mkS, Lib.split, Lib.countB]
 have hcl := Lib.countB_le (mkS [b]) (by rw [mkS_size]; simp) (mkS s).size (mkS s) (Nat.le_refl _)
 have hsz : (mkS s).size = s.length := mkS_size s
 have hlen : (spl b s).length = Lib.countB (mkS s) (mkS [b]) + 1 := by rw [← hsp, List.length_map, hl]
 generalize Lib.splitB (mkS [b]) 0 (Lib.countB (mkS s) (mkS [b])) (mkS s) = B at hl hsp ⊢
 have hI := (trivInv (P := P) (f := ρ.f 146) (n := n) hS).new (.cells (B.map Value.string).toArray (ρ.t 9) (0, 0)) (u := .slice (some ⟨w.heap.size, 0, none⟩) (Lib.countB (mkS s) (mkS [b]) + 1) (Lib.countB (mkS s) (mkS [b]) + 1)) (rd := True) (n := .row none (ρ.t 9) true 1 encS (spl b s)) (by
  refine ⟨by rw [upd_at]; trivial, fun v hv => (by cases hv), ?_⟩
  rw [upd_at]
  simp only [if_true]
  refine ⟨B.map Value.string, fun _ _ _ => False, ⟨by rw [List.length_map, hl, hlen]; omega, .inr ⟨w.heap.size, _, (B.map Value.string).toArray, by rw [hlen], Nat.zero_le _, heap_alloc_new w _, by omega, by simp only [maxLen]; omega, by simp [hl], ?_⟩⟩, fun g hg => ?_, fun _ _ _ h => h.elim, fun _ _ _ _ _ h => h.elim, fun i x hx j hj => ?_⟩
  ·rw [hlen]
   simp only [List.toList_toArray]
   exact List.take_of_length_le (by simp [hl])
  ·simp only [Value.ownBlock, Option.some.injEq] at hg
   exact hg.symm
  ·obtain rfl : j = 0 := by omega
   rw [← hsp, List.getElem?_map] at hx
   obtain ⟨y, hy, rfl⟩ := Option.map_eq_some_iff.mp hx
   refine ⟨.string y, by rw [Nat.mul_one, Nat.add_zero, List.getElem?_map, hy]; rfl, ?_⟩
   show Value.string y = .string (mkS y.data.toList) ∧ _
   exact ⟨by simp [mkS], rfl⟩)
 refine ⟨_, _, S, rfl, hI, ?_⟩
 exact ⟨by rw [upd_at]; trivial, by rw [upd_at], rfl⟩
theorem ixb_pu {P : Program} {ρ : Go.Shelf.Ren} (L : Go.Proofs.Lays.n137 P ρ) (s : List UInt8) (c : UInt8) :
  Pu P (ρ.f 137) [.c (.t none (.v (.string (mkS s)))), .c (.t none (.v (.int .u8 (c.toNat : Int))))] [] 0 (.c (.t none (.v (.int .i64 (Lib.indexByte s c))))) := by
 intro n w S vs hS hA
 obtain ⟨u, v, rfl, d0, d1⟩ := two_args hA
 obtain ⟨_, rfl, _⟩ := d0
 obtain ⟨_, rfl, _⟩ := d1
 refine (Go.Proofs.Any.strings_IndexByte L (mkS s) (c.toNat : Int) w).mono ?_
 rintro e w' ⟨rfl, rfl⟩
 refine ⟨_, fun _ => dead, S, rfl, trivInv hS, trivial, ?_, rfl⟩
 simp [mkS]
theorem ixb_pu2 {P : Program} {ρ : Go.Shelf.Ren} (L : Go.Proofs.Lays.n137 P ρ) (s : List UInt8) (c : Int) (hc : 0 ≤ c ∧ c < 256) :
  Pu P (ρ.f 137) [.c (.t none (.v (.string (mkS s)))), .c (.t none (.v (.int .u8 c)))] [] 0 (.c (.t none (.v (.int .i64 (Lib.indexByte s (u8 c)))))) := by
 have h := ixb_pu L s (u8 c)
 rw [u8_to hc] at h
 exact h
section
variable {cx : Cx} {s : St} {dst : Option Nat} {ty : TypeId} {pos : String} {aft : Array Edge}
theorem p_subSl {t : TypeId} {x y : Operand} {k : IntKind} {b : List UInt8} {i : Int} (ht : cx.P.underlying t = some .string) (hx : s.ev x = some (sc (.string (mkS b)))) (hy : s.ev y = some (sc (.int k i))) (h0 : 0 ≤ i) (h1 : i ≤ b.length) :
  Ps cx s (.slice t x (some y) none none) (sc (.string (mkS (b.drop i.toNat)))) :=
 fun A w E S hI hT => by
  refine ⟨.string (mkS (b.drop i.toNat)), fun w' hW _ _ _ _ _ => ?_, trivial, rfl, rfl⟩
  have h3 : i ≤ ((mkS b).size : Int) := by rw [mkS_size]; exact h1
  simp only [execOp, Option.map_some, Option.map_none]
  rw [sc_den (ev_den hT hx), sc_den (ev_den hT hy), Sem.run_bind, run_sliceAt_string _ _ _ _ _ _ ht, run_slice_string_l (ht := ht) (h0 := h0) (h1 := h3), ext_mkS, mkS_size, List.take_length]
  rfl
theorem o_subSl {t : TypeId} {x y : Operand} {k : IntKind} {b : List UInt8} {i : Int} (hd : okd dst cx.n = true) (ht : cx.P.underlying t = some .string) (hx : s.ev x = some (sc (.string (mkS b)))) (hy : s.ev y = some (sc (.int k i))) (h0 : 0 ≤ i) (h1 : i ≤ b.length) :
  Os cx s ⟨dst, .slice t x (some y) none none, ty, pos, aft, none⟩ (s.sets dst (some (sc (.string (mkS (b.drop i.toNat)))))) true := o_value hd (p_subSl ht hx hy h0 h1)
theorem p_subSh {t : TypeId} {x y : Operand} {k : IntKind} {b : List UInt8} {i : Int} (ht : cx.P.underlying t = some .string) (hx : s.ev x = some (sc (.string (mkS b)))) (hy : s.ev y = some (sc (.int k i))) (h0 : 0 ≤ i) (h1 : i ≤ b.length) :
  Ps cx s (.slice t x none (some y) none) (sc (.string (mkS (b.take i.toNat)))) :=
 fun A w E S hI hT => by
  refine ⟨.string (mkS (b.take i.toNat)), fun w' hW _ _ _ _ _ => ?_, trivial, rfl, rfl⟩
  have h3 : i ≤ ((mkS b).size : Int) := by rw [mkS_size]; exact h1
  simp only [execOp, Option.map_some, Option.map_none]
  rw [sc_den (ev_den hT hx), sc_den (ev_den hT hy), Sem.run_bind, run_sliceAt_string _ _ _ _ _ _ ht, run_slice_string_h (ht := ht) (h0 := h0) (h2 := h3), ext_mkS, List.drop_zero]
  rfl
theorem o_subSh {t : TypeId} {x y : Operand} {k : IntKind} {b : List UInt8} {i : Int} (hd : okd dst cx.n = true) (ht : cx.P.underlying t = some .string) (hx : s.ev x = some (sc (.string (mkS b)))) (hy : s.ev y = some (sc (.int k i))) (h0 : 0 ≤ i) (h1 : i ≤ b.length) :
  Os cx s ⟨dst, .slice t x none (some y) none, ty, pos, aft, none⟩ (s.sets dst (some (sc (.string (mkS (b.take i.toNat)))))) true := o_value hd (p_subSh ht hx hy h0 h1)
end
theorem handed_sh {H : Type} {enc : TypeId × Value → H} {a : Assume} {C : Checked} {os : _root_.Go.Os} {f : FuncId} {fn : Func} {s : ChangeSpec} {conds : List PathCond} {apart fresh handsOn again : Bool} {X : World → Array Value → Prop} (hX : ∀ (w w' : World) (args : Array Value), w.heap = w'.heap → X w args → X w' args) (own : ownKnob C.prog.godebug = none) (started : os.Started) (noInit : C.prog.inits.idxOf? f = none) (hfn : C.prog.funcs[f]? = some fn)
  (wit : ∃ (w : World) (tape : Tape) (i : Input), w.os = os ∧ (w.forCall tape i).Shaped C.prog ∧ i.vars = [] ∧ Input.okWide C.prog (w.forCall tape i) .any w.heap.size f i ∧ ((s.pre enc C.prog fn conds apart (w.forCall tape i).memory i.args ∧ X (w.forCall tape i).memory i.args) ∧ sizedMet enc C.prog fn (OpenSpec.ofChange s) apart (w.forCall tape i).memory i.args) ∧ a.holds C.prog (lone (Frame.enter C.prog f i.args .normal) [] (w.forCall tape i)))
  (run : ∀ (W : World) (base : Nat) (args : Array Value) (ds gs : List (DataW H)) (before : List MemPlace), (∀ (j : Nat) t v, fn.params[j]? = some t → args[j]? = some v → Value.okWide C.prog W .any base t v) → DataW.Whole enc C.prog fn.params.toList s.vars apart W args.toList ds gs before → conds.all (PathCond.test C.prog ⟨fn.params.toList, ds, s.plain.varTypes C.prog, gs⟩) = true → (DataW.weightsEach C.prog (fn.params.toList ++ s.plain.varTypes C.prog) (ds ++ gs)).all (· ≤ reachBytes) = true → X W args → W.ShapedOpen C.prog → a.holds C.prog (lone (Frame.enter C.prog f args .normal) [] W) →
   Calls C.prog f args W fun e W' => ∃ v, e = .returned v ∧ s.post enc C.prog fn apart fresh handsOn again W args v W') :
  ReturnsInHanded a C os f .any (fun w args => (s.pre enc C.prog fn conds apart w args ∧ X w args) ∧ sizedMet enc C.prog fn (OpenSpec.ofChange s) apart w args) (s.post enc C.prog fn apart fresh handsOn again) := by
 refine returnsInHanded_of_calls own started noInit wit fun w tape i _ hsh _ hok hpre hh => ?_
 obtain ⟨_, _, _, fn', hfn', _, _, _, _, hval⟩ := hok
 cases Option.some.inj (hfn'.symm.trans hfn)
 obtain ⟨⟨⟨ds, gs, before, h1, h2⟩, h3⟩, h4⟩ := hpre
 refine (run (w.forCall tape i) w.heap.size i.args ds gs before hval (DataW.Whole.of_heap (w' := w.forCall tape i) (by rfl) h1) h2 (h4.weights h1) (hX _ _ _ (by rfl) h3) hsh hh).mono fun e W' hv => ?_
 obtain ⟨v, rfl, hp⟩ := hv
 exact ChangeSpec.post_blind hp
end Go.Eng
