/- Contracts that lean on what a package's variable holds; texts of any numbers. -/
import Derived.Test.YtahmpdfnnnibbaaDoorEngP
import Derived.Lib.AppendIntMem
set_option linter.unusedVariables false
set_option linter.unusedSimpArgs false
namespace Go.Eng
open Go Go.RowKit Go.Proofs
/-- As Pu, where X holds of the world at the call. -/
def PuX (X : World → Prop) (P : Program) (f : FuncId) (args : List AV) (ob : List (Nat × Option Ob)) (nx : Nat) (res : AV) : Prop :=
  ∀ (n : Nat) (w : World) (S : Nat → Prop) (vs : List Value), X w → (∀ k, S k → k < w.heap.size) → denA (fun _ => dead) S w args vs →
    Calls P f vs.toArray w fun e w' => ∃ u E' S', e = .returned u ∧ Inv ⟨P, f, n, w, S, fun _ => False⟩ ob nx E' S' w' ∧ denV E' S' w' res u
theorem pu_enterX {X : World → Prop} {P : Program} {f : FuncId} {fn : Func} {c : Code} {args : List AV} {ob : List (Nat × Option Ob)} {nx : Nat} {res : AV} (hf : P.funcs[f]? = some fn) (hb : fn.body = some c) (ha : args.length ≤ fn.ntmps)
    (h : ∀ w S, X w → Wt ⟨P, f, fn.ntmps, w, S, fun _ => False⟩ ⟨argT 0 args, [], 0⟩ [.code c] (post P f fn.ntmps w S ob nx res)) : PuX X P f args ob nx res := by
  intro n w S vs hX hS hA cs
  let b : Frame := { (default : Frame) with fn := f, kind := .normal }
  have henter : Frame.enter P f vs.toArray .normal = b.at { tmps := vs.toArray ++ Array.replicate (fn.ntmps - vs.toArray.size) undef, defers := [] } [.code c] := by
    simp [Frame.enter, Frame.at, hf, hb, b]
  have hg : Gm ⟨P, f, fn.ntmps, w, S, fun _ => False⟩ ⟨argT 0 args, [], 0⟩ { tmps := vs.toArray ++ Array.replicate (fn.ntmps - vs.toArray.size) undef, defers := [] } w := by
    refine ⟨fun _ => dead, S, ⟨hS, fun k h => .inl h, fun i o h => by simp [alook] at h, fun i j _ h => h.elim, fun i h => h.elim, fun i h => h.elim, Kept.refl _ _⟩, fun t v ht => ?_, ?_, rfl⟩
    · rw [show (⟨argT 0 args, [], 0⟩ : St).tm = argT 0 args from rfl, argT_get] at ht
      simp only [Nat.not_lt_zero, if_false, Nat.sub_zero] at ht
      obtain ⟨u, h1, h2⟩ := hA.2 t v ht
      have : (vs.toArray ++ Array.replicate (fn.ntmps - vs.toArray.size) undef).getD t undef = u := by
        rw [Array.getD_eq_getD_getElem?, Array.getElem?_append_left (by simpa using (List.getElem?_eq_some_iff.1 h1).1)]
        simp [h1]
      rw [show ({ tmps := vs.toArray ++ Array.replicate (fn.ntmps - vs.toArray.size) undef, defers := [] } : Act).tmps = vs.toArray ++ Array.replicate (fn.ntmps - vs.toArray.size) undef from rfl, this]
      exact h2
    · have := hA.1
      simp
      omega
  obtain ⟨e, w', fr, hR, hc, hfr, hl⟩ := h w S hX _ w hg b cs rfl rfl
  rw [← henter] at hc
  exact ⟨e, w', fr, post_n hR, hc, hfr, hl⟩
section
variable {cx : Cx} {s : St} {dst : Option Nat} {ty : TypeId} {pos : String} {aft : Array Edge}
theorem o_callX {X : World → Prop} (hX : ∀ w, Kept cx.M cx.w0 w → X w) (d m : Nat) (sh : Bool) {g : FuncId} {xs : Array Operand} {ats : Array TypeId} {cargs : List AV} {ob' : List (Nat × Option Ob)} {nx' : Nat} {res : AV} (hE : Go.Proofs.Enters cx.P g) (hC : PuX X cx.P g cargs ob' nx' res) (hd : okd dst cx.n = true) (ha : Args s sh xs.toList cargs) (hns : (sh || (nsO ob' && res.all AC.ns)) = true) (hdx : s.nx = d) (hm : d + nx' = m) :
    Os cx s ⟨dst, .call { callee := .value (.func g), args := xs, argTypes := ats }, ty, pos, aft, none⟩ ((⟨s.tm, upO d ob' s.ob, m⟩ : St).sets dst (some (res.up d))) true := by
  subst hdx hm
  intro Q a w hg
  obtain ⟨E, S, hI, hT, hn, hdf⟩ := hg
  unfold Oper.wp
  rw [execOp_call_go, hE]
  have hargs : #[] ++ Array.map a.eval xs ++ #[] = (xs.toList.map a.eval).toArray := by
    apply Array.ext'
    simp
  rw [hargs, Oper.upon_enter]
  refine (hC 0 w (Sc sh S w) (xs.toList.map a.eval) (hX w hI.kept) (fun k hk => ?_) (ha.den hI hT)).mono ?_
  · unfold Sc at hk
    split at hk
    · exact hI.slt k hk
    · exact hk
  · rintro e w' ⟨u, E', S', rfl, hI', hu⟩
    obtain ⟨h1, h2⟩ := hI.join hI' (by cases sh <;> simp_all)
    refine ⟨⟨_, _, by rw [sets_ob, sets_nx]; exact h1, denT_puts (s := ⟨s.tm, upO s.nx ob' s.ob, s.nx + nx'⟩) hd hn (denT.carry h2 hT) (fun v' e => ?_), by rw [put_size]; exact hn, by rw [put_defers]; exact hdf⟩, fun _ => ⟨hI'.kept.size, fun k hk => hI'.kept.block k hk (fun h => h)⟩⟩
    cases e
    cases hsh : sh
    · have hres : res.all AC.ns = true := by rw [hsh] at hns; simp_all
      exact up_v (S' := fun k => S k ∨ (false = true ∧ S' k)) (fun k hk => hk) (ns_v hres hu)
    · exact up_v (fun k hk => .inr ⟨rfl, hk⟩) hu
end
def tabX (P : Program) (w : World) : Prop := Lib.TabIs P w "internal/strconv.uint64pow10" .u64 Lib.pow10Tab
theorem tab_kept {P : Program} {w w' : World} (h : Kept (fun _ => False) w w') (ht : tabX P w) : tabX P w' := by
  unfold tabX Lib.TabIs World.var? at *
  cases hg : P.globalNamed "internal/strconv.uint64pow10" with
  | none => rw [hg] at ht; simp at ht
  | some g =>
    rw [hg] at ht
    simp only [Option.bind_some] at ht ⊢
    cases hh : w.heap[g]? with
    | none => rw [hh] at ht; simp at ht
    | some o =>
      rw [h.block g (Array.getElem?_eq_some_iff.1 hh).1 (fun h => h)]
      exact ht
theorem pux_str {X : World → Prop} {P : Program} {f : FuncId} {args : List AV} {t : List UInt8} (h : ∀ (w : World) (S : Nat → Prop) (vs : List Value), X w → (∀ k, S k → k < w.heap.size) → denA (fun _ => dead) S w args vs → Calls P f vs.toArray w fun e w' => e = .returned (.string (mkS t)) ∧ Below w.heap.size w w') :
    PuX X P f args [] 0 (.c (.t none (.v (.string (mkS t))))) := by
  intro n w S vs hX hS hA
  refine (h w S vs hX hS hA).mono fun e w' ⟨he, hb⟩ => ⟨_, fun _ => dead, S, he, ⟨fun k hk => Nat.lt_of_lt_of_le (hS k hk) hb.size, fun k hk => .inl hk, fun i o h => by simp [alook] at h, fun i j _ h => h.elim, fun i h => h.elim, fun i h => h.elim, ⟨hb.os, hb.tape, hb.output, hb.size, fun k hk _ => hb.block k hk⟩⟩, ⟨trivial, rfl, rfl⟩⟩
def fmtI (n : Int) : List UInt8 := if n < 0 then 45 :: digs n.natAbs else fmtN n
theorem fmtI_itoa (n : Int) : Lib.itoa n = fmtI n := by
  unfold Lib.itoa fmtI
  split
  · rw [digs_dec (by omega)]
  · exact fmtN_dec (by omega)
theorem itoa_pux {P : Program} {ρ : Go.Shelf.Ren} (L : Go.Proofs.LaysM.n171 P ρ) (i : Int) (h : okI i) :
    PuX (tabX P) P (ρ.f 171) [.c (.t none (.v (.int .i64 i)))] [] 0 (.c (.t none (.v (.string (mkS (fmtI i)))))) := by
  refine pux_str fun w S vs hX hS hA => ?_
  obtain ⟨u0, e0, d0⟩ := hA.2 0 _ rfl
  have hvs : vs = [u0] := by
    have h := hA.1
    match vs, h, e0 with
    | [x], _, e0 => cases e0; rfl
  subst hvs
  obtain ⟨_, rfl, _⟩ := d0
  refine (Go.Proofs.Any.strconv_Itoa L i h.1 h.2 w hX).mono fun e w' ⟨h1, k, os, h2⟩ => ⟨by rw [h1, fmtI_itoa], ?_⟩
  subst h2
  exact Go.Lib.below_grow _ w (Nat.le_refl _) k os
theorem digs_pow : ∀ (k q : Nat), q < 10 ^ k → (digs q).length ≤ k
  | 0, q, h => by
    obtain rfl : q = 0 := by simpa using h
    simp [digs]
  | k + 1, q, h => by
    rcases Nat.eq_zero_or_pos q with rfl | h0
    · simp [digs]
    · rw [digs_step h0, List.length_append]
      have := digs_pow k (q / 10) (by rw [Nat.pow_succ] at h; omega)
      simp only [List.length_cons, List.length_nil]
      omega
theorem digs_20 {q : Nat} (h : q ≤ 9223372036854775808) : (digs q).length ≤ 20 := digs_pow 20 q (by omega)
theorem out_len {q N : Nat} {out : List UInt8} (h : digs q ++ out = digs N) (hN : N ≤ 9223372036854775808) : out.length ≤ 20 := by
  have h1 := digs_20 hN
  rw [← h, List.length_append] at h1
  omega
theorem quo_big {q : Nat} {b : Int} (hb : b = 10) (hq : q ≤ 9223372036854775808) : binD .quo .i64 (q : Int) b = some (.int .i64 ((q / 10 : Nat) : Int)) := by
  subst hb
  simp only [binD]
  have hle : q / 10 ≤ 922337203685477581 := by omega
  rw [if_neg (by omega), show (10 : Int) = ((10 : Nat) : Int) from rfl, ← Int.ofNat_tdiv]
  generalize q / 10 = r at *
  rw [wr64 (by omega) (by omega)]
theorem rem_neg {q : Nat} {b : Int} (hb : b = 10) : binD .rem .i64 (-(q : Int)) b = some (.int .i64 (-((q % 10 : Nat) : Int))) := by
  subst hb
  simp only [binD]
  rw [if_neg (by omega), Int.neg_tmod, show (10 : Int) = ((10 : Nat) : Int) from rfl, Int.ofNat_tmod]
theorem quo_neg {q : Nat} {b : Int} (hb : b = 10) (hq : q ≤ 9223372036854775808) : binD .quo .i64 (-(q : Int)) b = some (.int .i64 (-((q / 10 : Nat) : Int))) := by
  subst hb
  simp only [binD]
  have hle : q / 10 ≤ 922337203685477581 := by omega
  rw [if_neg (by omega), Int.neg_tdiv, show (10 : Int) = ((10 : Nat) : Int) from rfl, ← Int.ofNat_tdiv]
  generalize q / 10 = r at *
  rw [wr64 (by omega) (by omega)]
theorem digit_neg (q : Nat) : bytesOf [IntKind.u8.wrap (IntKind.i64.wrap (48 + IntKind.i64.wrap (0 - -((q % 10 : Nat) : Int))))] = [UInt8.ofNat (48 + q % 10)] := by
  rw [show (0 : Int) - -((q % 10 : Nat) : Int) = ((q % 10 : Nat) : Int) by omega, wr64 (x := ((q % 10 : Nat) : Int)) (by omega) (by omega), digit_byte]
theorem digit_neg0 {q : Nat} (h : ¬ (-((q % 10 : Nat) : Int) < 0)) : bytesOf [IntKind.u8.wrap (IntKind.i64.wrap (48 + -((q % 10 : Nat) : Int)))] = [UInt8.ofNat (48 + q % 10)] := by
  have h0 : q % 10 = 0 := by omega
  have := digit_byte q
  rw [h0] at *
  simpa using this
theorem fmtI_pos {k : Int} (h : 0 ≤ k) : fmtN k = fmtI k := by unfold fmtI; rw [if_neg (by omega)]
theorem fmtI_neg {k : Int} (h : k < 0) : 45 :: digs k.natAbs = fmtI k := by unfold fmtI; rw [if_pos h]
theorem fmtI_len {k : Int} (h : okI k) : (fmtI k).length ≤ 21 := by
  have h1 := h.1
  have h2 := h.2
  unfold fmtI fmtN
  split
  · have := digs_20 (q := k.natAbs) (by omega)
    simp only [List.length_cons]
    omega
  · split
    · simp
    · have := digs_20 (q := k.toNat) (by omega)
      omega
def fmtV (v : Int) : List UInt8 := if -40 ≤ v ∧ v ≤ -1 then 110 :: fmtN (-1 - v) else if 0 ≤ v ∧ v ≤ 9 then fmtN v else []
def fmtV1 (v : Int) : List UInt8 := if fmtV v = [] then [45] else fmtV v
def fmtS (d : Int) (b : List Int) : List UInt8 := (fmtI d ++ [58]) ++ Lib.join (b.map fmtV1) [44]
section
variable {v : Int} {b : List Int} {m : Nat} {z : Int}
theorem fmtV_null (h : -40 ≤ v ∧ v ≤ -1) : [110] ++ fmtI (IntKind.i64.wrap (-1 - v)) = fmtV v := by
  rw [wr64 (by omega) (by omega), ← fmtI_pos (by omega)]
  unfold fmtV
  rw [if_pos h]
  rfl
theorem fmtV_null2 (h : -40 ≤ v ∧ v ≤ -1) : [110] ++ fmtI (if -40 ≤ v ∧ v ≤ -1 then -1 - v else 0) = fmtV v := by
  rw [if_pos h, ← fmtI_pos (by omega)]
  unfold fmtV
  rw [if_pos h]
  rfl
theorem fmtV_con (h : 0 ≤ v ∧ v ≤ 9) : fmtI v = fmtV v := by
  rw [← fmtI_pos h.1]
  unfold fmtV
  rw [if_neg (by omega), if_pos h]
theorem fmtV_no (h : ¬ (-40 ≤ v ∧ v ≤ 9)) : [] = fmtV v := by
  unfold fmtV
  rw [if_neg (by omega), if_neg (by omega)]
theorem fmtV_len (v : Int) : (fmtV v).length ≤ 3 := by
  unfold fmtV
  split
  · have := fmtN_len (n := -1 - v) (by omega)
    simp only [List.length_cons]
    omega
  · split
    · have := fmtN_len (n := v) (by omega)
      omega
    · simp
theorem fmtV1_len (v : Int) : (fmtV1 v).length ≤ 3 := by
  unfold fmtV1
  split
  · simp
  · exact fmtV_len v
theorem fmtV1_no (h : fmtV z = []) : [45] = fmtV1 z := by unfold fmtV1; rw [if_pos h]
theorem fmtV1_yes (h : ¬ fmtV z = []) : fmtV z = fmtV1 z := by unfold fmtV1; rw [if_neg h]
theorem joinX_step {X y : List UInt8} (hz : b[m]? = some z) (hy : y = fmtV1 z) (hm : 0 < m) : ((X ++ Lib.join ((b.take m).map fmtV1) [44]) ++ [44]) ++ y = X ++ Lib.join ((b.take (m + 1)).map fmtV1) [44] := by
  rw [← joinT_step hz hm, hy]
  simp only [List.append_assoc]
theorem joinX_step0 {X y : List UInt8} (hz : b[m]? = some z) (hy : y = fmtV1 z) (hm : ¬ 0 < m) : (X ++ Lib.join ((b.take m).map fmtV1) [44]) ++ y = X ++ Lib.join ((b.take (m + 1)).map fmtV1) [44] := by
  rw [← joinT_step0 hz hm, hy]
  simp only [List.append_assoc]
theorem mapV_step {y : List UInt8} (hz : b[m]? = some z) (hy : y = fmtV1 z) : (b.take m).map fmtV1 ++ [y] = (b.take (m + 1)).map fmtV1 := by
  rw [hy]
  exact mapT_step hz
theorem fmtS_end {d : Int} (hm : b.length ≤ m) : (fmtI d ++ [58]) ++ Lib.join ((b.take m).map fmtV1) [44] = fmtS d b := by
  unfold fmtS
  rw [List.take_of_length_le hm]
end
end Go.Eng
