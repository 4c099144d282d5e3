import Derived.Test.YthcggkagkihamaaGreatDoorEngP
import Derived.Lib.AppendIntMem
set_option linter.unusedVariables false
set_option linter.unusedSimpArgs false
namespace Go.Eng
open Go Go.RowKit Go.Proofs
def PuX (X : World → Prop) (P : Program) (f : FuncId) (args : List AV) (ob : List (Nat × Option Ob)) (nx : Nat) (res : AV) : Prop :=
 ∀ (n : Nat) (w : World) (S : Nat → Prop) (vs : List Value), X w → (∀ k, S k → k < w.heap.size) → denA (fun _ => dead) S w args vs →
  Calls P f vs.toArray w fun e w' => ∃ u E' S', e = .returned u ∧ Inv ⟨P, f, n, w, S, fun _ => False⟩ ob nx E' S' w' ∧ denV E' S' w' res u
theorem pu_enterX {X : World → Prop} {P : Program} {f : FuncId} {fn : Func} {c : Code} {args : List AV} {ob : List (Nat × Option Ob)} {nx : Nat} {res : AV} (hf : P.funcs[f]? = some fn) (hb : fn.body = some c) (ha : args.length ≤ fn.ntmps)
  (h : ∀ w S, X w → Wt ⟨P, f, fn.ntmps, w, S, fun _ => False⟩ ⟨argT 0 args, [], 0⟩ [.code c] (post P f fn.ntmps w S ob nx res)) : PuX X P f args ob nx res := by
 intro n w S vs hX hS hA cs
 let b : Frame := { (default : Frame) with fn := f, kind := .normal }
 have henter : Frame.enter P f vs.toArray .normal = b.at { tmps := vs.toArray ++ Array.replicate (fn.ntmps - vs.toArray.size) undef, defers := [] } [.code c] := by
  simp [Frame.enter, Frame.at, hf, hb, b]
 have hg : Gm ⟨P, f, fn.ntmps, w, S, fun _ => False⟩ ⟨argT 0 args, [], 0⟩ { tmps := vs.toArray ++ Array.replicate (fn.ntmps - vs.toArray.size) undef, defers := [] } w := by
  refine ⟨fun _ => dead, S, ⟨hS, fun k h => .inl h, fun i o h => by simp [alook] at h, fun i j _ h => h.elim, fun i h => h.elim, fun i h => h.elim, Kept.refl _ _⟩, fun t v ht => ?_, ?_, rfl⟩
  ·rw [show (⟨argT 0 args, [], 0⟩ : St).tm = argT 0 args from rfl, argT_get] at ht
   simp only [Nat.not_lt_zero, if_false, Nat.sub_zero] at ht
   obtain ⟨u, h1, h2⟩ := hA.2 t v ht
   have : (vs.toArray ++ Array.replicate (fn.ntmps - vs.toArray.size) undef).getD t undef = u := by
    rw [Array.getD_eq_getD_getElem?, Array.getElem?_append_left (by simpa using (List.getElem?_eq_some_iff.1 h1).1)]
    simp [h1]
   rw [show ({ tmps := vs.toArray ++ Array.replicate (fn.ntmps - vs.toArray.size) undef, defers := [] } : Act).tmps = vs.toArray ++ Array.replicate (fn.ntmps - vs.toArray.size) undef from rfl, this]
   exact h2
  ·have := hA.1
   simp
   omega
 obtain ⟨e, w', fr, hR, hc, hfr, hl⟩ := h w S hX _ w hg b cs rfl rfl
 rw [← henter] at hc
 exact ⟨e, w', fr, post_n hR, hc, hfr, hl⟩
section
variable {cx : Cx} {s : St} {dst : Option Nat} {ty : TypeId} {pos : String} {aft : Array Edge}
theorem o_callX {X : World → Prop} (hX : ∀ w, Kept cx.M cx.w0 w → X w) (d m : Nat) (sh : Bool) {g : FuncId} {xs : Array Operand} {ats : Array TypeId} {cargs : List AV} {ob' : List (Nat × Option Ob)} {nx' : Nat} {res : AV} (hE : Go.Proofs.Enters cx.P g) (hC : PuX X cx.P g cargs ob' nx' res) (hd : okd dst cx.n = true) (ha : Args s sh xs.toList cargs) (hns : (sh || (nsO ob' && res.all AC.ns)) = true) (hdx : s.nx = d) (hm : d + nx' = m) :
  Os cx s ⟨dst, .call { callee := .value (.func g), args := xs, argTypes := ats }, ty, pos, aft, none⟩ ((⟨s.tm, upO d ob' s.ob, m⟩ : St).sets dst (some (res.up d))) true := by
 subst hdx hm
 intro Q a w hg
 obtain ⟨E, S, hI, hT, hn, hdf⟩ := hg
 unfold Oper.wp
 rw [execOp_call_go, hE]
 have hargs : #[] ++ Array.map a.eval xs ++ #[] = (xs.toList.map a.eval).toArray := by
  apply Array.ext'
  simp
 rw [hargs, Oper.upon_enter]
 refine (hC 0 w (Sc sh S w) (xs.toList.map a.eval) (hX w hI.kept) (fun k hk => ?_) (ha.den hI hT)).mono ?_
 ·unfold Sc at hk
  split at hk
  ·exact hI.slt k hk
  ·exact hk
 ·rintro e w' ⟨u, E', S', rfl, hI', hu⟩
  obtain ⟨h1, h2⟩ := hI.join hI' (by cases sh <;> simp_all)
  refine ⟨⟨_, _, by rw [sets_ob, sets_nx]; exact h1, denT_puts (s := ⟨s.tm, upO s.nx ob' s.ob, s.nx + nx'⟩) hd hn (denT.carry h2 hT) (fun v' e => ?_), by rw [put_size]; exact hn, by rw [put_defers]; exact hdf⟩, fun _ => ⟨hI'.kept.size, fun k hk => hI'.kept.block k hk (fun h => h)⟩⟩
  cases e
  cases hsh : sh
  ·have hres : res.all AC.ns = true := by rw [hsh] at hns; simp_all
   exact up_v (S' := fun k => S k ∨ (false = true ∧ S' k)) (fun k hk => hk) (ns_v hres hu)
  ·exact up_v (fun k hk => .inr ⟨rfl, hk⟩) hu
end
def tabX (P : Program) (w : World) : Prop := Lib.TabIs P w "internal/strconv.uint64pow10" .u64 Lib.pow10Tab
def fmtI (n : Int) : List UInt8 := if n < 0 then 45 :: digs n.natAbs else fmtN n
def fmtV (v : Int) : List UInt8 := if -40 ≤ v ∧ v ≤ -1 then 110 :: fmtN (-1 - v) else if 0 ≤ v ∧ v ≤ 9 then fmtN v else []
def fmtV1 (v : Int) : List UInt8 := if fmtV v = [] then [45] else fmtV v
def fmtS (d : Int) (b : List Int) : List UInt8 := (fmtI d ++ [58]) ++ Lib.join (b.map fmtV1) [44]
section
variable {v : Int} {b : List Int} {m : Nat} {z : Int}
end
end Go.Eng
