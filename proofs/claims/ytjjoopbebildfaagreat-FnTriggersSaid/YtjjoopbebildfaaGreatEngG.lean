import Derived.Test.YtjjoopbebildfaaGreatEngF
import Derived.Laws.BytesArg
set_option linter.unusedVariables false
set_option linter.unusedSimpArgs false
namespace Go.Eng
open Go Go.RowKit
section rules
variable {cx : Cx} {s : St} {dst : Option Nat} {ty : TypeId} {pos : String} {aft : Array Edge}
def shD (op : BinOp) (k : IntKind) (a b : Int) : Option Value :=
 match op with
 | .shl => if b < 0 then none else some (.int k (k.wrap (a * 2 ^ (min b.toNat k.bits))))
 | .shr => if b < 0 then none else some (.int k (a.fdiv (2 ^ (min b.toNat k.bits))))
 | _ => none
theorem run_shD {P : Program} {op : BinOp} {k k' : IntKind} {a b : Int} {v : Value} (h : shD op k a b = some v) (t : TypeId) (x y : Operand) (w : World) : (do eqGuard op t x y (.int k a) (.int k' b); binOp op t (.int k a) (.int k' b) : Sem Value).run P w = .ok v w ∧ v.oneCell' = true := by
 cases op <;> simp only [shD] at h <;> first
  | (cases h; done)
  | (split at h <;> first | (cases h; done) | (cases h; constructor <;> simp_all [eqGuard, binOp, Op.shift, Value.oneCell'] <;> (intro hh; omega)))
theorem p_sh {op : BinOp} {t yt : TypeId} {x y : Operand} {kk kk' : IntKind} {a b : Int} {v : Value} (hx : s.ev x = some (sc (.int kk a))) (hy : s.ev y = some (sc (.int kk' b))) (hv : shD op kk a b = some v) :
  Ps cx s (.binOp op t x y yt) ((sc v)) :=
 fun A w E S hI hT => by
  have h1 := sc_den (ev_den hT hx)
  have h2 := sc_den (ev_den hT hy)
  have h3 := fun w' => (run_shD (P := cx.P) (k' := kk') hv t x y w').1
  have h4 := (run_shD (P := cx.P) (k' := kk') hv t x y w).2
  refine ⟨v, fun w' hW _ _ _ _ _ => ?_, sc_mk h4⟩
  simp only [execOp, h1, h2]
  rw [Sem.run_bind, h3]
  rfl
theorem o_sh {op : BinOp} {t yt : TypeId} {x y : Operand} {kk kk' : IntKind} {a b : Int} {v : Value} (hd : okd dst cx.n = true) (hx : s.ev x = some (sc (.int kk a))) (hy : s.ev y = some (sc (.int kk' b))) (hv : shD op kk a b = some v) :
  Os cx s ⟨dst, .binOp op t x y yt, ty, pos, aft, none⟩ (s.sets dst (some (sc v))) true := o_value hd (p_sh hx hy hv)
def encU : Int → Nat → T := fun n _ => .v (.int .u8 n)
def bytesOf (l : List Int) : List UInt8 := l.map fun n => UInt8.ofNat n.toNat
end rules
theorem loop_five {n : Nat} (h : n = 1 ∨ n = 2 ∨ n = 4) : (List.replicate n (10 : Int) ++ List.replicate (5 - n) 0).take n ++ ((List.replicate n (10 : Int) ++ List.replicate (5 - n) 0).take n).take (min n (5 - n)) ++ (List.replicate n (10 : Int) ++ List.replicate (5 - n) 0).drop (n + min n (5 - n)) = List.replicate (n + min n (5 - n)) 10 ++ List.replicate (5 - (n + min n (5 - n))) 0 := by
 rcases h with rfl | rfl | rfl <;> rfl
end Go.Eng

set_option linter.unusedVariables false
set_option linter.unusedSimpArgs false
namespace Go.Eng
open Go Go.RowKit
section rules
variable {cx : Cx} {s : St} {R : Ending → World → Prop} {todo : List Item}
def posN : List Nat → Nat → Option Nat
 | [], _ => none
 | i :: r, k => cond (Nat.beq i k) (some 0) ((posN r k).map (· + 1))
def AC.ren (is : List Nat) : AC → AC
 | .own i => match posN is i with | some j => .own j | none => .top
 | .t none x => .t none x
 | _ => .top
def AV.ren (is : List Nat) : AV → AV
 | .c a => .c (a.ren is)
 | .agg cs => .agg (cs.map (AC.ren is))
 | .tup vs => .tup (vs.map fun x => (x.1, x.2.map (AC.ren is)))
def renT (is : List Nat) (l : List (Nat × Option AV)) : List (Nat × Option AV) := l.map fun x => (x.1, x.2.map (AV.ren is))
def unpin : Option Ob → Option Ob
 | some (.row _ e deep sz enc xs) => some (.row none e deep sz enc xs)
 | _ => none
def renO (ob : List (Nat × Option Ob)) : List Nat → Nat → List (Nat × Option Ob)
 | [], _ => []
 | i :: is, j => (j, unpin (alook ob i)) :: renO ob is (j + 1)
def nodupN : List Nat → Bool
 | [] => true
 | i :: r => (r.all fun k => !(Nat.beq i k)) && nodupN r
end rules
theorem ded_five {fs l : Atoms} {m : Nat} {y : List Int} (h : y ∈ dedL ((matchL fs l freeB).take m)) : y.length = 5 := matchL_five fs l freeB y (List.mem_of_mem_take (dedL_mem _ _ h))
theorem ded_room {fs l : Atoms} {m : Nat} (hf : fs.length ≤ 30) (hl : l.length ≤ 3) : (dedL ((matchL fs l freeB).take m)).length ≤ 27000 := by
 have h1 := dedL_len ((matchL fs l freeB).take m)
 have h2 := matchL_most hf hl freeB
 rw [List.length_take] at h1
 omega
theorem hasR_more {q : List (List Int)} {x : List Int} {k : Nat} (h : hasR (q.take k) x = true) : true = hasR (q.take (k + 1)) x := by
 unfold hasR at h ⊢
 rw [List.any_eq_true] at h
 obtain ⟨y, h1, h2⟩ := h
 refine (List.any_eq_true.2 ⟨y, ?_, h2⟩).symm
 rw [List.take_add_one]
 exact List.mem_append_left _ h1
theorem hasR_zero {q : List (List Int)} {x : List Int} : hasR (q.take 0) x = false := by rw [List.take_zero]; rfl
theorem hasR_new {q : List (List Int)} {y x : List Int} {k n : Nat} (h : hasR (q.take k) x = false) (hy : q[n]? = some y) (e : n = k) : decide (cmpL y x = 0) = hasR (q.take (k + 1)) x := by
 rw [hasR_step hy e, h, Bool.false_or]
 exact decide_eq_decide.2 (cmpL_zero _ _)
theorem findL_no {rs : Rels} {fs l : Atoms} (h : mtOk rs fs l = false) : [] = findL rs fs l := by unfold findL; rw [h]; rfl
theorem findL_yes {rs : Rels} {fs l : Atoms} {m : Nat} (h : mtOk rs fs l = true) (hm : (matchL fs l freeB).length ≤ m) : dedL ((matchL fs l freeB).take m) = findL rs fs l := by unfold findL; rw [if_pos h, List.take_of_length_le hm]
theorem filt_take {p : List Int → Bool} {L : List (List Int)} {m n : Nat} {z : List Int} (hz : L[n]? = some z) (e : n = m) : (L.take (m + 1)).filter p = if p z = true then (L.take m).filter p ++ [z] else (L.take m).filter p := by
 subst e
 rw [List.take_add_one, hz, List.filter_append]
 show _ ++ [z].filter p = _
 cases h : p z <;> simp [List.filter, h]
theorem actL_no {rs : Rels} {fs a0 a1 : Atoms} {a2 : Bool} {a3 a4 : Int} (h : depOk rs a0 a1 a2 a3 a4 = false) : [] = actL rs fs a0 a1 a2 a3 a4 := by unfold actL; rw [h]; rfl
theorem actL_yes {rs : Rels} {fs a0 a1 : Atoms} {a2 : Bool} {a3 a4 : Int} {m : Nat} (h : depOk rs a0 a1 a2 a3 a4 = true) (hm : (findL rs fs a0).length ≤ m) : ((findL rs fs a0).take m).filter (actOk rs fs a0 a1 a2 a3 a4) = actL rs fs a0 a1 a2 a3 a4 := by unfold actL; rw [if_pos h, List.take_of_length_le hm]
theorem filt_room {p : List Int → Bool} {L : List (List Int)} {m : Nat} (h : L.length ≤ 27000) : ((L.take m).filter p).length ≤ 27000 := by
 have := List.length_filter_le p (L.take m)
 rw [List.length_take] at this
 omega
theorem actL_five {rs : Rels} {fs a0 a1 : Atoms} {a2 : Bool} {a3 a4 : Int} {r : List Int} (h : r ∈ actL rs fs a0 a1 a2 a3 a4) : r ∈ findL rs fs a0 ∧ r.length = 5 := by
 unfold actL at h
 split at h
 ·have := (List.mem_filter.1 h).1
  exact ⟨this, findL_five this⟩
 ·cases h
end Go.Eng

set_option linter.unusedVariables false
set_option linter.unusedSimpArgs false
namespace Go.Eng
open Go Go.RowKit
def PuE (P : Program) (f : FuncId) (args : List AV) (ob : Nat → List (Nat × Option Ob)) (nx : Nat) (res : AV) : Prop :=
 ∀ (n : Nat) (w : World) (S : Nat → Prop) (vs : List Value), (∀ k, S k → k < w.heap.size) → denA (fun _ => dead) S w args vs →
  Calls P f vs.toArray w fun e w' => ∃ et, post P f n w S (ob et) nx res e w'
section rules
variable {cx : Cx} {s : St} {dst : Option Nat} {ty : TypeId} {pos : String} {aft : Array Edge} {R : Ending → World → Prop} {k : List Item} {ops : Array Oper} {rest : List Oper}
def OsE {ι : Type} (cx : Cx) (s : St) (o : Oper) (s' : ι → St) : Prop :=
 ∀ (Q : Exit → Act → World → Prop) (a : Act) (w : World), Gm cx s a w → o.wp cx.P a w (fun a' w' => ∃ i, Gm cx (s' i) a' w') Q
end rules
theorem filt_hit {p : List Int → Bool} {L : List (List Int)} {m n : Nat} {z : List Int} (hz : L[n]? = some z) (e : n = m) (h : p z = true) : (L.take m).filter p ++ [z] = (L.take (m + 1)).filter p := by rw [filt_take hz e, if_pos h]
theorem filt_miss {p : List Int → Bool} {L : List (List Int)} {m n : Nat} {z : List Int} (hz : L[n]? = some z) (e : n = m) (h : p z = false) : (L.take m).filter p = (L.take (m + 1)).filter p := by rw [filt_take hz e, h]; rfl
def actD (rs : Rels) (fs : Atoms) (d : Dep) : List (List Int) := actL rs fs d.1 d.2.1 d.2.2.1 d.2.2.2.1 d.2.2.2.2
def hotD (rs : Rels) (fs : Atoms) (d : Dep) : Bool := decide (0 < (actD rs fs d).length)
def vioOk (rs : Rels) (fs : Atoms) (ds : List Dep) : Bool := instOk rs fs && (depsOk rs ds && ds.any (hotD rs fs))
def vioI (rs : Rels) (fs : Atoms) (ds : List Dep) : Int := if vioOk rs fs ds = true then idxI (hotD rs fs) ds else 0
def vioB (rs : Rels) (fs : Atoms) (ds : List Dep) : List Int := if vioOk rs fs ds = true then (actD rs fs (ds.getD (idxI (hotD rs fs) ds).toNat ([], [], false, 0, 0))).headD [] else []
def vioS (rs : Rels) (fs : Atoms) (ds : List Dep) : Bool := !vioOk rs fs ds && (instOk rs fs && depsOk rs ds)
section
variable {rs : Rels} {fs : Atoms} {ds : List Dep} {m n : Nat} {z : Dep}
end
def digs : Nat → List UInt8
 | 0 => []
 | k + 1 => digs ((k + 1) / 10) ++ [UInt8.ofNat (48 + (k + 1) % 10)]
theorem binD_quo {q n : Nat} (h : 0 < n) (hq : q < 4611686018427387904) : binD .quo .i64 (q : Int) (n : Int) = some (.int .i64 ((q / n : Nat) : Int)) := by
 simp only [binD]
 have hle := Nat.div_le_self q n
 rw [if_neg (by omega), ← Int.ofNat_tdiv]
 generalize q / n = r at *
 rw [wr64 (by omega) (by omega)]
def mtx (k : Int) : List UInt8 := 109 :: digs k.toNat
def markR : Int → List UInt8 × Int × Bool → List UInt8 × Int × Bool := fun k _ => (mtx k, k + 1, decide ((k + 2).tmod 3 = 0))
def ct3 {α : Type} : α → Nat := fun _ => 3
def markRS : Int → Rels → Rels := mkL markR ct3
def ctD : Dep → Nat := fun x => szS (fun (y : Int × List Int) => y.2.length) x.1 + szS (fun (y : Int × List Int) => y.2.length) x.2.1 + 3
def markD : Int → Dep → Dep := fun k x =>
 let a := k + ((szS (fun (y : Int × List Int) => y.2.length) x.1 : Nat) : Int)
 let b := a + ((szS (fun (y : Int × List Int) => y.2.length) x.2.1 : Nat) : Int)
 (markATS k x.1, markATS a x.2.1, decide (b.tmod 3 = 0), b + 1, b + 2)
def markDS : Int → List Dep → List Dep := mkL markD ctD
end Go.Eng

set_option linter.unusedVariables false
set_option linter.unusedSimpArgs false
namespace Go.Eng
open Go Go.RowKit
theorem quo_lit {q : Nat} (n : Nat) {b : Int} (hb : b = (n : Int)) (h : 0 < n) (hq : q < 4611686018427387904) : binD .quo .i64 (q : Int) b = some (.int .i64 ((q / n : Nat) : Int)) := by
 subst hb
 exact binD_quo h hq
theorem rows_size {l : List (List Int)} {c : Nat} (h5 : ∀ r ∈ l, r.length ≤ c) : szS List.length l ≤ l.length + c * l.length := by
 unfold szS
 have : (l.map List.length).sum ≤ c * l.length := by
  induction l with
  | nil => simp
  | cons x l ih =>
   have h1 := ih (fun r hr => h5 r (List.mem_cons_of_mem _ hr))
   have h2 := h5 x List.mem_cons_self
   simp only [List.map_cons, List.sum_cons, List.length_cons, Nat.mul_succ]
   omega
 omega
theorem actL_size (rs : Rels) (fs a0 a1 : Atoms) (a2 : Bool) (a3 a4 : Int) : szS List.length (actL rs fs a0 a1 a2 a3 a4) ≤ 162000 := by
 have h1 := actL_len rs fs a0 a1 a2 a3 a4
 have h2 := rows_size (l := actL rs fs a0 a1 a2 a3 a4) (c := 5) (fun r hr => by have := (actL_five hr).2; omega)
 omega
end Go.Eng
namespace Go.Eng
open Go Go.RowKit
end Go.Eng
