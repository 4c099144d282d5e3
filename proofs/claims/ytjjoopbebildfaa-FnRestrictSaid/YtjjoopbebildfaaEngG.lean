/- The engine: the parts Zu, Zv, Zw, Zx. -/
import Derived.Test.YtjjoopbebildfaaEngF
import Derived.Laws.BytesArg
/- The engine, part Zu: shifts, bytes made a string, an element taken out. -/
set_option linter.unusedVariables false
set_option linter.unusedSimpArgs false
namespace Go.Eng
open Go Go.RowKit
section rules
variable {cx : Cx} {s : St} {dst : Option Nat} {ty : TypeId} {pos : String} {aft : Array Edge}
def shD (op : BinOp) (k : IntKind) (a b : Int) : Option Value :=
  match op with
  | .shl => if b < 0 then none else some (.int k (k.wrap (a * 2 ^ (min b.toNat k.bits))))
  | .shr => if b < 0 then none else some (.int k (a.fdiv (2 ^ (min b.toNat k.bits))))
  | _ => none
theorem run_shD {P : Program} {op : BinOp} {k k' : IntKind} {a b : Int} {v : Value} (h : shD op k a b = some v) (t : TypeId) (x y : Operand) (w : World) : (do eqGuard op t x y (.int k a) (.int k' b); binOp op t (.int k a) (.int k' b) : Sem Value).run P w = .ok v w ∧ v.oneCell' = true := by
  cases op <;> simp only [shD] at h <;> first
    | (cases h; done)
    | (split at h <;> first | (cases h; done) | (cases h; constructor <;> simp_all [eqGuard, binOp, Op.shift, Value.oneCell'] <;> (intro hh; omega)))
theorem p_sh {op : BinOp} {t yt : TypeId} {x y : Operand} {kk kk' : IntKind} {a b : Int} {v : Value} (hx : s.ev x = some (sc (.int kk a))) (hy : s.ev y = some (sc (.int kk' b))) (hv : shD op kk a b = some v) :
    Ps cx s (.binOp op t x y yt) ((sc v)) :=
  fun A w E S hI hT => by
    have h1 := sc_den (ev_den hT hx)
    have h2 := sc_den (ev_den hT hy)
    have h3 := fun w' => (run_shD (P := cx.P) (k' := kk') hv t x y w').1
    have h4 := (run_shD (P := cx.P) (k' := kk') hv t x y w).2
    refine ⟨v, fun w' hW _ _ _ _ _ => ?_, sc_mk h4⟩
    simp only [execOp, h1, h2]
    rw [Sem.run_bind, h3]
    rfl
/-- Bytes. -/
def encU : Int → Nat → T := fun n _ => .v (.int .u8 n)
def bytesOf (l : List Int) : List UInt8 := l.map fun n => UInt8.ofNat n.toNat
end rules
end Go.Eng

/- The engine, part Zv: nil cells of a struct, the answer's objects in their order; matches found. -/
set_option linter.unusedVariables false
set_option linter.unusedSimpArgs false
namespace Go.Eng
open Go Go.RowKit
section rules
variable {cx : Cx} {s : St} {R : Ending → World → Prop} {todo : List Item}
/-- The answer's objects, named in their order; the others forgotten. -/
def posN : List Nat → Nat → Option Nat
  | [], _ => none
  | i :: r, k => cond (Nat.beq i k) (some 0) ((posN r k).map (· + 1))
def AC.ren (is : List Nat) : AC → AC
  | .own i => match posN is i with | some j => .own j | none => .top
  | .t none x => .t none x
  | _ => .top
def AV.ren (is : List Nat) : AV → AV
  | .c a => .c (a.ren is)
  | .agg cs => .agg (cs.map (AC.ren is))
  | .tup vs => .tup (vs.map fun x => (x.1, x.2.map (AC.ren is)))
def renT (is : List Nat) (l : List (Nat × Option AV)) : List (Nat × Option AV) := l.map fun x => (x.1, x.2.map (AV.ren is))
def unpin : Option Ob → Option Ob
  | some (.row _ e deep sz enc xs) => some (.row none e deep sz enc xs)
  | _ => none
def renO (ob : List (Nat × Option Ob)) : List Nat → Nat → List (Nat × Option Ob)
  | [], _ => []
  | i :: is, j => (j, unpin (alook ob i)) :: renO ob is (j + 1)
def nodupN : List Nat → Bool
  | [] => true
  | i :: r => (r.all fun k => !(Nat.beq i k)) && nodupN r
end rules
/-! ### matches found -/
end Go.Eng

/- The engine, part Zw: contracts that leave a row's type open; violations; marks of relations and dependencies. -/
set_option linter.unusedVariables false
set_option linter.unusedSimpArgs false
namespace Go.Eng
open Go Go.RowKit
/-- What a function that only reads answers, the type of its rows left open. -/
def PuE (P : Program) (f : FuncId) (args : List AV) (ob : Nat → List (Nat × Option Ob)) (nx : Nat) (res : AV) : Prop :=
  ∀ (n : Nat) (w : World) (S : Nat → Prop) (vs : List Value), (∀ k, S k → k < w.heap.size) → denA (fun _ => dead) S w args vs →
    Calls P f vs.toArray w fun e w' => ∃ et, post P f n w S (ob et) nx res e w'
section rules
variable {cx : Cx} {s : St} {dst : Option Nat} {ty : TypeId} {pos : String} {aft : Array Edge} {R : Ending → World → Prop} {k : List Item} {ops : Array Oper} {rest : List Oper}
/-- One operation, carried out; the state after it is one of a family. -/
def OsE {ι : Type} (cx : Cx) (s : St) (o : Oper) (s' : ι → St) : Prop :=
  ∀ (Q : Exit → Act → World → Prop) (a : Act) (w : World), Gm cx s a w → o.wp cx.P a w (fun a' w' => ∃ i, Gm cx (s' i) a' w') Q
end rules
/-! ### violations -/
def actD (rs : Rels) (fs : Atoms) (d : Dep) : List (List Int) := actL rs fs d.1 d.2.1 d.2.2.1 d.2.2.2.1 d.2.2.2.2
def hotD (rs : Rels) (fs : Atoms) (d : Dep) : Bool := decide (0 < (actD rs fs d).length)
def vioOk (rs : Rels) (fs : Atoms) (ds : List Dep) : Bool := instOk rs fs && (depsOk rs ds && ds.any (hotD rs fs))
def vioI (rs : Rels) (fs : Atoms) (ds : List Dep) : Int := if vioOk rs fs ds = true then idxI (hotD rs fs) ds else 0
def vioB (rs : Rels) (fs : Atoms) (ds : List Dep) : List Int := if vioOk rs fs ds = true then (actD rs fs (ds.getD (idxI (hotD rs fs) ds).toNat ([], [], false, 0, 0))).headD [] else []
def vioS (rs : Rels) (fs : Atoms) (ds : List Dep) : Bool := !vioOk rs fs ds && (instOk rs fs && depsOk rs ds)
section
variable {rs : Rels} {fs : Atoms} {ds : List Dep} {m n : Nat} {z : Dep}
end
/-! ### texts of numbers; marks of relations, dependencies -/
def digs : Nat → List UInt8
  | 0 => []
  | k + 1 => digs ((k + 1) / 10) ++ [UInt8.ofNat (48 + (k + 1) % 10)]
def mtx (k : Int) : List UInt8 := 109 :: digs k.toNat
def markR : Int → List UInt8 × Int × Bool → List UInt8 × Int × Bool := fun k _ => (mtx k, k + 1, decide ((k + 2).tmod 3 = 0))
def ct3 {α : Type} : α → Nat := fun _ => 3
def markRS : Int → Rels → Rels := mkL markR ct3
def ctD : Dep → Nat := fun x => szS (fun (y : Int × List Int) => y.2.length) x.1 + szS (fun (y : Int × List Int) => y.2.length) x.2.1 + 3
def markD : Int → Dep → Dep := fun k x =>
  let a := k + ((szS (fun (y : Int × List Int) => y.2.length) x.1 : Nat) : Int)
  let b := a + ((szS (fun (y : Int × List Int) => y.2.length) x.2.1 : Nat) : Int)
  (markATS k x.1, markATS a x.2.1, decide (b.tmod 3 = 0), b + 1, b + 2)
def markDS : Int → List Dep → List Dep := mkL markD ctD
end Go.Eng

/- Models: sizes of rows of rows; marks' sizes. -/
set_option linter.unusedVariables false
set_option linter.unusedSimpArgs false
namespace Go.Eng
open Go Go.RowKit
end Go.Eng
namespace Go.Eng
open Go Go.RowKit
end Go.Eng
