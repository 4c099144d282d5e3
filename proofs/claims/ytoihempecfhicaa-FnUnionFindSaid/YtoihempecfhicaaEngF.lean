/- The engine: the parts Zk, Zl, Zm, Zn, Zo, Zp, Zq, Zr, Zs, Zt. -/
import Derived.Test.YtoihempecfhicaaEngE
import Derived.Shelf.SortM.Plain
import Derived.Shelf.SortM.SortNone
import Derived.Shelf.SlGeneric
import Derived.Ground.SlgmProg
import Derived.Laws.CopyRow
/- The engine, part Zk: slices.Sort on ints, whatever length: by the shelf's contract. -/
set_option linter.unusedVariables false
set_option linter.unusedSimpArgs false
namespace Go.Eng
open Go Go.RowKit

end Go.Eng

/- The engine, part Zl: marks of lists of atoms; elements selected. -/
set_option linter.unusedVariables false
set_option linter.unusedSimpArgs false
namespace Go.Eng
open Go Go.RowKit
def ctA : Int × List Int → Nat := fun x => 1 + x.2.length
def markAT : Int → Int × List Int → Int × List Int := fun k x => (k, seqI (k + 1) x.2.length)
def markATS : Int → List (Int × List Int) → List (Int × List Int) := mkL markAT ctA
section
variable {α : Type} {p : α → Bool} {l : List α} {m : Nat} {z : α}
end
/-- Of H the values that B holds (or not). -/
def selV (q : Bool) (B H : List Int) : List Int := H.filter fun x => hasI B x == q
end Go.Eng

/- Models: nulls, facts, instances. -/
set_option linter.unusedVariables false
set_option linter.unusedSimpArgs false
namespace Go.Eng
open Go Go.RowKit
def isN (v : Int) : Bool := decide (-40 ≤ v ∧ v ≤ -1)
def numN (v : Int) : Int := if -40 ≤ v ∧ v ≤ -1 then -1 - v else 0
def nulV (l : List Int) : List Int := (l.filter isN).map numN
/-- All terms, in order. -/
def flatT (l : List (Int × List Int)) : List Int := l.flatMap fun a => a.2
def nextN (s : List Int) : Int := if s.length = 0 then 0 else IntKind.i64.wrap (s.getD (s.length - 1) 0 + 1)
/-! facts -/
def valOk (v : Int) : Bool := decide (-40 ≤ v ∧ v ≤ 9)
def factOk (rs : Rels) (r : Int) (ts : List Int) : Bool :=
  relsOk rs && (decide (0 ≤ r ∧ r ≤ (rs.length : Int) - 1) && ((match rs[r.toNat]? with | some x => decide (((ts.length : Nat) : Int) = x.2.1) | none => false) && !ts.any fun t => !valOk t))
section
variable {rs : Rels} {r : Int} {ts : List Int}
end
def cmpI (x y : Int) : Int := if x < y then -1 else if y < x then 1 else 0
def orI : List Int → Int
  | [] => 0
  | x :: l => if x ≠ 0 then x else orI l
def cmpF (f g : Int × List Int) : Int := if f.1 < g.1 then -1 else if g.1 < f.1 then 1 else cmpL f.2 g.2
/-! instances -/
def instStep (rs : Rels) (l : Atoms) (j : Nat) : Bool := match l[j]? with
  | some z => factOk rs z.1 z.2 && ((decide (j = 0) || match l[j - 1]? with | some y => decide (cmpF y z < 0) | none => false) && !(srcA rs z && decide (0 < (setI (nulV z.2)).length)))
  | none => true
def instOk (rs : Rels) (l : Atoms) : Bool := decide (∀ j, j < l.length → instStep rs l j = true) && (relsOk rs && decide (l.length ≤ 30))
section
variable {rs : Rels} {l : Atoms} {m : Nat}
end
end Go.Eng

/- The engine, part Zn: a deep row appended to a deep row. -/
set_option linter.unusedVariables false
set_option linter.unusedSimpArgs false
namespace Go.Eng
open Go Go.RowKit
section rules
variable {cx : Cx} {s : St} {dst : Option Nat} {ty : TypeId} {pos : String} {aft : Array Edge}
end rules
end Go.Eng

/- The engine, part Zo: a row handed over for good, another kind of row handed back; matches. -/
set_option linter.unusedVariables false
set_option linter.unusedSimpArgs false
namespace Go.Eng
open Go Go.RowKit
section rules
variable {cx : Cx} {s : St} {dst : Option Nat} {ty : TypeId} {pos : String} {aft : Array Edge}
end rules
/-! ### matches -/
def fitStep (b : List Int) (p : Int × Int) : Option (List Int) :=
  if p.1 < 0 then (if -1 - p.1 = p.2 then some b else none)
  else match b[p.1.toNat]? with
    | some y => if y = 10 ∨ y = p.2 then some (b.set p.1.toNat p.2) else none
    | none => none
def fitP : List Int → List (Int × Int) → List Int × Bool
  | b, [] => (b, true)
  | b, p :: ps => match fitStep b p with
    | some b' => fitP b' ps
    | none => (b, false)
section
variable {ts vs b q : List Int} {m n n' : Nat} {t v y : Int}
end
def fitF (a f : Int × List Int) (b : List Int) : List Int × Bool := if a.1 = f.1 then fitP b (a.2.zip f.2) else (b, false)
def matchL (fs : List (Int × List Int)) : List (Int × List Int) → List Int → List (List Int)
  | [], b => [b]
  | a :: al, b => fs.flatMap fun f => if (fitF a f b).2 = true then matchL fs al (fitF a f b).1 else []
/-- What the first m facts give. -/
def matchM (fs : List (Int × List Int)) (l : List (Int × List Int)) (b : List Int) (m : Nat) : List (List Int) := match l with
  | [] => [b]
  | a :: al => (fs.take m).flatMap fun f => if (fitF a f b).2 = true then matchL fs al (fitF a f b).1 else []
section
variable {fs l : List (Int × List Int)} {b : List Int} {m n n' : Nat} {a f : Int × List Int}
end
/-! what may be matched -/
def mtOk (rs : Rels) (fs l : Atoms) : Bool := instOk rs fs && (decide (l.length ≤ 3) && !l.any (badA rs))
def hasE (rs : Rels) (fs l : Atoms) (b : List Int) : Bool := mtOk rs fs l && (decide (b.length = 5) && decide (0 < (matchL fs l b).length))
end Go.Eng

/- Models: triggers. -/
set_option linter.unusedVariables false
set_option linter.unusedSimpArgs false
namespace Go.Eng
open Go Go.RowKit
def hasF (fs : Atoms) (f : Int × List Int) : Bool := fs.any fun x => decide (cmpF x f = 0)
def varStep (V b : List Int) (j : Nat) : Bool := match b[j]? with
  | some z => decide (z = 10) != hasI V (j : Int)
  | none => true
def varsOk (V b : List Int) : Bool := decide (∀ j, j < b.length → varStep V b j = true)
def trgStep (fs : Atoms) (b : List Int) (a : Int × List Int) : Bool := match instV b a.2 with
  | some v => hasF fs (a.1, v)
  | none => false
def trgOk (rs : Rels) (fs a0 a1 : Atoms) (a2 : Bool) (a3 a4 : Int) (b : List Int) : Bool :=
  (instOk rs fs && (depOk rs a0 a1 a2 a3 a4 && decide (b.length = 5))) && (varsOk (setI (varsL a0)) b && a0.all (trgStep fs b))
section
variable {V b : List Int} {m : Nat} {z : Int} {fs : Atoms} {a : Int × List Int}
end
end Go.Eng

/- Models: active triggers. -/
set_option linter.unusedVariables false
set_option linter.unusedSimpArgs false
namespace Go.Eng
open Go Go.RowKit
def actOk (rs : Rels) (fs a0 a1 : Atoms) (a2 : Bool) (a3 a4 : Int) (b : List Int) : Bool :=
  trgOk rs fs a0 a1 a2 a3 a4 b && (if a2 = true then decide (b.getD a3.toNat 0 ≠ b.getD a4.toNat 0) else !hasE rs fs a1 b)
end Go.Eng

/- The engine, part Zr: an element's row taken out of a deep row. -/
set_option linter.unusedVariables false
set_option linter.unusedSimpArgs false
namespace Go.Eng
open Go Go.RowKit
/-- An element that has been taken out is but its value. -/
def encK {α : Type} (enc : α → Nat → T) : Value ⊕ α → Nat → T
  | .inl v, _ => .v v
  | .inr x, j => enc x j
def tkL {α : Type} (vs : List Value) (L : List α) : List (Value ⊕ α) := vs.map .inl ++ (L.drop vs.length).map .inr
section
variable {α : Type} {vs : List Value} {L : List α} {m : Nat} {l : α} {v : Value}
end
section rules
variable {cx : Cx} {s : St} {dst : Option Nat} {ty : TypeId} {pos : String} {aft : Array Edge} {R : Ending → World → Prop} {todo : List Item}
end rules
end Go.Eng

/- Models: matches found, active triggers, violations. -/
set_option linter.unusedVariables false
set_option linter.unusedSimpArgs false
namespace Go.Eng
open Go Go.RowKit
def hasR (out : List (List Int)) (x : List Int) : Bool := out.any fun y => decide (y = x)
def dedL (l : List (List Int)) : List (List Int) := l.foldl (fun out x => if hasR out x = true then out else out ++ [x]) []
section
variable {l : List (List Int)} {m n : Nat} {z : List Int}
end
def freeB : List Int := [10, 10, 10, 10, 10]
def findL (rs : Rels) (fs l : Atoms) : List (List Int) := if mtOk rs fs l = true then dedL (matchL fs l freeB) else []
/-- The active triggers. -/
def actL (rs : Rels) (fs a0 a1 : Atoms) (a2 : Bool) (a3 a4 : Int) : List (List Int) :=
  if depOk rs a0 a1 a2 a3 a4 = true then (findL rs fs a0).filter (actOk rs fs a0 a1 a2 a3 a4) else []
end Go.Eng

/- The engine, part Zt: copy, quotients and bits, bytes made a string. -/
set_option linter.unusedVariables false
set_option linter.unusedSimpArgs false
namespace Go.Eng
open Go Go.RowKit
section rules
variable {cx : Cx} {s : St} {dst : Option Nat} {ty : TypeId} {pos : String} {aft : Array Edge}
/-- Quotient and remainder, by a number that is not nought; bits. -/
def binD (op : BinOp) (k : IntKind) (a b : Int) : Option Value :=
  match op with
  | .quo => if b = 0 then none else some (.int k (k.wrap (a.tdiv b)))
  | .rem => if b = 0 then none else some (.int k (a.tmod b))
  | .and => some (.int k (k.wrap (BitVec.ofInt k.bits a &&& BitVec.ofInt k.bits b).toNat))
  | .xor => some (.int k (k.wrap (BitVec.ofInt k.bits a ^^^ BitVec.ofInt k.bits b).toNat))
  | _ => none
theorem run_binD {P : Program} {op : BinOp} {k : IntKind} {a b : Int} {v : Value} (h : binD op k a b = some v) (t : TypeId) (x y : Operand) (w : World) : (do eqGuard op t x y (.int k a) (.int k b); binOp op t (.int k a) (.int k b) : Sem Value).run P w = .ok v w ∧ v.oneCell' = true := by
  cases op <;> simp only [binD] at h <;> first
    | (cases h; done)
    | (split at h <;> first | (cases h; done) | (cases h; constructor <;> simp_all [eqGuard, binOp, Op.intDiv, Value.oneCell']))
    | (cases h; constructor <;> simp [eqGuard, binOp, Op.intBits, Value.oneCell'])
theorem p_binD {op : BinOp} {t yt : TypeId} {x y : Operand} {kk : IntKind} {a b : Int} {v : Value} (hx : s.ev x = some (sc (.int kk a))) (hy : s.ev y = some (sc (.int kk b))) (hv : binD op kk a b = some v) :
    Ps cx s (.binOp op t x y yt) ((sc v)) :=
  fun A w E S hI hT => by
    have h1 := sc_den (ev_den hT hx)
    have h2 := sc_den (ev_den hT hy)
    have h3 := fun w' => (run_binD (P := cx.P) hv t x y w').1
    have h4 := (run_binD (P := cx.P) hv t x y w).2
    refine ⟨v, fun w' hW _ _ _ _ _ => ?_, sc_mk h4⟩
    simp only [execOp, h1, h2]
    rw [Sem.run_bind, h3]
    rfl
theorem o_binD {op : BinOp} {t yt : TypeId} {x y : Operand} {kk : IntKind} {a b : Int} {v : Value} (hd : okd dst cx.n = true) (hx : s.ev x = some (sc (.int kk a))) (hy : s.ev y = some (sc (.int kk b))) (hv : binD op kk a b = some v) :
    Os cx s ⟨dst, .binOp op t x y yt, ty, pos, aft, none⟩ (s.sets dst (some (sc v))) true := o_value hd (p_binD hx hy hv)
end rules
end Go.Eng
