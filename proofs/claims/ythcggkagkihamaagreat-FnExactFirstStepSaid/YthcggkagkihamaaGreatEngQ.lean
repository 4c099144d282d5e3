import Derived.Test.YthcggkagkihamaaGreatEngP
import Derived.Lib.AppendIntMem
set_option linter.unusedVariables false
set_option linter.unusedSimpArgs false
namespace Go.Eng
open Go Go.RowKit Go.Proofs
def PuX (X : World → Prop) (P : Program) (f : FuncId) (args : List AV) (ob : List (Nat × Option Ob)) (nx : Nat) (res : AV) : Prop :=
 ∀ (n : Nat) (w : World) (S : Nat → Prop) (vs : List Value), X w → (∀ k, S k → k < w.heap.size) → denA (fun _ => dead) S w args vs →
  Calls P f vs.toArray w fun e w' => ∃ u E' S', e = .returned u ∧ Inv ⟨P, f, n, w, S, fun _ => False⟩ ob nx E' S' w' ∧ denV E' S' w' res u
section
variable {cx : Cx} {s : St} {dst : Option Nat} {ty : TypeId} {pos : String} {aft : Array Edge}
end
def tabX (P : Program) (w : World) : Prop := Lib.TabIs P w "internal/strconv.uint64pow10" .u64 Lib.pow10Tab
def fmtI (n : Int) : List UInt8 := if n < 0 then 45 :: digs n.natAbs else fmtN n
def fmtV (v : Int) : List UInt8 := if -40 ≤ v ∧ v ≤ -1 then 110 :: fmtN (-1 - v) else if 0 ≤ v ∧ v ≤ 9 then fmtN v else []
def fmtV1 (v : Int) : List UInt8 := if fmtV v = [] then [45] else fmtV v
def fmtS (d : Int) (b : List Int) : List UInt8 := (fmtI d ++ [58]) ++ Lib.join (b.map fmtV1) [44]
section
variable {v : Int} {b : List Int} {m : Nat} {z : Int}
end
end Go.Eng
