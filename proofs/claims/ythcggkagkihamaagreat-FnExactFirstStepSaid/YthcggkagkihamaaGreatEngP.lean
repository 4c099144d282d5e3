import Derived.Test.YthcggkagkihamaaGreatEngO
set_option linter.unusedVariables false
set_option linter.unusedSimpArgs false
namespace Go.Eng
open Go Go.RowKit Go.Proofs
def fmtA (rs : Rels) (a : Int × List Int) : List UInt8 := if atomOk rs a.1 a.2 = true then (rs.getD a.1.toNat ([], 0, false)).1 ++ a.2.flatMap fmtT else []
def fmtAs (rs : Rels) (l : Atoms) : List UInt8 := Lib.join (l.map (fmtA rs)) [32]
def fmtD (rs : Rels) (d : Dep) : List UInt8 := if depOk rs d.1 d.2.1 d.2.2.1 d.2.2.2.1 d.2.2.2.2 = true then (if d.2.2.1 = true then fmtAs rs d.1 ++ [61] ++ fmtT d.2.2.2.1 ++ fmtT d.2.2.2.2 else fmtAs rs d.1 ++ [62] ++ fmtAs rs d.2.1) else []
def fmtDs (rs : Rels) (ds : List Dep) : List UInt8 := if depsOk rs ds = true then Lib.join (ds.map (fmtD rs)) [59] else []
section
variable {rs : Rels} {a0 a1 : Atoms} {a2 : Bool} {a3 a4 : Int}
end
def goP : Rels → Int → List UInt8
 | [], _ => []
 | x :: r, p => if x.2.1 ≤ p then goP r (p - x.2.1) else x.1 ++ fmtN p
def posT (rs : Rels) (p : Int) : List UInt8 := if 0 ≤ p ∧ p ≤ cntP rs - 1 then goP rs p else []
section
variable {rs : Rels} {p q i : Int} {m : Nat} {z : List UInt8 × Int × Bool}
def lowP (rs : Rels) (p : Int) (m : Nat) (i : Int) : Prop := p < 0 ∨ relsOk rs = false ∨ sumA (rs.take m) + i ≤ p ∨ sumA (rs.take (m + 1)) ≤ p
end
section
variable {rs : Rels} {ds : List Dep} {m : Nat}
def fmtW (rs : Rels) (ds : List Dep) : List UInt8 := if depsOk rs ds = true then (if spcF rs ds = true then posT rs (spcE rs ds).1 ++ [62] ++ posT rs (spcE rs ds).2.1 else [111, 107]) else []
end
end Go.Eng
