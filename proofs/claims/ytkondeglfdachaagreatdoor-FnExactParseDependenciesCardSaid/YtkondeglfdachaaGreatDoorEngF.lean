import Derived.Test.YtkondeglfdachaaGreatDoorEngE
import Derived.Shelf.SortM.Plain
import Derived.Shelf.SortM.SortNone
import Derived.Shelf.SlGeneric
import Derived.Ground.SlgmProg
import Derived.Laws.CopyRow
set_option linter.unusedVariables false
set_option linter.unusedSimpArgs false
namespace Go.Eng
open Go Go.RowKit

theorem put_heap (w : World) (k g : Nat) (d : Array Int) (os : Array Obj) (cur : Array Value) (e : Nat) (h : w.heap[g]? = some (.cells cur e (0, 0))) :
  (Go.Sort.grow (Go.Sort.putRow (Value.int .i64) (Go.Sort.ahead w k) g 0 d) os).heap[g]? = some (.cells (Go.Sort.putCells (Value.int .i64) 0 d cur) e (0, 0)) := by
 have hg : g < w.heap.size := (Array.getElem?_eq_some_iff.1 h).1
 rw [Go.Sort.heap_grow_old _ _ (by simpa using hg)]
 show ((Go.Sort.ahead w k).heap.modify g _)[g]? = _
 rw [Array.getElem?_modify, if_pos rfl]
 show Option.map _ (w.heap[g]?) = _
 rw [h]
 rfl
theorem put_other (w : World) (k g : Nat) (d : Array Int) (os : Array Obj) {b : Nat} (hb : b < w.heap.size) (hne : b ≠ g) :
  (Go.Sort.grow (Go.Sort.putRow (Value.int .i64) (Go.Sort.ahead w k) g 0 d) os).heap[b]? = w.heap[b]? := by
 rw [Go.Sort.heap_grow_old _ _ (by simpa using hb)]
 show ((Go.Sort.ahead w k).heap.modify g _)[b]? = _
 rw [Array.getElem?_modify, if_neg (Ne.symm hne)]
 rfl
theorem put_take (l : List Int) (cur : Array Value) (h : l.length ≤ cur.size) : (Go.Sort.putCells (Value.int .i64) 0 l.toArray cur).toList.take l.length = l.map (Value.int .i64) := by
 apply List.ext_getElem?
 intro j
 rw [List.getElem?_take, List.getElem?_map]
 by_cases hj : j < l.length
 ·rw [if_pos hj, Array.getElem?_toList]
  unfold Go.Sort.putCells
  rw [Array.getElem?_mapIdx, Array.getElem?_eq_getElem (by omega), Option.map_some, if_pos ⟨Nat.zero_le _, by simpa using hj⟩, List.getElem?_eq_getElem hj, Option.map_some]
  congr 1
  rw [getElem!_pos l.toArray _ (by simpa using hj)]
  simp
 ·rw [if_neg hj, List.getElem?_eq_none (by omega)]
  rfl
theorem sort_mu {P : Program} {ρ : Go.Shelf.Ren} (Ly : Go.Proofs.SlLaysM.n5 P ρ) (U : Nat → Value) (e0 : Nat) (l : List Int) (hl : l.length < 4611686018427387904) :
  Mu P (ρ.f 5) [.c (.own 0)] [(0, some (.row (some (U 0)) e0 true 1 encI l))] 1 [(0, some (.row (some (U 0)) e0 true 1 encI (sortI l)))] 1 (.tup []) := by
 intro n w E S vs hI hA
 obtain ⟨hl0, hrd, hpn, ho⟩ := hI.obs 0 _ rfl
 obtain ⟨v, hv, hdv⟩ := hA.2 0 _ rfl
 have hvs : vs = [(E 0).u] := by
  have h1 := hA.1
  match vs, h1, hv with
  | [x], _, hv => cases hv; rw [hdv.2.1]
 subst hvs
 simp only [if_true] at ho
 obtain ⟨cells, G, hown, hF, hG, hd, hx⟩ := ho
 have hdone : ∀ w' : World, denV E S w' (.tup []) (.tuple #[]) := fun w' => ⟨[], rfl, rfl, fun j b cs h => by simp at h⟩
 have hown0 := hown
 obtain ⟨hlen, hor⟩ := hown
 by_cases h0 : l = []
 ·subst h0
  have hE : ∃ A cap, (E 0).u = .slice A 0 cap := by
   rcases hor with ⟨h, _⟩ | ⟨g, cap, cur, h, _⟩
   ·exact ⟨_, _, h⟩
   ·exact ⟨_, _, h⟩
  obtain ⟨A, cap, hu⟩ := hE
  rw [hu]
  refine (Go.Proofs.AnyM.slices_Sort_int_none Ly A cap w).mono ?_
  rintro e w' ⟨rfl, rfl⟩
  have hs : sortI [] = [] := List.eq_nil_of_length_eq_zero (sortI_len [])
  rw [hs]
  exact ⟨_, E, S, rfl, hI, hdone _⟩
 ·rcases hor with ⟨_, hn⟩ | ⟨g, cap, cur, hu, _, hh, hcap, hmax, hsz, htk⟩
  ·exact absurd (List.eq_nil_of_length_eq_zero hn) h0
  ·have hg : g < w.heap.size := (Array.getElem?_eq_some_iff.1 hh).1
   have hblk : (E 0).F g := hF g (by rw [hu]; rfl)
   have hH : Go.Sort.Holds (Value.int .i64) w g 0 l.toArray := by
    intro j hj
    have hj' : j < l.length := by simpa using hj
    obtain ⟨u', h1, h2⟩ := hx j l[j] (List.getElem?_eq_getElem hj') 0 Nat.one_pos
    have h3 : u' = .int .i64 l[j] := h2.1
    subst h3
    rw [Nat.mul_one, Nat.add_zero] at h1
    refine ⟨?_, ?_⟩
    ·have h4 := World.ownsRow.cells hown0 (g := g) (by rw [hu]; rfl) j _ h1
     rw [getElem!_pos l.toArray j hj, Nat.zero_add]
     have h5 : (⟨g, 0, none⟩ : Addr).add j = ⟨g, j, none⟩ := by simp [Addr.add]; exact fun h => h.symm
     rw [h5] at h4
     simpa using h4
    ·simp [World.frozen?, hh]
   rw [hu]
   refine (Go.Proofs.AnyM.slices_Sort_int Ly g 0 cap l w hH hg hl).mono ?_
   rintro e w' ⟨rfl, k, os, rfl⟩
   have hs : (l.mergeSort fun x y => decide (x ≤ y)) = sortI l := rfl
   rw [hs]
   have hsl := sortI_len l
   have hgr : w.heap.size ≤ (Go.Sort.grow (Go.Sort.putRow (Value.int .i64) (Go.Sort.ahead w k) g 0 (sortI l).toArray) os).heap.size := by simp
   refine ⟨_, E, S, rfl, ⟨fun b hb => Nat.lt_of_lt_of_le (hI.slt b hb) hgr, hI.snew, fun j o hj => ?_, hI.dis, fun i hi b hb => ?_, hI.nxt, ?_⟩, hdone _⟩
   ·rw [alook_cons] at hj
    split at hj
    ·rename_i hj0
     subst hj0
     cases hj
     refine ⟨hl0, hrd, hpn, ?_⟩
     simp only [if_true]
     refine ⟨(sortI l).map (Value.int .i64), fun _ _ _ => False, ⟨by simp, .inr ⟨g, cap, _, by rw [hu, hsl], Nat.zero_le _, put_heap w k g _ os cur e0 hh, by omega, hmax, ?_, ?_⟩⟩, hF, fun _ _ _ h => h.elim, fun _ _ _ _ _ h => h.elim, fun i x hi j hj => ?_⟩
     ·simp [Go.Sort.putCells]
      omega
     ·rw [Nat.mul_one]
      exact put_take _ _ (by omega)
     ·have : j = 0 := by omega
      subst this
      refine ⟨.int .i64 x, ?_, rfl, rfl⟩
      rw [Nat.mul_one, Nat.add_zero, List.getElem?_map, hi]
      rfl
    ·simp [alook] at hj
   ·obtain ⟨h1, h2, h3⟩ := hI.fp i hi b hb
    exact ⟨Nat.lt_of_lt_of_le h1 hgr, h2, h3⟩
   ·refine ⟨rfl, rfl, rfl, hgr, fun b hb hM => put_other w k g _ os hb fun h => ?_⟩
    subst h
    exact hM ⟨0, hl0, hblk⟩
end Go.Eng

set_option linter.unusedVariables false
set_option linter.unusedSimpArgs false
namespace Go.Eng
open Go Go.RowKit
def ctA : Int × List Int → Nat := fun x => 1 + x.2.length
def markAT : Int → Int × List Int → Int × List Int := fun k x => (k, seqI (k + 1) x.2.length)
def markATS : Int → List (Int × List Int) → List (Int × List Int) := mkL markAT ctA
theorem ctA_sum (l : List (Int × List Int)) : (l.map ctA).sum = szS (fun (x : Int × List Int) => x.2.length) l := by
 unfold szS
 induction l with
 | nil => rfl
 | cons x l ih =>
  simp only [List.map_cons, List.sum_cons, ih, List.length_cons]
  unfold ctA
  omega
theorem ctA_part (l : List (Int × List Int)) (m : Nat) : szT ctA l m ≤ szS (fun (x : Int × List Int) => x.2.length) l := by
 rw [← ctA_sum]
 unfold szT
 have h : ((l.take m).map ctA).sum + ((l.drop m).map ctA).sum = (l.map ctA).sum := by
  rw [← List.sum_append, ← List.map_append, List.take_append_drop]
 omega
theorem markATS_idem (k : Int) (l : List (Int × List Int)) : markATS k (markATS k l) = markATS k l := mkL_idem (fun k x => by simp [markAT, seqI_length]) (fun k x => by simp [markAT, ctA, seqI_length]) k l
theorem markATS_sum (k : Int) (l : List (Int × List Int)) : ((markATS k l).map ctA).sum = (l.map ctA).sum := mkL_sum (fun k x => by simp [markAT, ctA, seqI_length]) k l
theorem markAT_set {k : Int} {l : List (Int × List Int)} {m : Nat} {z y y1 : Int × List Int} (h : l[m]? = some z) (hy : y = markAT (k + ((szT ctA l m : Nat) : Int)) z) : ((mkL markAT ctA k (l.take m) ++ l.drop m).set m y1).set m y = mkL markAT ctA k (l.take (m + 1)) ++ l.drop (m + 1) := by
 rw [List.set_set]
 exact mkL_set h hy
theorem set_at {α : Type} {l : List α} {n : Nat} {y z : α} (h : (l.set n y)[n]? = some z) : z = y := by
 rw [List.getElem?_set] at h
 simp only [if_true] at h
 split at h
 ·exact (Option.some.inj h).symm
 ·cases h
section
variable {α : Type} {p : α → Bool} {l : List α} {m : Nat} {z : α}
end
def selV (q : Bool) (B H : List Int) : List Int := H.filter fun x => hasI B x == q
end Go.Eng

set_option linter.unusedVariables false
set_option linter.unusedSimpArgs false
namespace Go.Eng
open Go Go.RowKit
def isN (v : Int) : Bool := decide (-40 ≤ v ∧ v ≤ -1)
def numN (v : Int) : Int := if -40 ≤ v ∧ v ≤ -1 then -1 - v else 0
def nulV (l : List Int) : List Int := (l.filter isN).map numN
def flatT (l : List (Int × List Int)) : List Int := l.flatMap fun a => a.2
def nextN (s : List Int) : Int := if s.length = 0 then 0 else IntKind.i64.wrap (s.getD (s.length - 1) 0 + 1)
def valOk (v : Int) : Bool := decide (-40 ≤ v ∧ v ≤ 9)
def factOk (rs : Rels) (r : Int) (ts : List Int) : Bool :=
 relsOk rs && (decide (0 ≤ r ∧ r ≤ (rs.length : Int) - 1) && ((match rs[r.toNat]? with | some x => decide (((ts.length : Nat) : Int) = x.2.1) | none => false) && !ts.any fun t => !valOk t))
section
variable {rs : Rels} {r : Int} {ts : List Int}
end
def cmpI (x y : Int) : Int := if x < y then -1 else if y < x then 1 else 0
def orI : List Int → Int
 | [] => 0
 | x :: l => if x ≠ 0 then x else orI l
def cmpF (f g : Int × List Int) : Int := if f.1 < g.1 then -1 else if g.1 < f.1 then 1 else cmpL f.2 g.2
def instStep (rs : Rels) (l : Atoms) (j : Nat) : Bool := match l[j]? with
 | some z => factOk rs z.1 z.2 && ((decide (j = 0) || match l[j - 1]? with | some y => decide (cmpF y z < 0) | none => false) && !(srcA rs z && decide (0 < (setI (nulV z.2)).length)))
 | none => true
def instOk (rs : Rels) (l : Atoms) : Bool := decide (∀ j, j < l.length → instStep rs l j = true) && (relsOk rs && decide (l.length ≤ 30))
section
variable {rs : Rels} {l : Atoms} {m : Nat}
end
end Go.Eng

set_option linter.unusedVariables false
set_option linter.unusedSimpArgs false
namespace Go.Eng
open Go Go.RowKit
section rules
variable {cx : Cx} {s : St} {dst : Option Nat} {ty : TypeId} {pos : String} {aft : Array Edge}
end rules
end Go.Eng

set_option linter.unusedVariables false
set_option linter.unusedSimpArgs false
namespace Go.Eng
open Go Go.RowKit
section rules
variable {cx : Cx} {s : St} {dst : Option Nat} {ty : TypeId} {pos : String} {aft : Array Edge}
end rules
def fitStep (b : List Int) (p : Int × Int) : Option (List Int) :=
 if p.1 < 0 then (if -1 - p.1 = p.2 then some b else none)
 else match b[p.1.toNat]? with
  | some y => if y = 10 ∨ y = p.2 then some (b.set p.1.toNat p.2) else none
  | none => none
def fitP : List Int → List (Int × Int) → List Int × Bool
 | b, [] => (b, true)
 | b, p :: ps => match fitStep b p with
  | some b' => fitP b' ps
  | none => (b, false)
section
variable {ts vs b q : List Int} {m n n' : Nat} {t v y : Int}
end
def fitF (a f : Int × List Int) (b : List Int) : List Int × Bool := if a.1 = f.1 then fitP b (a.2.zip f.2) else (b, false)
def matchL (fs : List (Int × List Int)) : List (Int × List Int) → List Int → List (List Int)
 | [], b => [b]
 | a :: al, b => fs.flatMap fun f => if (fitF a f b).2 = true then matchL fs al (fitF a f b).1 else []
def matchM (fs : List (Int × List Int)) (l : List (Int × List Int)) (b : List Int) (m : Nat) : List (List Int) := match l with
 | [] => [b]
 | a :: al => (fs.take m).flatMap fun f => if (fitF a f b).2 = true then matchL fs al (fitF a f b).1 else []
section
variable {fs l : List (Int × List Int)} {b : List Int} {m n n' : Nat} {a f : Int × List Int}
end
def mtOk (rs : Rels) (fs l : Atoms) : Bool := instOk rs fs && (decide (l.length ≤ 3) && !l.any (badA rs))
def hasE (rs : Rels) (fs l : Atoms) (b : List Int) : Bool := mtOk rs fs l && (decide (b.length = 5) && decide (0 < (matchL fs l b).length))
end Go.Eng

set_option linter.unusedVariables false
set_option linter.unusedSimpArgs false
namespace Go.Eng
open Go Go.RowKit
def hasF (fs : Atoms) (f : Int × List Int) : Bool := fs.any fun x => decide (cmpF x f = 0)
def varStep (V b : List Int) (j : Nat) : Bool := match b[j]? with
 | some z => decide (z = 10) != hasI V (j : Int)
 | none => true
def varsOk (V b : List Int) : Bool := decide (∀ j, j < b.length → varStep V b j = true)
def trgStep (fs : Atoms) (b : List Int) (a : Int × List Int) : Bool := match instV b a.2 with
 | some v => hasF fs (a.1, v)
 | none => false
def trgOk (rs : Rels) (fs a0 a1 : Atoms) (a2 : Bool) (a3 a4 : Int) (b : List Int) : Bool :=
 (instOk rs fs && (depOk rs a0 a1 a2 a3 a4 && decide (b.length = 5))) && (varsOk (setI (varsL a0)) b && a0.all (trgStep fs b))
section
variable {V b : List Int} {m : Nat} {z : Int} {fs : Atoms} {a : Int × List Int}
end
end Go.Eng

set_option linter.unusedVariables false
set_option linter.unusedSimpArgs false
namespace Go.Eng
open Go Go.RowKit
def actOk (rs : Rels) (fs a0 a1 : Atoms) (a2 : Bool) (a3 a4 : Int) (b : List Int) : Bool :=
 trgOk rs fs a0 a1 a2 a3 a4 b && (if a2 = true then decide (b.getD a3.toNat 0 ≠ b.getD a4.toNat 0) else !hasE rs fs a1 b)
theorem var_range {rs : Rels} {a0 : Atoms} {most x : Int} (h : atomsOk rs a0 most = true) (hx : hasI (setI (varsL a0)) x = true) : 0 ≤ x ∧ x < 5 := by
 unfold hasI at hx
 rw [List.any_eq_true] at hx
 obtain ⟨y, hy, e⟩ := hx
 have e : y = x := of_decide_eq_true e
 subst e
 rw [setI_mem] at hy
 obtain ⟨a, ha, hy⟩ := List.mem_flatMap.1 hy
 unfold nonneg at hy
 rw [List.mem_filter] at hy
 have h0 : 0 ≤ y := of_decide_eq_true hy.2
 have h1 := (atomsOk_all h).2.2 a ha
 unfold atomOk at h1
 simp only [Bool.and_eq_true, Bool.not_eq_true', List.any_eq_false] at h1
 have h2 := h1.2.2.2 y hy.1
 have h3 : termOk y = true := by simpa using h2
 unfold termOk at h3
 have := of_decide_eq_true h3
 omega
end Go.Eng

set_option linter.unusedVariables false
set_option linter.unusedSimpArgs false
namespace Go.Eng
open Go Go.RowKit
def encK {α : Type} (enc : α → Nat → T) : Value ⊕ α → Nat → T
 | .inl v, _ => .v v
 | .inr x, j => enc x j
def tkL {α : Type} (vs : List Value) (L : List α) : List (Value ⊕ α) := vs.map .inl ++ (L.drop vs.length).map .inr
section
variable {α : Type} {vs : List Value} {L : List α} {m : Nat} {l : α} {v : Value}
end
section rules
variable {cx : Cx} {s : St} {dst : Option Nat} {ty : TypeId} {pos : String} {aft : Array Edge} {R : Ending → World → Prop} {todo : List Item}
end rules
end Go.Eng

set_option linter.unusedVariables false
set_option linter.unusedSimpArgs false
namespace Go.Eng
open Go Go.RowKit
def hasR (out : List (List Int)) (x : List Int) : Bool := out.any fun y => decide (y = x)
def dedL (l : List (List Int)) : List (List Int) := l.foldl (fun out x => if hasR out x = true then out else out ++ [x]) []
section
variable {l : List (List Int)} {m n : Nat} {z : List Int}
end
def freeB : List Int := [10, 10, 10, 10, 10]
def findL (rs : Rels) (fs l : Atoms) : List (List Int) := if mtOk rs fs l = true then dedL (matchL fs l freeB) else []
def actL (rs : Rels) (fs a0 a1 : Atoms) (a2 : Bool) (a3 a4 : Int) : List (List Int) :=
 if depOk rs a0 a1 a2 a3 a4 = true then (findL rs fs a0).filter (actOk rs fs a0 a1 a2 a3 a4) else []
end Go.Eng

set_option linter.unusedVariables false
set_option linter.unusedSimpArgs false
namespace Go.Eng
open Go Go.RowKit
section rules
variable {cx : Cx} {s : St} {dst : Option Nat} {ty : TypeId} {pos : String} {aft : Array Edge}
def binD (op : BinOp) (k : IntKind) (a b : Int) : Option Value :=
 match op with
 | .quo => if b = 0 then none else some (.int k (k.wrap (a.tdiv b)))
 | .rem => if b = 0 then none else some (.int k (a.tmod b))
 | .and => some (.int k (k.wrap (BitVec.ofInt k.bits a &&& BitVec.ofInt k.bits b).toNat))
 | .xor => some (.int k (k.wrap (BitVec.ofInt k.bits a ^^^ BitVec.ofInt k.bits b).toNat))
 | _ => none
theorem run_binD {P : Program} {op : BinOp} {k : IntKind} {a b : Int} {v : Value} (h : binD op k a b = some v) (t : TypeId) (x y : Operand) (w : World) : (do eqGuard op t x y (.int k a) (.int k b); binOp op t (.int k a) (.int k b) : Sem Value).run P w = .ok v w ∧ v.oneCell' = true := by
 cases op <;> simp only [binD] at h <;> first
  | (cases h; done)
  | (split at h <;> first | (cases h; done) | (cases h; constructor <;> simp_all [eqGuard, binOp, Op.intDiv, Value.oneCell']))
  | (cases h; constructor <;> simp [eqGuard, binOp, Op.intBits, Value.oneCell'])
theorem p_binD {op : BinOp} {t yt : TypeId} {x y : Operand} {kk : IntKind} {a b : Int} {v : Value} (hx : s.ev x = some (sc (.int kk a))) (hy : s.ev y = some (sc (.int kk b))) (hv : binD op kk a b = some v) :
  Ps cx s (.binOp op t x y yt) ((sc v)) :=
 fun A w E S hI hT => by
  have h1 := sc_den (ev_den hT hx)
  have h2 := sc_den (ev_den hT hy)
  have h3 := fun w' => (run_binD (P := cx.P) hv t x y w').1
  have h4 := (run_binD (P := cx.P) hv t x y w).2
  refine ⟨v, fun w' hW _ _ _ _ _ => ?_, sc_mk h4⟩
  simp only [execOp, h1, h2]
  rw [Sem.run_bind, h3]
  rfl
theorem o_binD {op : BinOp} {t yt : TypeId} {x y : Operand} {kk : IntKind} {a b : Int} {v : Value} (hd : okd dst cx.n = true) (hx : s.ev x = some (sc (.int kk a))) (hy : s.ev y = some (sc (.int kk b))) (hv : binD op kk a b = some v) :
  Os cx s ⟨dst, .binOp op t x y yt, ty, pos, aft, none⟩ (s.sets dst (some (sc v))) true := o_value hd (p_binD hx hy hv)
end rules
end Go.Eng
