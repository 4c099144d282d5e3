/- The engine: the parts Za, Zb, Zc, Zd, Ze, Zf, Zg, Zh, Zi, Zj. -/
import Derived.Test.YtahmpdfnnnibbaaDoorEngD
import Derived.Laws.Small
/- The engine, part Za: views of a row of the call's own; a row handed over for good. -/
set_option linter.unusedVariables false
set_option linter.unusedSimpArgs false
namespace Go.Eng
open Go Go.RowKit
section rules
variable {cx : Cx} {s : St} {k : List Item} {R : Ending → World → Prop} {dst : Option Nat} {ty : TypeId} {pos : String} {aft : Array Edge}
end rules
end Go.Eng

/- Models: sorted lists without repetitions. -/
set_option linter.unusedVariables false
set_option linter.unusedSimpArgs false
namespace Go.Eng
open Go Go.RowKit
/-! ### neighbours that are equal, once each -/
def compactI : List Int → List Int
  | [] => []
  | [x] => [x]
  | x :: y :: l => if x = y then compactI (y :: l) else x :: compactI (y :: l)
/-! ### put in its place, unless it is there -/
def putI : List Int → Int → List Int
  | [], x => [x]
  | y :: l, x => if y < x then y :: putI l x else if y = x then y :: l else x :: y :: l
/-- A list's numbers in ascending order, each once. -/
def setI (l : List Int) : List Int := l.foldl putI []
/-! ### sorted -/
def sortI (l : List Int) : List Int := l.mergeSort (fun a b => decide (a ≤ b))
end Go.Eng

/- The engine, part Zc: whole numbers converted, a view cleared. -/
set_option linter.unusedVariables false
set_option linter.unusedSimpArgs false
namespace Go.Eng
open Go Go.RowKit
section rules
variable {cx : Cx} {s : St} {dst : Option Nat} {ty : TypeId} {pos : String} {aft : Array Edge}
theorem p_conv {t t' : TypeId} {d : TypeDesc} {x : Operand} {k k' : IntKind} {n : Int} (hs : cx.P.underlying t = some d) (hd : cx.P.underlying t' = some (.int k')) (hx : s.ev x = some (sc (.int k n))) :
    Ps cx s (.convert t t' x) (sc (.int k' (k'.wrap n))) :=
  fun A w E S hI hT => by
    refine ⟨_, fun w' hW _ _ _ _ _ => ?_, sc_mk rfl⟩
    simp only [execOp, sc_den (ev_den hT hx)]
    have : (convert t t' (.int k n)).run cx.P w' = .ok (.int k' (k'.wrap n)) w' := by simp [convert, run_underlying hs, run_underlying hd, Conv.intToInt]
    rw [Sem.run_bind, this]
    rfl
theorem o_conv {t t' : TypeId} {d : TypeDesc} {x : Operand} {k k' : IntKind} {n : Int} (hd0 : okd dst cx.n = true) (hs : cx.P.underlying t = some d) (hd : cx.P.underlying t' = some (.int k')) (hx : s.ev x = some (sc (.int k n))) :
    Os cx s ⟨dst, .convert t t' x, ty, pos, aft, none⟩ (s.sets dst (some (sc (.int k' (k'.wrap n))))) true := o_value hd0 (p_conv hs hd hx)
end rules
end Go.Eng

/- The engine, part Zd: a pinned row whose pin is forgotten. -/
set_option linter.unusedVariables false
set_option linter.unusedSimpArgs false
namespace Go.Eng
open Go Go.RowKit
end Go.Eng

/- Models: insertion sort, and neighbours that are equal taken out. -/
set_option linter.unusedVariables false
set_option linter.unusedSimpArgs false
namespace Go.Eng
open Go Go.RowKit
def srtI (l q : List Int) (m : Nat) : Prop := q.Perm l ∧ q.length = l.length ∧ ∀ (p s : Nat) (x y : Int), p < s → s < m → q[p]? = some x → q[s]? = some y → x ≤ y
def insI (l r : List Int) (j m : Nat) : Prop := r.Perm l ∧ r.length = l.length ∧ j ≤ m ∧ ∀ (p s : Nat) (x y : Int), p < s → s ≤ m → s ≠ j → r[p]? = some x → r[s]? = some y → x ≤ y
/-- Behind the k elements that are kept the list is as it was. -/
def cmpK (l c : List Int) (k j : Nat) : Prop := c.length = l.length ∧ k < j ∧ j ≤ l.length ∧ c.take k = compactI (l.take j) ∧ c.drop k = l.drop k
end Go.Eng

/- The engine, part Zf: a slice of one element written out, a slice appended, an object renamed. -/
set_option linter.unusedVariables false
set_option linter.unusedSimpArgs false
namespace Go.Eng
open Go Go.RowKit
section rules
variable {cx : Cx} {s : St} {dst : Option Nat} {ty : TypeId} {pos : String} {aft : Array Edge}
theorem o_lit1 (i : Nat) {t e sz : Nat} {zs : List Value} {parts : Array (Nat × Operand)} {vs : List (Nat × AV)} {us : List AC} {α : Type} {enc : α → Nat → T} (z : α) (hi : s.nx = i) (hd : okd dst cx.n = true) (he : elemOf' cx.P t = some (e, sz, zs)) (hz : Nat.beq zs.length sz = true) (h1 : zs.all (·.oneCell') = true) (hsmall : Nat.ble (1 * sz) 16777216 = true) (hv : evL s parts.toList = some vs) (hc : fillL (fun i => some (i * sz, sz)) (List.replicate (1 * sz) .top) vs = some us) (hul : Nat.beq us.length sz = true) (hm : MvL s true us (enc z) 0 []) :
    Os cx s ⟨dst, .buildSlice t 1 parts, ty, pos, aft, none⟩ ((s.obj i (.row none e true sz enc [z])).sets dst (some (.c (.own i)))) true := by
  subst hi
  refine o_gen fun a w hg => ?_
  obtain ⟨E, S, hI, hT, hn, hdf⟩ := hg
  have hz := Nat.eq_of_beq_eq_true hz
  have hul := Nat.eq_of_beq_eq_true hul
  have htop : denL E S w (List.replicate (1 * sz) .top) ((Array.range (1 * sz)).map (zs.toArray[· % zs.length]!)).toList := by
    refine ⟨by simp, fun j c hj => ?_⟩
    rw [List.getElem?_replicate] at hj
    split at hj
    · rename_i hlt
      cases hj
      have hpos : 0 < zs.length := by
        rcases Nat.eq_zero_or_pos zs.length with h0 | h0
        · rw [h0] at hz; subst hz; simp at hlt
        · exact h0
      have hm : j % zs.length < zs.length := Nat.mod_lt _ hpos
      rw [Nat.one_mul] at hlt
      refine ⟨zs[j % zs.length], by simp [hlt, hm], ?_⟩
      exact (List.all_eq_true.1 h1) _ (List.getElem_mem hm)
    · cases hj
  obtain ⟨us', h4, h5⟩ := fill_den hT parts.toList vs _ us _ hv hc htop
  have hr := run_litS (P := cx.P) he hz 1 (parts.map fun (i, x) => (i, a.eval x)) us' (by simpa using hsmall) w (by rw [Array.toList_map]; exact h4)
  obtain ⟨_, _, m3⟩ := hm.den hI h5
  obtain ⟨Gz, g1, _, g3⟩ := m3 rfl
  have hlen : us'.toList.length = sz := h5.1.trans hul
  refine ⟨.value (.slice (some ⟨w.heap.size, 0, none⟩) 1 1), w.alloc (.cells us'.toList.toArray e (0, 0)), ?_, .inl ⟨_, rfl, ?_⟩, fun _ => Ext.alloc _ _⟩
  · simp only [execOp]
    rw [Sem.run_bind, hr]
    rfl
  · refine Gm.row hI hT hn hdf hd _ rfl ?_
    simp only [if_true]
    refine ⟨us'.toList, fun _ _ _ => False, ⟨by simp [hlen], .inr ⟨w.heap.size, 1, _, rfl, Nat.zero_le _, heap_alloc_new w _, Nat.le_refl _, by simp [maxLen], by rw [Nat.one_mul]; simpa using hlen, by rw [List.length_singleton, Nat.one_mul]; exact List.take_of_length_le (Nat.le_of_eq hlen)⟩⟩, fun g hg => by simp only [Value.ownBlock, Option.some.injEq] at hg; exact hg.symm, fun _ _ _ h => h.elim, fun _ _ _ _ _ h => h.elim, fun b x hx c hc => ?_⟩
    match b, hx with
    | 0, hx =>
      cases hx
      obtain ⟨u', e1, e2⟩ := g3 c (by omega)
      refine ⟨u', by simpa using e1, ?_⟩
      rw [Nat.zero_add] at e2
      refine Ow.move (F := Gz c) _ _ (fun k hk => ?_) (fun k hk => ?_) e2
      · obtain ⟨q, hq, _⟩ := g1 c k hk
        simp at hq
      · obtain ⟨q, hq, _⟩ := g1 c k hk
        simp at hq
end rules
end Go.Eng

/- Models: the variables of atoms; a number put in its place. -/
set_option linter.unusedVariables false
set_option linter.unusedSimpArgs false
namespace Go.Eng
open Go Go.RowKit
def nonneg (l : List Int) : List Int := l.filter fun t => decide (0 ≤ t)
def varsL (l : List (Int × List Int)) : List Int := l.flatMap fun a => nonneg a.2
def hasI (l : List Int) (x : Int) : Bool := l.any fun y => decide (y = x)
end Go.Eng

/- Models: dependencies. -/
set_option linter.unusedVariables false
set_option linter.unusedSimpArgs false
namespace Go.Eng
open Go Go.RowKit
abbrev Rels := List (List UInt8 × Int × Bool)
abbrev Atoms := List (Int × List Int)
def badA (rs : Rels) : Int × List Int → Bool := fun x => !atomOk rs x.1 x.2
def srcA (rs : Rels) : Int × List Int → Bool := fun x => match rs[x.1.toNat]? with | some y => y.2.2 | none => false
def atomsOk (rs : Rels) (l : Atoms) (most : Int) : Bool := decide (1 ≤ (l.length : Int) ∧ (l.length : Int) ≤ most) && !l.any (badA rs)
def depOk (rs : Rels) (b h : Atoms) (e : Bool) (lv rv : Int) : Bool :=
  atomsOk rs b 2 && (if e = true then decide (h.length = 0) && (decide (lv < rv) && (hasI (setI (varsL b)) lv && hasI (setI (varsL b)) rv))
    else atomsOk rs h 2 && (decide (lv = 0) && (decide (rv = 0) && !h.any (srcA rs))))
end Go.Eng

/- Models: lists of dependencies. -/
set_option linter.unusedVariables false
set_option linter.unusedSimpArgs false
namespace Go.Eng
open Go Go.RowKit
abbrev Dep := Atoms × Atoms × Bool × Int × Int
def badD (rs : Rels) : Dep → Bool := fun x => !depOk rs x.1 x.2.1 x.2.2.1 x.2.2.2.1 x.2.2.2.2
def depsOk (rs : Rels) (l : List Dep) : Bool := relsOk rs && (decide (l.length ≤ 5) && !l.any (badD rs))
end Go.Eng

/- The engine, part Zj: a slice against nil, least and greatest of two; models of the union. -/
set_option linter.unusedVariables false
set_option linter.unusedSimpArgs false
namespace Go.Eng
open Go Go.RowKit
section rules
variable {cx : Cx} {s : St} {k : List Item} {R : Ending → World → Prop} {ops : Array Oper} {rest : List Oper} {dst : Option Nat} {ty : TypeId} {pos : String} {aft : Array Edge}
end rules
def memU (l : List Int) (v : Int) : Bool := decide (-40 ≤ v ∧ v ≤ 9) && (decide (0 ≤ v) || decide (-1 - v < l.length))
def findU (l : List Int) (v : Int) : Int := if (-40 ≤ v ∧ v ≤ -1) ∧ -1 - v < l.length ∧ ufOk l = true then l.getD (-1 - v).toNat 0 else v
def uniC (l : List Int) (a b : Int) : Int := if ufOk l = false ∨ memU l a = false ∨ memU l b = false then 2 else if findU l a = findU l b then 0 else if 0 ≤ findU l a ∧ 0 ≤ findU l b then 2 else 1
def repU (x y : Int) : Int → Int := fun v => if v = (if y < x then y else x) then (if x < y then y else x) else v
def uniL (l : List Int) (a b : Int) : List Int := if uniC l a b = 1 then l.map (repU (findU l a) (findU l b)) else l
section
variable {l : List Int} {f : Int → Int} {m : Nat} {z : Int}
end
end Go.Eng
