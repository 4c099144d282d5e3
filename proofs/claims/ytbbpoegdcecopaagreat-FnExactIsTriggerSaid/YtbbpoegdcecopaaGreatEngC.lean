/- The engine, part C: one rule an operation: those that leave memory. -/
import Derived.Test.YtbbpoegdcecopaaGreatEngB
set_option linter.unusedVariables false
set_option linter.unusedSimpArgs false
namespace Go.Eng
open Go Go.RowKit

def isAggD : TypeDesc → Bool
  | .struct _ | .array _ _ => true
  | _ => false
def szOf (P : Program) (t : TypeId) : Option Nat := (P.info? t).map (·.size)
def aggOf (P : Program) (t : TypeId) : Option Bool := (P.underlying t).map isAggD

theorem run_isAgg {P : Program} {t : TypeId} {b : Bool} (h : aggOf P t = some b) (w : World) : (isAgg t).run P w = .ok b w := by
  unfold aggOf at h
  obtain ⟨d, hd, rfl⟩ := Option.map_eq_some_iff.mp h
  unfold isAgg
  rw [Sem.run_bind, run_underlying hd w]
  cases d <;> rfl
theorem run_szOf {P : Program} {t : TypeId} {n : Nat} (h : szOf P t = some n) (w : World) : (sizeOf t).run P w = .ok n w := by
  unfold szOf at h
  obtain ⟨i, hi, rfl⟩ := Option.map_eq_some_iff.mp h
  simp [sizeOf, typeInfo, hi]
theorem run_load1 {P : Program} {t : TypeId} (h : aggOf P t = some false) {w : World} {ad : Addr} {v : Value} (hc : w.cell? ad = some v) : (Instr.loadAt t (.pointer (some ad))).run P w = .ok v w := by
  simp [Instr.loadAt, Instr.sureAddr, loadVar, Sem.run_bind, run_isAgg h, hc]
theorem run_loadA {P : Program} {t : TypeId} {n : Nat} (h : aggOf P t = some true) (hn : szOf P t = some n) {w : World} {ad : Addr} {cs : List Value} (hl : cs.length = n) (hc : ∀ j v, cs[j]? = some v → w.cell? (ad.add j) = some v) : (Instr.loadAt t (.pointer (some ad))).run P w = .ok (.agg cs.toArray) w := by
  have := run_loadCells_list (P := P) w ad cs hc
  rw [hl] at this
  simp [Instr.loadAt, Instr.sureAddr, loadVar, Sem.run_bind, run_isAgg h, run_szOf hn, this]

section rules
variable {cx : Cx} {s : St} {k : List Item} {R : Ending → World → Prop} {ops : Array Oper} {rest : List Oper} {dst : Option Nat} {ty : TypeId} {pos : String} {aft : Array Edge}

theorem p_move {x : Operand} {v : AV} (hx : s.ev x = some v) :
    Ps cx s (.move x) (v) :=
  fun a w E S hI hT => ⟨a.eval x, fun _ _ _ _ _ _ _ => rfl, ev_den hT hx⟩
theorem o_move {x : Operand} {v : AV} (hd : okd dst cx.n = true) (hx : s.ev x = some v) :
    Os cx s ⟨dst, .move x, ty, pos, aft, none⟩ (s.sets dst (some v)) true := o_value hd (p_move hx)
theorem p_assign {x : Operand} {v : AV} (hx : s.ev x = some v) :
    Ps cx s (.assign x) (v) :=
  fun a w E S hI hT => ⟨a.eval x, fun _ _ _ _ _ _ _ => rfl, ev_den hT hx⟩
theorem o_assign {x : Operand} {v : AV} (hd : okd dst cx.n = true) (hx : s.ev x = some v) :
    Os cx s ⟨dst, .assign x, ty, pos, aft, none⟩ (s.sets dst (some v)) true := o_value hd (p_assign hx)
/-- A scalar. -/
abbrev sc (v : Value) : AV := .c (.t none (.v v))
theorem sc_den {E : Nat → EE} {S : Nat → Prop} {w : World} {v u : Value} (h : denV E S w (sc v) u) : u = v := h.2.1
theorem sc_mk {E : Nat → EE} {S : Nat → Prop} {w : World} {v : Value} (h : v.oneCell' = true) : denV E S w (sc v) v := ⟨trivial, rfl, h⟩
/-- What + - * and the comparisons of whole numbers give. -/
def binI (op : BinOp) (k : IntKind) (a b : Int) : Option Value :=
  match op with
  | .add => some (.int k (k.wrap (a + b)))
  | .sub => some (.int k (k.wrap (a - b)))
  | .mul => some (.int k (k.wrap (a * b)))
  | .eql => some (.bool (decide (a = b)))
  | .neq => some (.bool (decide (a ≠ b)))
  | .lss => some (.bool (decide (a < b)))
  | .leq => some (.bool (decide (a ≤ b)))
  | .gtr => some (.bool (decide (b < a)))
  | .geq => some (.bool (decide (b ≤ a)))
  | _ => none
theorem beq_dec (a b : Int) : (a == b) = decide (a = b) := by
  by_cases h : a = b <;> simp [h]
theorem run_bin {P : Program} {op : BinOp} {k : IntKind} {a b : Int} {v : Value} (h : binI op k a b = some v) (t : TypeId) (x y : Operand) (w : World) : (do eqGuard op t x y (.int k a) (.int k b); binOp op t (.int k a) (.int k b) : Sem Value).run P w = .ok v w ∧ v.oneCell' = true := by
  cases op <;> simp only [binI] at h <;> first | (cases h; done) | (cases h; constructor <;> simp [eqGuard, binOp, Op.intArith, Op.intCmp, beq_dec, bne, Value.oneCell'])
theorem p_bin {op : BinOp} {t yt : TypeId} {x y : Operand} {kk : IntKind} {a b : Int} {v : Value} (hx : s.ev x = some (sc (.int kk a))) (hy : s.ev y = some (sc (.int kk b))) (hv : binI op kk a b = some v) :
    Ps cx s (.binOp op t x y yt) ((sc v)) :=
  fun A w E S hI hT => by
    have h1 := sc_den (ev_den hT hx)
    have h2 := sc_den (ev_den hT hy)
    have h3 := fun w' => (run_bin (P := cx.P) hv t x y w').1
    have h4 := (run_bin (P := cx.P) hv t x y w).2
    refine ⟨v, fun w' hW _ _ _ _ _ => ?_, sc_mk h4⟩
    simp only [execOp, h1, h2]
    rw [Sem.run_bind, h3]
    rfl
theorem o_bin {op : BinOp} {t yt : TypeId} {x y : Operand} {kk : IntKind} {a b : Int} {v : Value} (hd : okd dst cx.n = true) (hx : s.ev x = some (sc (.int kk a))) (hy : s.ev y = some (sc (.int kk b))) (hv : binI op kk a b = some v) :
    Os cx s ⟨dst, .binOp op t x y yt, ty, pos, aft, none⟩ (s.sets dst (some (sc v))) true := o_value hd (p_bin hx hy hv)
theorem p_not {t : TypeId} {x : Operand} {b : Bool} (hx : s.ev x = some (sc (.bool b))) :
    Ps cx s (.unOp .not t x) ((sc (.bool (!b)))) :=
  fun A w E S hI hT => by
    have h1 := sc_den (ev_den hT hx)
    refine ⟨_, fun w' hW _ _ _ _ _ => ?_, sc_mk rfl⟩
    simp [execOp, h1, Op.unary]
theorem o_not {t : TypeId} {x : Operand} {b : Bool} (hd : okd dst cx.n = true) (hx : s.ev x = some (sc (.bool b))) :
    Os cx s ⟨dst, .unOp .not t x, ty, pos, aft, none⟩ (s.sets dst (some (sc (.bool (!b))))) true := o_value hd (p_not hx)
theorem p_neg {t : TypeId} {x : Operand} {kk : IntKind} {n : Int} (hx : s.ev x = some (sc (.int kk n))) :
    Ps cx s (.unOp .neg t x) ((sc (.int kk (kk.wrap (0 - n))))) :=
  fun A w E S hI hT => by
    have h1 := sc_den (ev_den hT hx)
    refine ⟨_, fun w' hW _ _ _ _ _ => ?_, sc_mk rfl⟩
    simp [execOp, h1, Op.unary, Op.intArith]
theorem o_neg {t : TypeId} {x : Operand} {kk : IntKind} {n : Int} (hd : okd dst cx.n = true) (hx : s.ev x = some (sc (.int kk n))) :
    Os cx s ⟨dst, .unOp .neg t x, ty, pos, aft, none⟩ (s.sets dst (some (sc (.int kk (kk.wrap (0 - n)))))) true := o_value hd (p_neg hx)
theorem run_eqB {P : Program} {t : TypeId} (ht : P.underlying t = some .bool) (a b : Bool) (x y : Operand) (w : World) :
    (do eqGuard .eql t x y (.bool a) (.bool b); binOp .eql t (.bool a) (.bool b) : Sem Value).run P w = .ok (.bool (a == b)) w ∧ (do eqGuard .neq t x y (.bool a) (.bool b); binOp .neq t (.bool a) (.bool b) : Sem Value).run P w = .ok (.bool (a != b)) w := by
  have e1 : (eqGuard .eql t x y (.bool a) (.bool b)).run P w = .ok () w := rfl
  have e2 : (eqGuard .neq t x y (.bool a) (.bool b)).run P w = .ok () w := rfl
  constructor
  · rw [Sem.run_bind, e1, Result.andThen_ok, run_eql_bool w t a b ht]
  · rw [Sem.run_bind, e2, Result.andThen_ok, run_neq_bool w t a b ht]
    rfl
theorem p_eqB {t yt : TypeId} {x y : Operand} {a b : Bool} (ht : cx.P.underlying t = some .bool) (hx : s.ev x = some (sc (.bool a))) (hy : s.ev y = some (sc (.bool b))) :
    Ps cx s (.binOp .eql t x y yt) ((sc (.bool (a == b)))) :=
  fun A w E S hI hT => by
    have h1 := sc_den (ev_den hT hx)
    have h2 := sc_den (ev_den hT hy)
    refine ⟨_, fun w' hW _ _ _ _ _ => ?_, sc_mk rfl⟩
    simp only [execOp, h1, h2]
    rw [Sem.run_bind, (run_eqB ht a b x y w').1]
    rfl
theorem o_eqB {t yt : TypeId} {x y : Operand} {a b : Bool} (hd : okd dst cx.n = true) (ht : cx.P.underlying t = some .bool) (hx : s.ev x = some (sc (.bool a))) (hy : s.ev y = some (sc (.bool b))) :
    Os cx s ⟨dst, .binOp .eql t x y yt, ty, pos, aft, none⟩ (s.sets dst (some (sc (.bool (a == b))))) true := o_value hd (p_eqB ht hx hy)
theorem p_neB {t yt : TypeId} {x y : Operand} {a b : Bool} (ht : cx.P.underlying t = some .bool) (hx : s.ev x = some (sc (.bool a))) (hy : s.ev y = some (sc (.bool b))) :
    Ps cx s (.binOp .neq t x y yt) ((sc (.bool (a != b)))) :=
  fun A w E S hI hT => by
    have h1 := sc_den (ev_den hT hx)
    have h2 := sc_den (ev_den hT hy)
    refine ⟨_, fun w' hW _ _ _ _ _ => ?_, sc_mk rfl⟩
    simp only [execOp, h1, h2]
    rw [Sem.run_bind, (run_eqB ht a b x y w').2]
    rfl
theorem o_neB {t yt : TypeId} {x y : Operand} {a b : Bool} (hd : okd dst cx.n = true) (ht : cx.P.underlying t = some .bool) (hx : s.ev x = some (sc (.bool a))) (hy : s.ev y = some (sc (.bool b))) :
    Os cx s ⟨dst, .binOp .neq t x y yt, ty, pos, aft, none⟩ (s.sets dst (some (sc (.bool (a != b))))) true := o_value hd (p_neB ht hx hy)
theorem p_pickT {c x y : Operand} {b : Bool} {v : AV} (hc : s.ev c = some (sc (.bool b))) (hb : b = true) (hx : s.ev x = some v) :
    Ps cx s (.pick c x y) (v) :=
  fun A w E S hI hT => by
    have h1 := sc_den (ev_den hT hc)
    refine ⟨A.eval x, fun w' hW _ _ _ _ _ => ?_, ev_den hT hx⟩
    simp [execOp, h1, hb, asBool]
theorem o_pickT {c x y : Operand} {b : Bool} {v : AV} (hd : okd dst cx.n = true) (hc : s.ev c = some (sc (.bool b))) (hb : b = true) (hx : s.ev x = some v) :
    Os cx s ⟨dst, .pick c x y, ty, pos, aft, none⟩ (s.sets dst (some v)) true := o_value hd (p_pickT hc hb hx)
theorem p_pickF {c x y : Operand} {b : Bool} {v : AV} (hc : s.ev c = some (sc (.bool b))) (hb : b = false) (hx : s.ev y = some v) :
    Ps cx s (.pick c x y) (v) :=
  fun A w E S hI hT => by
    have h1 := sc_den (ev_den hT hc)
    refine ⟨A.eval y, fun w' hW _ _ _ _ _ => ?_, ev_den hT hx⟩
    simp [execOp, h1, hb, asBool]
theorem o_pickF {c x y : Operand} {b : Bool} {v : AV} (hd : okd dst cx.n = true) (hc : s.ev c = some (sc (.bool b))) (hb : b = false) (hx : s.ev y = some v) :
    Os cx s ⟨dst, .pick c x y, ty, pos, aft, none⟩ (s.sets dst (some v)) true := o_value hd (p_pickF hc hb hx)
end rules
end Go.Eng
