/- The engine, part B: the judgements, and the steps that leave memory as it is. -/
import Derived.Test.YtbbpoegdcecopaaGreatEngA
set_option linter.unusedVariables false
set_option linter.unusedSimpArgs false
namespace Go.Eng
open Go Go.RowKit

structure Cx where
  P : Program
  f : FuncId
  n : Nat
  w0 : World
  S0 : Nat → Prop
  M : Nat → Prop
structure Kept (M : Nat → Prop) (w w' : World) : Prop where
  os : w'.os = w.os
  tape : w'.tape = w.tape
  output : w'.output = w.output
  size : w.heap.size ≤ w'.heap.size
  block : ∀ k, k < w.heap.size → ¬ M k → w'.heap[k]? = w.heap[k]?
theorem Kept.refl (M : Nat → Prop) (w : World) : Kept M w w := ⟨rfl, rfl, rfl, Nat.le_refl _, fun _ _ _ => rfl⟩

def okOb (E : Nat → EE) (S : Nat → Prop) (w : World) (i : Nat) : Ob → Prop
  | .box cells => ¬ (E i).rd ∧ ∃ g e, ∃ cs : List Value, (E i).u = .pointer (some ⟨g, 0, none⟩) ∧ (∀ k, (E i).F k ↔ k = g) ∧ w.heap[g]? = some (.cells cs.toArray e (0, 0)) ∧ denL E S w cells cs
  | .row pn e deep sz enc xs => (E i).rd ∧ (∀ v, pn = some v → (E i).u = v) ∧ if deep = true then OwE w e sz enc xs (E i).u (E i).F else Ro w S e sz enc xs (E i).u (E i).F

structure Inv (cx : Cx) (ob : List (Nat × Option Ob)) (nx : Nat) (E : Nat → EE) (S : Nat → Prop) (w : World) : Prop where
  slt : ∀ k, S k → k < w.heap.size
  snew : ∀ k, S k → cx.S0 k ∨ cx.w0.heap.size ≤ k
  obs : ∀ i o, alook ob i = some o → (E i).live ∧ okOb E S w i o
  dis : ∀ i j, i ≠ j → (E i).live → (E j).live → ∀ k, (E i).F k → ¬ (E j).F k
  fp : ∀ i, (E i).live → ∀ k, (E i).F k → k < w.heap.size ∧ ¬ S k ∧ (cx.w0.heap.size ≤ k ∨ cx.M k)
  nxt : ∀ i, (E i).live → i < nx
  kept : Kept cx.M cx.w0 w

def denT (E : Nat → EE) (S : Nat → Prop) (w : World) (tm : List (Nat × Option AV)) (tmps : Array Value) : Prop :=
  ∀ t v, alook tm t = some v → denV E S w v (tmps.getD t undef)
def Gm (cx : Cx) (s : St) (a : Act) (w : World) : Prop :=
  ∃ E S, Inv cx s.ob s.nx E S w ∧ denT E S w s.tm a.tmps ∧ a.tmps.size = cx.n ∧ a.defers = []

/-- From such a state what is still to do comes to an end of which R holds. -/
def Wt (cx : Cx) (s : St) (todo : List Item) (R : Ending → World → Prop) : Prop :=
  ∀ a w, Gm cx s a w → ∀ (b : Frame) (cs : List Frame), b.fn = cx.f → b.kind = .normal → ∃ e w' fr, R e w' ∧ Comes cx.P (lone (b.at a todo) cs w) (lone fr cs w') e ∧ fr.fn = cx.f ∧ fr.leaving cx.P w' e
/-- The same inside a region. -/
def Wr (cx : Cx) (s : St) (ops : Array Oper) (rest : List Oper) (k : List Item) (R : Ending → World → Prop) : Prop :=
  ∀ a w, Gm cx s a w → wpList cx.P ops (fun e a' w' => e = .normal ∧ ∃ s', Gm cx s' a' w' ∧ Wt cx s' k R) rest a w

section code
variable {cx : Cx} {s : St} {k : List Item} {R : Ending → World → Prop}
theorem Wt.step {todo todo' : List Item} (h : Wt cx s todo' R) (hs : ∀ (a : Act) (w : World) (b : Frame) (cs : List Frame), step cx.P (lone (b.at a todo) cs w) = .next (lone (b.at a todo') cs w)) : Wt cx s todo R := by
  intro a w hg b cs hf hk
  obtain ⟨e, w', fr, hR, hc, hfr, hl⟩ := h a w hg b cs hf hk
  exact ⟨e, w', fr, hR, Comes.of_steps (.one (hs a w b cs)) hc, hfr, hl⟩
theorem t_seq {x y : Code} (h : Wt cx s (.code x :: .code y :: k) R) : Wt cx s (.code (.seq x y) :: k) R := h.step fun _ _ _ _ => step_seq
theorem t_skip (h : Wt cx s k R) : Wt cx s (.code .skip :: k) R := h.step fun _ _ _ _ => step_skip
theorem t_block {id : Nat} {c : Code} (h : Wt cx s (.code c :: .inBlock id :: k) R) : Wt cx s (.code (.block id c) :: k) R := h.step fun _ _ _ _ => step_block
theorem t_endblock {id : Nat} (h : Wt cx s k R) : Wt cx s (.inBlock id :: k) R := h.step fun _ _ _ _ => step_inBlock
theorem t_exit {id : Nat} {k' : List Item} (hk : exitTo id k = some k') (h : Wt cx s k' R) : Wt cx s (.code (.exit id) :: k) R := h.step fun _ _ _ _ => step_exit hk
theorem t_again {c : Code} (h : Wt cx s (.code c :: .inLoop c :: k) R) : Wt cx s (.inLoop c :: k) R := h.step fun _ _ _ _ => step_inLoop
theorem t_loop0 {c : Code} (h : Wt cx s (.code c :: .inLoop c :: k) R) : Wt cx s (.code (.loop c) :: k) R := h.step fun _ _ _ _ => step_loop
/-- A loop, by a measure: x: what the states at its head differ in. -/
theorem t_loop {ι : Type} {c : Code} (st : ι → St) (I : ι → Prop) (μ : ι → Nat)
    (round : ∀ x, I x → (∀ y, μ y < μ x → I y → Wt cx (st y) (.inLoop c :: k) R) → Wt cx (st x) (.code c :: .inLoop c :: k) R) (x : ι) (hx : I x) :
    Wt cx (st x) (.code (.loop c) :: k) R := by
  refine t_loop0 ?_
  have key : ∀ n x, μ x = n → I x → Wt cx (st x) (.code c :: .inLoop c :: k) R := by
    intro n
    induction n using Nat.strongRecOn with
    | _ n ih => exact fun x hn hx => round x hx fun y hy hI => t_again (ih _ (hn ▸ hy) y rfl hI)
  exact key _ x rfl hx

/-! ### operands -/
def St.ev (s : St) : Operand → Option AV
  | .tmp t => alook s.tm t
  | .const v => cond v.oneCell' (some (.c (.t none (.v v)))) none
  | .func f => some (.c (.clo f []))
  | .global _ => none
def St.set (s : St) (d : Nat) (v : AV) : St := ⟨(d, some v) :: s.tm, s.ob, s.nx⟩
def St.del (s : St) (d : Nat) : St := ⟨(d, none) :: s.tm, s.ob, s.nx⟩
def St.sets (s : St) (d : Option Nat) (v : Option AV) : St := match d with | some d => ⟨(d, v) :: s.tm, s.ob, s.nx⟩ | none => s
theorem ev_den {E : Nat → EE} {S : Nat → Prop} {w : World} {a : Act} {x : Operand} {v : AV} (h : denT E S w s.tm a.tmps) (hx : s.ev x = some v) : denV E S w v (a.eval x) := by
  cases x with
  | tmp t => exact h t v hx
  | const u =>
    simp only [St.ev] at hx
    cases hu : u.oneCell'
    · rw [hu] at hx; simp at hx
    · rw [hu] at hx
      simp only [cond_true, Option.some.injEq] at hx
      subst hx
      exact ⟨trivial, rfl, hu⟩
  | func f =>
    simp only [St.ev, Option.some.injEq] at hx
    subst hx
    exact ⟨[], rfl, rfl, fun j p h => by simp at h⟩
  | global g => simp [St.ev] at hx

theorem getD_put {a : Act} {d t n : Nat} {u : Value} (hd : Nat.blt d n = true) (hs : a.tmps.size = n) : (a.put (some d) u).tmps.getD t undef = if t = d then u else a.tmps.getD t undef := by
  have hd : d < n := by simpa using hd
  simp only [Act.put, Array.getD_eq_getD_getElem?, Array.getElem?_setIfInBounds]
  by_cases h : d = t
  · subst h
    rw [if_pos rfl, if_pos (by omega), if_pos rfl]
    rfl
  · rw [if_neg h, if_neg (fun e => h e.symm)]
theorem alook_cons {β : Type 1} (k : Nat) (v : Option β) (r : List (Nat × Option β)) (t : Nat) : alook ((k, v) :: r) t = if t = k then v else alook r t := by
  simp only [alook]
  by_cases h : k = t
  · subst h; simp
  · have : Nat.beq k t = false := by
      cases hb : Nat.beq k t
      · rfl
      · exact absurd (Nat.eq_of_beq_eq_true hb) h
    rw [this, if_neg (fun e => h e.symm)]
    rfl
theorem denT_put {E : Nat → EE} {S : Nat → Prop} {w : World} {tm : List (Nat × Option AV)} {a : Act} {d n : Nat} {v : Option AV} {u : Value} (hd : Nat.blt d n = true) (hs : a.tmps.size = n) (h : denT E S w tm a.tmps) (hv : ∀ v', v = some v' → denV E S w v' u) :
    denT E S w ((d, v) :: tm) (a.put (some d) u).tmps := by
  intro t v' ht
  rw [alook_cons] at ht
  rw [getD_put hd hs]
  by_cases e : t = d
  · rw [if_pos e] at ht ⊢; exact hv _ ht
  · rw [if_neg e] at ht ⊢; exact h t v' ht
theorem put_size {a : Act} {d : Option Nat} {u : Value} : (a.put d u).tmps.size = a.tmps.size := by cases d <;> simp [Act.put]
theorem put_defers {a : Act} {d : Option Nat} {u : Value} : (a.put d u).defers = a.defers := by cases d <;> rfl
def okd (d : Option Nat) (n : Nat) : Bool := match d with | some d => Nat.blt d n | none => true
theorem denT_puts {E : Nat → EE} {S : Nat → Prop} {w : World} {a : Act} {d : Option Nat} {n : Nat} {v : Option AV} {u : Value} (hd : okd d n = true) (hs : a.tmps.size = n) (h : denT E S w s.tm a.tmps) (hv : ∀ v', v = some v' → denV E S w v' u) :
    denT E S w (s.sets d v).tm (a.put d u).tmps := by
  cases d with
  | none => exact h
  | some d => exact denT_put hd hs h hv
theorem sets_ob {d : Option Nat} {v : Option AV} : (s.sets d v).ob = s.ob := by cases d <;> rfl
theorem sets_nx {d : Option Nat} {v : Option AV} : (s.sets d v).nx = s.nx := by cases d <;> rfl

/-! ### a region -/
theorem t_region {id : Nat} {l : List Oper} (h : Wr cx s l.toArray l k R) : Wt cx s (.code (.region id l.toArray false) :: k) R := by
  intro a w hg b cs hf hk
  obtain ⟨e, a', w', ⟨rfl, s', hg', hW⟩, harr⟩ := wp_region_lit (id := id) (h a w hg) b k cs
  obtain ⟨e, w'', fr, hR, hc, hfr, hl⟩ := hW a' w' hg' b cs hf hk
  exact ⟨e, w'', fr, hR, Comes.of_steps harr hc, hfr, hl⟩
variable {ops : Array Oper} {rest : List Oper}
theorem r_end (h : Wt cx s k R) : Wr cx s ops [] k R := fun a w hg => wpList_nil ⟨rfl, s, hg, h⟩
/-- Old blocks are as they were. -/
structure Ext (w w' : World) : Prop where
  size : w.heap.size ≤ w'.heap.size
  block : ∀ k, k < w.heap.size → w'.heap[k]? = w.heap[k]?
theorem Ext.refl (w : World) : Ext w w := ⟨Nat.le_refl _, fun _ _ => rfl⟩
theorem Ext.trans {a b c : World} (h : Ext a b) (k : Ext b c) : Ext a c := ⟨Nat.le_trans h.size k.size, fun i hi => (k.block i (Nat.lt_of_lt_of_le hi h.size)).trans (h.block i hi)⟩
/-- One operation, carried out: from s to s'; x: old blocks are as they were. -/
def Os (cx : Cx) (s : St) (o : Oper) (s' : St) (x : Bool) : Prop :=
  ∀ (Q : Exit → Act → World → Prop) (a : Act) (w : World), Gm cx s a w → o.wp cx.P a w (fun a' w' => Gm cx s' a' w' ∧ (x = true → Ext w w')) Q
theorem upon_mono {P : Program} {o : Oper} {a : Act} {K K' : Act → World → Prop} {Q Q' : Exit → Act → World → Prop} {r : Result Next} (h : ∀ a w, K a w → K' a w) (hQ : ∀ e a w, Q e a w → Q' e a w) (hr : o.upon P a K Q r) : o.upon P a K' Q' r := by
  cases r with
  | ok n w =>
    cases n <;> simp only [Oper.upon] at hr ⊢
    case value v => exact h _ _ hr
    case skip => exact h _ _ hr
    case defer d => exact h _ _ hr
    case enter f args =>
      refine Calls.mono hr fun e w' he => ?_
      cases e with
      | returned v => exact h _ _ he
      | panicked c => exact hQ _ _ _ he
      | outgrown => obtain ⟨a, w, q⟩ := he; exact ⟨a, w, hQ _ _ _ q⟩
    case row row args => exact Rows.mono hr fun v w' he => h _ _ he
  | halt x w =>
    cases x <;> simp only [Oper.upon] at hr ⊢
    case panic v => exact hQ _ _ _ hr
theorem r_op {dst : Option Nat} {op : Op} {ty : TypeId} {pos : String} {aft : Array Edge} {s' : St} {x : Bool} (h : Os cx s ⟨dst, op, ty, pos, aft, none⟩ s' x) (hW : Wr cx s' ops rest k R) : Wr cx s ops (⟨dst, op, ty, pos, aft, none⟩ :: rest) k R := by
  intro a w hg
  refine wpList_plain rfl fun K hK => ?_
  exact upon_mono (fun a' w' h' => hK _ _ (hW a' w' h'.1)) (fun _ _ _ h => h) (h _ a w hg)
/-- An operation that gives a value, the same in every later world, and leaves memory. -/
def Ps (cx : Cx) (s : St) (op : Op) (v : AV) : Prop :=
  ∀ (a : Act) (w : World) (E : Nat → EE) (S : Nat → Prop), Inv cx s.ob s.nx E S w → denT E S w s.tm a.tmps → ∃ u, (∀ w', Ext w w' → ∀ (dst : Option Nat) (ty : TypeId) (pos : String) (aft : Array Edge) (gd : Option (Nat × Bool)), (execOp a.eval ⟨dst, op, ty, pos, aft, gd⟩).run cx.P w' = .ok (.value u) w') ∧ denV E S w v u
theorem Ext.cell {w w' : World} (h : Ext w w') {ad : Addr} {v : Value} (hc : w.cell? ad = some v) : w'.cell? ad = some v := by
  rw [cell_same (h.block ad.block (World.block_lt_of_cell? w ad hc))]
  exact hc
theorem o_value {dst : Option Nat} {op : Op} {ty : TypeId} {pos : String} {aft : Array Edge} {v : AV} (hd : okd dst cx.n = true)
    (hrun : Ps cx s op v) :
    Os cx s ⟨dst, op, ty, pos, aft, none⟩ (s.sets dst (some v)) true := by
  intro Q a w hg
  obtain ⟨E, S, hI, hT, hn, hdf⟩ := hg
  obtain ⟨u, hr, hv⟩ := hrun a w E S hI hT
  unfold Oper.wp
  rw [hr w (Ext.refl w)]
  refine ⟨⟨E, S, ?_, denT_puts hd hn hT (fun v' e => ?_), by rw [put_size]; exact hn, by rw [put_defers]; exact hdf⟩, fun _ => Ext.refl _⟩
  · rw [sets_ob, sets_nx]; exact hI
  · cases e; exact hv
/-- Any operation that gives a value or nothing. -/
theorem o_gen {dst : Option Nat} {op : Op} {ty : TypeId} {pos : String} {aft : Array Edge} {s' : St} {x : Bool}
    (hrun : ∀ (a : Act) (w : World), Gm cx s a w → ∃ nx w', (execOp a.eval ⟨dst, op, ty, pos, aft, none⟩).run cx.P w = .ok nx w' ∧ ((∃ u, nx = .value u ∧ Gm cx s' (a.put dst u) w') ∨ (nx = .skip ∧ Gm cx s' (a.put dst undef) w')) ∧ (x = true → Ext w w')) :
    Os cx s ⟨dst, op, ty, pos, aft, none⟩ s' x := by
  intro Q a w hg
  obtain ⟨nx, w', hr, hv, hx⟩ := hrun a w hg
  unfold Oper.wp
  rw [hr]
  rcases hv with ⟨u, rfl, hg'⟩ | ⟨rfl, hg'⟩
  · exact ⟨hg', hx⟩
  · exact ⟨hg', hx⟩
theorem Ext.alloc (w : World) (o : Obj) : Ext w (w.alloc o) := ⟨by simp, fun k hk => heap_alloc_old w o hk⟩
theorem undef_den {E : Nat → EE} {S : Nat → Prop} {w : World} : denV E S w (.tup []) undef := ⟨[], rfl, rfl, fun j b cs h => by simp at h⟩
/-- An operation guarded by one that did not come up. -/
theorem r_skip {dst : Option Nat} {op : Op} {ty : TypeId} {pos : String} {aft : Array Edge} {j t : Nat} {b : Bool} (hd : okd dst cx.n = true) (hj : (ops[j]?).bind (·.dst) = some t) (ht : alook s.tm t = some (.tup []))
    (h : Wr cx (s.sets dst (some (.tup []))) ops rest k R) : Wr cx s ops (⟨dst, op, ty, pos, aft, some (j, b)⟩ :: rest) k R := by
  intro a w hg
  obtain ⟨E, S, hI, hT, hn, hdf⟩ := hg
  obtain ⟨us, hu, hl, _⟩ := hT t _ ht
  have hy : yielded ops a.tmps j = none := by
    unfold yielded
    rw [hj]
    rw [Array.getD_eq_getD_getElem?] at hu
    cases h : a.tmps[t]? with
    | none => simp [h]
    | some x =>
      rw [h] at hu
      have hu : x = .tuple us.toArray := hu
      simp [h, hu]
  unfold wpList
  rw [show Region.wanted ⟨dst, op, ty, pos, aft, some (j, b)⟩ (yielded ops a.tmps) = false by simp [Region.wanted, hy]]
  rw [if_neg (by simp)]
  refine h _ _ ⟨E, S, ?_, denT_puts hd hn hT (fun v' e => by cases e; exact undef_den), by rw [put_size]; exact hn, by rw [put_defers]; exact hdf⟩
  rw [sets_ob, sets_nx]; exact hI
/-- A guarded operation. -/
theorem r_guard {dst : Option Nat} {op : Op} {ty : TypeId} {pos : String} {aft : Array Edge} {j t : Nat} {b b' : Bool} (hd : okd dst cx.n = true) (hj : (ops[j]?).bind (·.dst) = some t) (ht : alook s.tm t = some (.c (.t none (.v (.bool b')))))
    (h1 : b' = b → Wr cx s ops (⟨dst, op, ty, pos, aft, none⟩ :: rest) k R) (h2 : b' = (!b) → Wr cx (s.sets dst (some (.tup []))) ops rest k R) :
    Wr cx s ops (⟨dst, op, ty, pos, aft, some (j, b)⟩ :: rest) k R := by
  intro a w hg
  have hg0 := hg
  obtain ⟨E, S, hI, hT, hn, hdf⟩ := hg
  have hb := (hT t _ ht).2.1
  have hy : yielded ops a.tmps j = some b' := by
    unfold yielded
    rw [hj]
    have : a.tmps[t]? = some (.bool b') := by
      rw [Array.getD_eq_getD_getElem?] at hb
      cases h : a.tmps[t]? with
      | none => rw [h] at hb; simp [undef] at hb
      | some x => rw [h] at hb; simpa using hb
    simp [this]
  have hw : Region.wanted ⟨dst, op, ty, pos, aft, some (j, b)⟩ (yielded ops a.tmps) = decide (b' = b) := by
    simp only [Region.wanted, hy]
    cases b <;> cases b' <;> rfl
  unfold wpList
  rw [hw]
  by_cases e : b' = b
  · rw [if_pos (by simp [e])]
    have := h1 e a w hg0
    unfold wpList at this
    rw [if_pos (by rfl)] at this
    exact this
  · rw [if_neg (by simp [e])]
    refine h2 (by cases b <;> cases b' <;> simp_all) _ _ ⟨E, S, ?_, denT_puts hd hn hT (fun v' e => by cases e; exact undef_den), by rw [put_size]; exact hn, by rw [put_defers]; exact hdf⟩
    rw [sets_ob, sets_nx]; exact hI
end code
end Go.Eng
