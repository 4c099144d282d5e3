import Derived.Test.YtkondeglfdachaaGreatDoorEngQ
set_option linter.unusedVariables false
set_option linter.unusedSimpArgs false
namespace Go.Eng
open Go Go.RowKit Go.Proofs
def postG {ι : Type} (P : Program) (f : FuncId) (n : Nat) (w : World) (S M : Nat → Prop) (X : ι → Prop) (ob : ι → List (Nat × Option Ob)) (nx : Nat) (res : ι → AV) : Ending → World → Prop :=
 fun e w' => ∃ i, X i ∧ postM P f n w S M (ob i) nx (res i) e w'
def PuG {ι : Type} (P : Program) (f : FuncId) (args : List AV) (X : ι → Prop) (ob : ι → List (Nat × Option Ob)) (nx : Nat) (res : ι → AV) : Prop :=
 ∀ (n : Nat) (w : World) (S : Nat → Prop) (vs : List Value), (∀ k, S k → k < w.heap.size) → denA (fun _ => dead) S w args vs → Calls P f vs.toArray w (postG P f n w S (fun _ => False) X ob nx res)
def MuG {ι : Type} (P : Program) (f : FuncId) (args : List AV) (cells : List AC) (X : ι → Prop) (cells' : ι → List AC) (ob : ι → List (Nat × Option Ob)) (nx : Nat) (res : ι → AV) : Prop :=
 ∀ (v : Value) (n : Nat) (w : World) (E : Nat → EE) (S : Nat → Prop) (vs : List Value), Inv ⟨P, f, n, w, S, handed E⟩ [(0, some (.pbox v cells))] 1 E S w → denA E S w args vs →
  Calls P f vs.toArray w (postG P f n w S (handed E) X (fun i => (0, some (.pbox v (cells' i))) :: ob i) nx res)
def AC.pt : AC → Bool
 | .t none _ => true
 | .top => true
 | _ => false
def Ob.isRow : Ob → Bool
 | .row .. => true
 | _ => false
def rowsO (l : List (Nat × Option Ob)) : Bool := l.all fun x => !Nat.beq x.1 0 && (match x.2 with | some o => o.isRow | none => true)
theorem pt_c {E E' : Nat → EE} {S S' : Nat → Prop} {w : World} {a : AC} {u : Value} (hS : ∀ k, S k → S' k) (hn : a.pt = true) (hd : denC E S w a u) : denC E' S' w a u := by
 cases a with
 | top => exact hd
 | t r x =>
  cases r with
  | none => exact ⟨trivial, Rd.move hS (fun _ _ => rfl) _ _ hd.2⟩
  | some i => cases hn
 | _ => cases hn
theorem pt_l {E E' : Nat → EE} {S S' : Nat → Prop} {w : World} {cs : List AC} {us : List Value} (hS : ∀ k, S k → S' k) (hn : cs.all AC.pt = true) (hd : denL E S w cs us) : denL E' S' w cs us :=
 ⟨hd.1, fun j c hj => by
  obtain ⟨u', e1, e2⟩ := hd.2 j c hj
  exact ⟨u', e1, pt_c hS (List.all_eq_true.1 hn c (List.mem_of_getElem? hj)) e2⟩⟩
section
variable {cx : Cx} {ob ob' : List (Nat × Option Ob)} {nx nx' j : Nat} {E E' : Nat → EE} {S S2 : Nat → Prop} {w w' : World} {P : Program} {g : FuncId} {n : Nat} {v : Value} {cells cells' : List AC}
def E2 (E' : Nat → EE) : Nat → EE := fun k => if k = 0 then dead else E' k
end
def boxO (pv : Option Value) (cells : List AC) : Ob := match pv with | none => .box cells | some v => .pbox v cells
inductive ArgsC (s : St) (j : Nat) : List Operand → List AV → Prop
 | nil : ArgsC s j [] []
 | cur {x : Operand} {xs : List Operand} {bs : List AV} (hx : s.ev x = some (.c (.ptr j 0))) (hr : ArgsC s j xs bs) : ArgsC s j (x :: xs) (.c (.ptr 0 0) :: bs)
 | cons {x : Operand} {y : T} {xs : List Operand} {bs : List AV} (hx : s.ev x = some (.c (.t none y))) (hr : ArgsC s j xs bs) : ArgsC s j (x :: xs) (.c (.t none y) :: bs)
 | agg {x : Operand} {cs : List AC} {xs : List Operand} {bs : List AV} (hx : s.ev x = some (.agg cs)) (hc : cs.all AC.pt = true) (hr : ArgsC s j xs bs) : ArgsC s j (x :: xs) (.agg cs :: bs)
section
variable {cx : Cx} {s : St} {dst : Option Nat} {ty : TypeId} {pos : String} {aft : Array Edge} {R : Ending → World → Prop} {k : List Item} {ops : Array Oper} {rest : List Oper}
theorem ArgsC.den {j : Nat} {xs : List Operand} {bs : List AV} {a : Act} {E : Nat → EE} {S : Nat → Prop} {w : World} (h : ArgsC s j xs bs) (hT : denT E S w s.tm a.tmps) : denA (onlyE E j) S w bs (xs.map a.eval) := by
 induction h with
 | nil => exact ⟨rfl, fun j v hj => by simp at hj⟩
 | cur hx hr ih =>
  refine ⟨by simp [ih.1], fun q v hq => ?_⟩
  match q with
  | 0 =>
   cases hq
   refine ⟨_, rfl, ?_⟩
   have := ev_den hT hx
   exact this
  | q + 1 => exact ih.2 q v hq
 | cons hx hr ih =>
  refine ⟨by simp [ih.1], fun q v hq => ?_⟩
  match q with
  | 0 => cases hq; exact ⟨_, rfl, trivial, (ev_den hT hx).2⟩
  | q + 1 => exact ih.2 q v hq
 | agg hx hc hr ih =>
  refine ⟨by simp [ih.1], fun q v hq => ?_⟩
  match q with
  | 0 =>
   cases hq
   obtain ⟨us, e1, e2⟩ := ev_den hT hx
   exact ⟨_, rfl, us, e1, pt_l (fun _ h => h) hc e2⟩
  | q + 1 => exact ih.2 q v hq
def OsX {ι : Type} (cx : Cx) (s : St) (o : Oper) (s' : ι → St) (x : Bool) : Prop :=
 ∀ (Q : Exit → Act → World → Prop) (a : Act) (w : World), Gm cx s a w → o.wp cx.P a w (fun a' w' => (∃ i, Gm cx (s' i) a' w') ∧ (x = true → Ext w w')) Q
end
def AC.frz (i : Nat) (x : T) : AC → AC
 | .own k => cond (Nat.beq k i) (.t none x) (.own k)
 | .t (some k) y => cond (Nat.beq k i) (.t none y) (.t (some k) y)
 | a => cond (a.names i) .top a
def AV.mapC (φ : AC → AC) : AV → AV
 | .c a => .c (φ a)
 | .agg cs => .agg (cs.map φ)
 | .tup vs => .tup (vs.map fun p => (p.1, p.2.map φ))
def Ob.mapC (φ : AC → AC) : Ob → Ob
 | .box cs => .box (cs.map φ)
 | .pbox v cs => .pbox v (cs.map φ)
 | o => o
def mapT (φ : AC → AC) (l : List (Nat × Option AV)) : List (Nat × Option AV) := l.map fun p => (p.1, p.2.map (AV.mapC φ))
def mapO (i : Nat) (φ : AC → AC) (l : List (Nat × Option Ob)) : List (Nat × Option Ob) := (i, none) :: l.map fun p => (p.1, p.2.map (Ob.mapC φ))
theorem alook_map {β : Type 1} {f : β → β} : ∀ (l : List (Nat × Option β)) (t : Nat), alook (l.map fun p => (p.1, p.2.map f)) t = (alook l t).map f
 | [], t => rfl
 | (k, v) :: r, t => by
  simp only [List.map_cons]
  rw [alook_cons, alook_cons, alook_map r t]
  split <;> rfl
section
variable {cx : Cx} {s : St} {R : Ending → World → Prop} {todo : List Item}
inductive CellsL {α : Type} (enc : α → Nat → T) : List AC → List α → Prop
 | nil : CellsL enc [] []
 | cons {x : α} {al : List AC} {xs : List α} (hr : CellsL enc al xs) : CellsL enc (.t none (enc x 0) :: al) (x :: xs)
theorem CellsL.get {α : Type} {enc : α → Nat → T} {al : List AC} {xs : List α} (h : CellsL enc al xs) : ∀ (q : Nat) (x : α), xs[q]? = some x → al[q]? = some (.t none (enc x 0)) := by
 induction h with
 | nil => intro q x h; simp at h
 | cons hr ih =>
  intro q x h
  match q with
  | 0 => cases h; rfl
  | q + 1 => exact ih q x h
def frzB (i n : Nat) (x : T) (c : AC) : AC := cond (match c with | .bsl k m => Nat.beq k i && Nat.beq m n | _ => false) (.t none x) (cond (c.names i) .top c)
end
section
variable {cx : Cx} {s : St} {dst : Option Nat} {ty : TypeId} {pos : String} {aft : Array Edge}
end
def andI (a b : Int) : Int := IntKind.i64.wrap (BitVec.ofInt 64 a &&& BitVec.ofInt 64 b).toNat
def xorI (a b : Int) : Int := IntKind.i64.wrap (BitVec.ofInt 64 a ^^^ BitVec.ofInt 64 b).toNat
end Go.Eng
