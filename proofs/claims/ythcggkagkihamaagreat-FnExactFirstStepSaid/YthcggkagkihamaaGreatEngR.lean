import Derived.Test.YthcggkagkihamaaGreatEngQ
set_option linter.unusedVariables false
set_option linter.unusedSimpArgs false
namespace Go.Eng
open Go Go.RowKit Go.Proofs
def postG {ι : Type} (P : Program) (f : FuncId) (n : Nat) (w : World) (S M : Nat → Prop) (X : ι → Prop) (ob : ι → List (Nat × Option Ob)) (nx : Nat) (res : ι → AV) : Ending → World → Prop :=
 fun e w' => ∃ i, X i ∧ postM P f n w S M (ob i) nx (res i) e w'
def PuG {ι : Type} (P : Program) (f : FuncId) (args : List AV) (X : ι → Prop) (ob : ι → List (Nat × Option Ob)) (nx : Nat) (res : ι → AV) : Prop :=
 ∀ (n : Nat) (w : World) (S : Nat → Prop) (vs : List Value), (∀ k, S k → k < w.heap.size) → denA (fun _ => dead) S w args vs → Calls P f vs.toArray w (postG P f n w S (fun _ => False) X ob nx res)
def MuG {ι : Type} (P : Program) (f : FuncId) (args : List AV) (cells : List AC) (X : ι → Prop) (cells' : ι → List AC) (ob : ι → List (Nat × Option Ob)) (nx : Nat) (res : ι → AV) : Prop :=
 ∀ (v : Value) (n : Nat) (w : World) (E : Nat → EE) (S : Nat → Prop) (vs : List Value), Inv ⟨P, f, n, w, S, handed E⟩ [(0, some (.pbox v cells))] 1 E S w → denA E S w args vs →
  Calls P f vs.toArray w (postG P f n w S (handed E) X (fun i => (0, some (.pbox v (cells' i))) :: ob i) nx res)
def AC.pt : AC → Bool
 | .t none _ => true
 | .top => true
 | _ => false
def Ob.isRow : Ob → Bool
 | .row .. => true
 | _ => false
def rowsO (l : List (Nat × Option Ob)) : Bool := l.all fun x => !Nat.beq x.1 0 && (match x.2 with | some o => o.isRow | none => true)
theorem pt_c {E E' : Nat → EE} {S S' : Nat → Prop} {w : World} {a : AC} {u : Value} (hS : ∀ k, S k → S' k) (hn : a.pt = true) (hd : denC E S w a u) : denC E' S' w a u := by
 cases a with
 | top => exact hd
 | t r x =>
  cases r with
  | none => exact ⟨trivial, Rd.move hS (fun _ _ => rfl) _ _ hd.2⟩
  | some i => cases hn
 | _ => cases hn
theorem pt_l {E E' : Nat → EE} {S S' : Nat → Prop} {w : World} {cs : List AC} {us : List Value} (hS : ∀ k, S k → S' k) (hn : cs.all AC.pt = true) (hd : denL E S w cs us) : denL E' S' w cs us :=
 ⟨hd.1, fun j c hj => by
  obtain ⟨u', e1, e2⟩ := hd.2 j c hj
  exact ⟨u', e1, pt_c hS (List.all_eq_true.1 hn c (List.mem_of_getElem? hj)) e2⟩⟩
section
variable {cx : Cx} {ob ob' : List (Nat × Option Ob)} {nx nx' j : Nat} {E E' : Nat → EE} {S S2 : Nat → Prop} {w w' : World} {P : Program} {g : FuncId} {n : Nat} {v : Value} {cells cells' : List AC}
def E2 (E' : Nat → EE) : Nat → EE := fun k => if k = 0 then dead else E' k
end
def boxO (pv : Option Value) (cells : List AC) : Ob := match pv with | none => .box cells | some v => .pbox v cells
inductive ArgsC (s : St) (j : Nat) : List Operand → List AV → Prop
 | nil : ArgsC s j [] []
 | cur {x : Operand} {xs : List Operand} {bs : List AV} (hx : s.ev x = some (.c (.ptr j 0))) (hr : ArgsC s j xs bs) : ArgsC s j (x :: xs) (.c (.ptr 0 0) :: bs)
 | cons {x : Operand} {y : T} {xs : List Operand} {bs : List AV} (hx : s.ev x = some (.c (.t none y))) (hr : ArgsC s j xs bs) : ArgsC s j (x :: xs) (.c (.t none y) :: bs)
 | agg {x : Operand} {cs : List AC} {xs : List Operand} {bs : List AV} (hx : s.ev x = some (.agg cs)) (hc : cs.all AC.pt = true) (hr : ArgsC s j xs bs) : ArgsC s j (x :: xs) (.agg cs :: bs)
section
variable {cx : Cx} {s : St} {dst : Option Nat} {ty : TypeId} {pos : String} {aft : Array Edge} {R : Ending → World → Prop} {k : List Item} {ops : Array Oper} {rest : List Oper}
theorem ArgsC.den {j : Nat} {xs : List Operand} {bs : List AV} {a : Act} {E : Nat → EE} {S : Nat → Prop} {w : World} (h : ArgsC s j xs bs) (hT : denT E S w s.tm a.tmps) : denA (onlyE E j) S w bs (xs.map a.eval) := by
 induction h with
 | nil => exact ⟨rfl, fun j v hj => by simp at hj⟩
 | cur hx hr ih =>
  refine ⟨by simp [ih.1], fun q v hq => ?_⟩
  match q with
  | 0 =>
   cases hq
   refine ⟨_, rfl, ?_⟩
   have := ev_den hT hx
   exact this
  | q + 1 => exact ih.2 q v hq
 | cons hx hr ih =>
  refine ⟨by simp [ih.1], fun q v hq => ?_⟩
  match q with
  | 0 => cases hq; exact ⟨_, rfl, trivial, (ev_den hT hx).2⟩
  | q + 1 => exact ih.2 q v hq
 | agg hx hc hr ih =>
  refine ⟨by simp [ih.1], fun q v hq => ?_⟩
  match q with
  | 0 =>
   cases hq
   obtain ⟨us, e1, e2⟩ := ev_den hT hx
   exact ⟨_, rfl, us, e1, pt_l (fun _ h => h) hc e2⟩
  | q + 1 => exact ih.2 q v hq
def OsX {ι : Type} (cx : Cx) (s : St) (o : Oper) (s' : ι → St) (x : Bool) : Prop :=
 ∀ (Q : Exit → Act → World → Prop) (a : Act) (w : World), Gm cx s a w → o.wp cx.P a w (fun a' w' => (∃ i, Gm cx (s' i) a' w') ∧ (x = true → Ext w w')) Q
end
def AC.frz (i : Nat) (x : T) : AC → AC
 | .own k => cond (Nat.beq k i) (.t none x) (.own k)
 | .t (some k) y => cond (Nat.beq k i) (.t none y) (.t (some k) y)
 | a => cond (a.names i) .top a
def AV.mapC (φ : AC → AC) : AV → AV
 | .c a => .c (φ a)
 | .agg cs => .agg (cs.map φ)
 | .tup vs => .tup (vs.map fun p => (p.1, p.2.map φ))
def Ob.mapC (φ : AC → AC) : Ob → Ob
 | .box cs => .box (cs.map φ)
 | .pbox v cs => .pbox v (cs.map φ)
 | o => o
def mapT (φ : AC → AC) (l : List (Nat × Option AV)) : List (Nat × Option AV) := l.map fun p => (p.1, p.2.map (AV.mapC φ))
def mapO (i : Nat) (φ : AC → AC) (l : List (Nat × Option Ob)) : List (Nat × Option Ob) := (i, none) :: l.map fun p => (p.1, p.2.map (Ob.mapC φ))
theorem alook_map {β : Type 1} {f : β → β} : ∀ (l : List (Nat × Option β)) (t : Nat), alook (l.map fun p => (p.1, p.2.map f)) t = (alook l t).map f
 | [], t => rfl
 | (k, v) :: r, t => by
  simp only [List.map_cons]
  rw [alook_cons, alook_cons, alook_map r t]
  split <;> rfl
theorem own_rd {w : World} {e : Nat} {deep : Bool} {α : Type} {sz : Nat} {enc : α → Nat → T} {xs : List α} {u : Value} {F S : Nat → Prop} (h : if deep = true then OwE w e sz enc xs u F else Ro w S e sz enc xs u F) : Rd w (fun k => S k ∨ F k) (.sl sz enc xs) u := by
 cases deep
 ·simp only [Bool.false_eq_true, if_false] at h
  obtain ⟨cells, ho, hf, hx⟩ := h
  obtain ⟨A, cap, hu, hc, hr⟩ := own_read ho
  refine ⟨A, cap, hu, hc, fun i x hi => ?_⟩
  by_cases hz : 0 < sz
  ·obtain ⟨u0, h0, _⟩ := hx i x hi 0 hz
   obtain ⟨g, hA, hb, _⟩ := hr _ _ h0
   refine ⟨⟨g, 0, none⟩, hA, .inr (hf g hb), fun j hj => ?_⟩
   obtain ⟨u', h1, h2⟩ := hx i x hi j hj
   obtain ⟨g', hA', _, hcell⟩ := hr _ _ h1
   rw [hA] at hA'
   cases hA'
   exact ⟨u', hcell, Rd.move (fun k q => .inl q) (fun _ _ => rfl) _ _ h2⟩
  ·cases A with
   | none =>
    have hl := ho.2
    rcases hl with ⟨rfl, hn⟩ | ⟨g, cap', cur, rfl, _⟩
    ·have : xs = [] := List.eq_nil_of_length_eq_zero hn
     subst this
     simp at hi
    ·cases hu
   | some ad =>
    subst hu
    exact ⟨ad, rfl, .inr (hf _ rfl), fun j hj => absurd hj (by omega)⟩
 ·simp only [if_true] at h
  have h' : Ow w (.sl sz enc xs) u F := by
   obtain ⟨cells, G, q⟩ := h
   exact ⟨e, cells, G, q⟩
  exact Rd.move (fun k q => .inr q) (fun _ _ => rfl) _ _ (Ow.rd _ _ h')
section
variable {cx : Cx} {s : St} {R : Ending → World → Prop} {todo : List Item}
theorem frz_carry {i : Nat} {E : Nat → EE} {S F : Nat → Prop} {w : World} : Carry E (upd E i dead) S (fun k => S k ∨ F k) w w (fun a => a.names i) where
 sub := fun _ h => .inl h
 keep := fun _ _ => rfl
 place := fun a ha k hk hlk => by
  have : k ≠ i := fun e => by subst e; have h' : a.names k = false := ha; rw [h'] at hk; cases hk
  rw [upd_ne this]; exact ⟨hlk, rfl⟩
 reads := fun a ha k hk hlk => by
  have : k ≠ i := fun e => by subst e; have h' : a.names k = false := ha; rw [reads_names hk] at h'; cases h'
  rw [upd_ne this]; exact ⟨hlk, fun _ h => h, fun _ _ => rfl⟩
theorem gm_frz (φ : AC → AC) (i : Nat) {o : Ob} {a : Act} {w : World} (hb : alook s.ob i = some o) (hφ : ∀ E S, Inv cx s.ob s.nx E S w → ∀ c u, denC E S w c u → denC (upd E i dead) (fun k => S k ∨ (E i).F k) w (φ c) u) (hM : ∀ E S w, Inv cx s.ob s.nx E S w → ∀ k, cx.M k → ¬ (E i).F k) (hg : Gm cx s a w) : Gm cx ⟨mapT φ s.tm, mapO i φ s.ob, s.nx⟩ a w := by
 obtain ⟨E, S, hI, hT, hsz, hdf⟩ := hg
 have hl := (hI.obs _ _ hb).1
 have hC := fun {c u} => hφ E S hI c u
 have hLL : ∀ {cs : List AC} {us : List Value}, denL E S w cs us → denL (upd E i dead) (fun k => S k ∨ (E i).F k) w (cs.map φ) us := by
  intro cs us hd
  refine ⟨by rw [hd.1, List.length_map], fun j c hc => ?_⟩
  rw [List.getElem?_map] at hc
  obtain ⟨c0, h0, rfl⟩ := Option.map_eq_some_iff.mp hc
  obtain ⟨u', h1, h2⟩ := hd.2 j c0 h0
  exact ⟨u', h1, hC h2⟩
 have hV : ∀ {v : AV} {u : Value}, denV E S w v u → denV (upd E i dead) (fun k => S k ∨ (E i).F k) w (v.mapC φ) u := by
  intro v u hd
  cases v with
  | c a => exact hC hd
  | agg cs => obtain ⟨us, rfl, hd⟩ := hd; exact ⟨us, rfl, hLL hd⟩
  | tup vs =>
   obtain ⟨us, rfl, hl, hd⟩ := hd
   refine ⟨us, rfl, by rw [hl, List.length_map], fun j b cs hc => ?_⟩
   rw [List.getElem?_map] at hc
   obtain ⟨⟨b0, c0⟩, h0, hc⟩ := Option.map_eq_some_iff.mp hc
   cases hc
   obtain ⟨u', h1, h2⟩ := hd j b0 c0 h0
   refine ⟨u', h1, ?_⟩
   unfold denB at *
   split
   ·rename_i hb
    rw [if_pos hb] at h2
    obtain ⟨us, rfl, h2⟩ := h2
    exact ⟨us, rfl, hLL h2⟩
   ·rename_i hb
    rw [if_neg hb] at h2
    exact hLL h2
 have hlv : ∀ j, (upd E i dead j).live → j ≠ i ∧ upd E i dead j = E j := fun j hj => by
  by_cases e : j = i
  ·subst e; rw [upd_at] at hj; exact hj.elim
  ·exact ⟨e, upd_ne e⟩
 refine ⟨upd E i dead, fun k => S k ∨ (E i).F k, ⟨?_, ?_, fun j o hj => ?_, fun j j' hij hj hj' q h1 h2 => ?_, fun j hj q hq => ?_, fun j hj => ?_, hI.kept⟩, fun t v hv => ?_, hsz, hdf⟩
 ·rintro k (h | h)
  ·exact hI.slt k h
  ·exact (hI.fp i hl k h).1
 ·rintro k (h | h)
  ·exact hI.snew k h
  ·rcases (hI.fp i hl k h).2.2 with q | q
   ·exact .inr q
   ·exact absurd h (hM E S w hI k q)
 ·show (upd E i dead j).live ∧ _
  unfold mapO at hj
  rw [alook_cons] at hj
  split at hj
  ·cases hj
  ·rename_i hji
   rw [alook_map] at hj
   obtain ⟨o0, h0, rfl⟩ := Option.map_eq_some_iff.mp hj
   obtain ⟨h1, h2⟩ := hI.obs j o0 h0
   refine ⟨by rw [upd_ne hji]; exact h1, ?_⟩
   cases o0 with
   | box cells =>
    obtain ⟨q1, g, t, cs, q2, q3, q4, q5⟩ := h2
    exact ⟨by rw [upd_ne hji]; exact q1, g, t, cs, by rw [upd_ne hji]; exact q2, fun k => by rw [upd_ne hji]; exact q3 k, q4, hLL q5⟩
   | pbox v cells =>
    obtain ⟨q0, q1, g, t, cs, q2, q3, q4, q5⟩ := h2
    exact ⟨by rw [upd_ne hji]; exact q0, by rw [upd_ne hji]; exact q1, g, t, cs, by rw [upd_ne hji]; exact q2, fun k => by rw [upd_ne hji]; exact q3 k, q4, hLL q5⟩
   | row pn' e' deep' sz' enc' xs' =>
    obtain ⟨q1, q2, q3⟩ := h2
    refine ⟨by rw [upd_ne hji]; exact q1, by rw [upd_ne hji]; exact q2, ?_⟩
    rw [upd_ne hji]
    cases deep'
    ·simp only [Bool.false_eq_true, if_false] at q3 ⊢
     exact Ro.move (fun _ h => .inl h) (fun _ _ => rfl) (fun _ h => h) (fun _ _ => rfl) q3
    ·exact q3
   | bag x =>
    obtain ⟨q1, q2⟩ := h2
    refine ⟨by rw [upd_ne hji]; exact q1, ?_⟩
    rw [upd_ne hji]
    exact q2
 ·obtain ⟨e1, e2⟩ := hlv j hj
  obtain ⟨e3, e4⟩ := hlv j' hj'
  rw [e2] at hj h1
  rw [e4] at hj' h2
  exact hI.dis j j' hij hj hj' q h1 h2
 ·obtain ⟨e1, e2⟩ := hlv j hj
  rw [e2] at hj hq
  obtain ⟨r1, r2, r3⟩ := hI.fp j hj q hq
  refine ⟨r1, ?_, r3⟩
  rintro (h | h)
  ·exact r2 h
  ·exact hI.dis j i e1 hj hl q hq h
 ·obtain ⟨e1, e2⟩ := hlv j hj
  rw [e2] at hj
  exact hI.nxt j hj
 ·unfold mapT at hv
  rw [alook_map] at hv
  obtain ⟨v0, h0, rfl⟩ := Option.map_eq_some_iff.mp hv
  exact hV (hT t v0 h0)
theorem frz_row {i : Nat} {pn : Option Value} {e : Nat} {deep : Bool} {α : Type} {sz : Nat} {enc : α → Nat → T} {xs : List α} {w : World} (hb : alook s.ob i = some (.row pn e deep sz enc xs)) : ∀ E S, Inv cx s.ob s.nx E S w → ∀ c u, denC E S w c u → denC (upd E i dead) (fun k => S k ∨ (E i).F k) w (AC.frz i (.sl sz enc xs) c) u := fun E S hI c u hd => by
 obtain ⟨hl, hrd, hpn, ho⟩ := hI.obs _ _ hb
 have hR := own_rd ho
 have gen : denC (upd E i dead) (fun k => S k ∨ (E i).F k) w (cond (c.names i) .top c) u := frz_carry.c hd
 cases c with
 | own k =>
  simp only [AC.frz]
  cases hk : Nat.beq k i
  ·have : (AC.own k).names i = false := hk
   rw [this] at gen
   exact gen
  ·obtain rfl := Nat.eq_of_beq_eq_true hk
   simp only [cond_true]
   refine ⟨trivial, ?_⟩
   rw [hd.2.1]
   exact hR
 | t r y =>
  cases r with
  | none => exact gen
  | some k =>
   simp only [AC.frz]
   cases hk : Nat.beq k i
   ·have : (AC.t (some k) y).names i = false := hk
    rw [this] at gen
    exact gen
   ·obtain rfl := Nat.eq_of_beq_eq_true hk
    simp only [cond_true]
    exact ⟨trivial, Rd.move (fun q h => .inr h) (fun _ _ => rfl) _ _ hd.2⟩
 | _ => exact gen
theorem gt_freeze (i : Nat) {pn : Option Value} {e : Nat} {deep : Bool} {α : Type} {sz : Nat} {enc : α → Nat → T} {xs : List α} (hb : alook s.ob i = some (.row pn e deep sz enc xs)) (hM : ∀ E S w, Inv cx s.ob s.nx E S w → ∀ k, cx.M k → ¬ (E i).F k)
  (h : Wt cx ⟨mapT (AC.frz i (.sl sz enc xs)) s.tm, mapO i (AC.frz i (.sl sz enc xs)) s.ob, s.nx⟩ todo R) : Wt cx s todo R := fun a w hg => h a w (gm_frz _ i hb (frz_row hb) hM hg)
inductive CellsL {α : Type} (enc : α → Nat → T) : List AC → List α → Prop
 | nil : CellsL enc [] []
 | cons {x : α} {al : List AC} {xs : List α} (hr : CellsL enc al xs) : CellsL enc (.t none (enc x 0) :: al) (x :: xs)
theorem CellsL.get {α : Type} {enc : α → Nat → T} {al : List AC} {xs : List α} (h : CellsL enc al xs) : ∀ (q : Nat) (x : α), xs[q]? = some x → al[q]? = some (.t none (enc x 0)) := by
 induction h with
 | nil => intro q x h; simp at h
 | cons hr ih =>
  intro q x h
  match q with
  | 0 => cases h; rfl
  | q + 1 => exact ih q x h
def frzB (i n : Nat) (x : T) (c : AC) : AC := cond (match c with | .bsl k m => Nat.beq k i && Nat.beq m n | _ => false) (.t none x) (cond (c.names i) .top c)
theorem r_freeze {k : List Item} {ops : Array Oper} {rest : List Oper} (i : Nat) {pn : Option Value} {e : Nat} {deep : Bool} {α : Type} {sz : Nat} {enc : α → Nat → T} {xs : List α} (hb : alook s.ob i = some (.row pn e deep sz enc xs)) (hM : ∀ E S w, Inv cx s.ob s.nx E S w → ∀ k, cx.M k → ¬ (E i).F k)
  (h : Wr cx ⟨mapT (AC.frz i (.sl sz enc xs)) s.tm, mapO i (AC.frz i (.sl sz enc xs)) s.ob, s.nx⟩ ops rest k R) : Wr cx s ops rest k R := fun a w hg => h a w (gm_frz _ i hb (frz_row hb) hM hg)
theorem frz_pu {i : Nat} (h : cx.M = fun _ => False) : ∀ E S w, Inv cx s.ob s.nx E S w → ∀ k, cx.M k → ¬ (E i).F k := fun E S w _ k hk => by rw [h] at hk; exact hk.elim
end
section
variable {cx : Cx} {s : St} {dst : Option Nat} {ty : TypeId} {pos : String} {aft : Array Edge}
end
def andI (a b : Int) : Int := IntKind.i64.wrap (BitVec.ofInt 64 a &&& BitVec.ofInt 64 b).toNat
def xorI (a b : Int) : Int := IntKind.i64.wrap (BitVec.ofInt 64 a ^^^ BitVec.ofInt 64 b).toNat
end Go.Eng
