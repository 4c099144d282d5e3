/- The engine, part G: calls by contract. -/
import Derived.Test.YtbbpoegdcecopaaGreatEngF
set_option linter.unusedVariables false
set_option linter.unusedSimpArgs false
namespace Go.Eng
open Go Go.RowKit

/-- How a box's cell reads. -/
inductive CapC (s : St) : AC → T → Prop
  | t {r : Option Nat} {x : T} : CapC s (.t r x) x
  | own {i e : Nat} {pn : Option Value} {deep : Bool} {α : Type} {sz : Nat} {enc : α → Nat → T} {xs : List α} (h : alook s.ob i = some (.row pn e deep sz enc xs)) : CapC s (.own i) (.sl sz enc xs)
  | nil {α : Type} {sz : Nat} {enc : α → Nat → T} {n : Nat} : CapC s (.t none (.v (.slice none 0 n))) (.sl sz enc [])
inductive CapL (s : St) : List AC → (Nat → T) → Nat → Prop
  | nil {c : Nat → T} {j : Nat} : CapL s [] c j
  | cons {a : AC} {al : List AC} {c : Nat → T} {j : Nat} (h : CapC s a (c j)) (hr : CapL s al c (j + 1)) : CapL s (a :: al) c j
/-- What a function value has captured: boxes, as what they read. -/
inductive Caps (s : St) : List (Nat × Nat) → List ((Nat → T) × Nat) → Prop
  | nil : Caps s [] []
  | cons {i o m : Nat} {c : Nat → T} {cells al : List AC} {ps : List (Nat × Nat)} {cs : List ((Nat → T) × Nat)} (h : alook s.ob i = some (.box cells)) (hl : (cells.drop o).take m = al) (hm : al.length = m) (hc : CapL s al c 0) (hr : Caps s ps cs) : Caps s ((i, o) :: ps) ((c, m) :: cs)
/-- A slice over a box of the call's own, as what it reads. -/
inductive BslL (s : St) {α : Type} (enc : α → Nat → T) : List AC → List α → Prop
  | nil {al : List AC} : BslL s enc al []
  | cons {a : AC} {x : α} {al : List AC} {xs : List α} (h : CapC s a (enc x 0)) (hr : BslL s enc al xs) : BslL s enc (a :: al) (x :: xs)
/-- How a value is handed over: as something that is read. sh: the answer may read it, too. -/
inductive Arg (s : St) : Bool → AC → AC → Prop
  | t0 {sh : Bool} {x : T} : Arg s sh (.t none x) (.t none x)
  | t1 {i : Nat} {x : T} : Arg s false (.t (some i) x) (.t none x)
  | own {i e : Nat} {pn : Option Value} {deep : Bool} {α : Type} {sz : Nat} {enc : α → Nat → T} {xs : List α} (h : alook s.ob i = some (.row pn e deep sz enc xs)) : Arg s false (.own i) (.t none (.sl sz enc xs))
  | nil {sh : Bool} {α : Type} {sz : Nat} {enc : α → Nat → T} {n : Nat} : Arg s sh (.t none (.v (.slice none 0 n))) (.t none (.sl sz enc []))
  | p0 {sh : Bool} {c : Nat → T} {m : Nat} : Arg s sh (.pel none c m) (.pel none c m)
  | p1 {i : Nat} {c : Nat → T} {m : Nat} : Arg s false (.pel (some i) c m) (.pel none c m)
  | fn {sh : Bool} {f : Nat} : Arg s sh (.clo f []) (.clo f [])
  | fv {sh : Bool} {f : Nat} {cs : List ((Nat → T) × Nat)} : Arg s sh (.fv f cs) (.fv f cs)
  | clo {f : Nat} {ps : List (Nat × Nat)} {cs : List ((Nat → T) × Nat)} (h : Caps s ps cs) : Arg s false (.clo f ps) (.fv f cs)
  | p2 {i o m : Nat} {c : Nat → T} {cells al : List AC} (h : alook s.ob i = some (.box cells)) (hl : (cells.drop o).take m = al) (hm : al.length = m) (hc : CapL s al c 0) : Arg s false (.ptr i o) (.pel none c m)
  | top {sh : Bool} {a : AC} : Arg s sh a .top
  | bsl {i n : Nat} {α : Type} {enc : α → Nat → T} {xs : List α} {cells : List AC} (h : alook s.ob i = some (.box cells)) (hn : Nat.beq n xs.length = true) (hc : BslL s enc cells xs) : Arg s false (.bsl i n) (.t none (.sl 1 enc xs))
inductive ArgL (s : St) (sh : Bool) : List AC → List AC → Prop
  | nil : ArgL s sh [] []
  | cons {a b : AC} {al bs : List AC} (h : Arg s sh a b) (hr : ArgL s sh al bs) : ArgL s sh (a :: al) (b :: bs)
inductive ArgV (s : St) (sh : Bool) : AV → AV → Prop
  | c {a b : AC} (h : Arg s sh a b) : ArgV s sh (.c a) (.c b)
  | agg {al bs : List AC} (h : ArgL s sh al bs) : ArgV s sh (.agg al) (.agg bs)
inductive Args (s : St) (sh : Bool) : List Operand → List AV → Prop
  | nil : Args s sh [] []
  | cons {x : Operand} {v b : AV} {xs : List Operand} {bs : List AV} (hx : s.ev x = some v) (h : ArgV s sh v b) (hr : Args s sh xs bs) : Args s sh (x :: xs) (b :: bs)
def Sc (sh : Bool) (S : Nat → Prop) (w : World) : Nat → Prop := fun k => if sh = true then S k else k < w.heap.size
theorem nil_rd {w : World} {S : Nat → Prop} {α : Type} {sz : Nat} {enc : α → Nat → T} {n : Nat} : Rd w S (.sl sz enc []) (.slice none 0 n) := ⟨none, n, rfl, Nat.zero_le _, fun i x h => by simp at h⟩
section
variable {cx : Cx} {s : St} {E : Nat → EE} {S : Nat → Prop} {w : World} {sh : Bool}
theorem S_sc (hI : Inv cx s.ob s.nx E S w) (k : Nat) (h : S k) : Sc sh S w k := by
  unfold Sc
  split
  · exact h
  · exact hI.slt k h
theorem row_rd {i e : Nat} {pn : Option Value} {deep : Bool} {α : Type} {sz : Nat} {enc : α → Nat → T} {xs : List α} (hI : Inv cx s.ob s.nx E S w) (h : alook s.ob i = some (.row pn e deep sz enc xs)) : Rd w (fun k => k < w.heap.size) (.sl sz enc xs) (E i).u := by
  obtain ⟨hl, hrd, _, ho⟩ := hI.obs _ _ h
  cases deep
  · simp only [Bool.false_eq_true, if_false] at ho
    obtain ⟨cells, h1, h2, h3⟩ := ho
    obtain ⟨A, cap, hu, hc, hr⟩ := own_read h1
    refine ⟨A, cap, hu, hc, fun j x hx => ?_⟩
    cases A with
    | none =>
      have hl2 := h1.2
      rcases hl2 with ⟨_, hn⟩ | ⟨g, cap', cur, e1, _⟩
      · have : xs = [] := List.eq_nil_of_length_eq_zero hn
        subst this
        simp at hx
      · rw [hu] at e1; cases e1
    | some ad =>
      refine ⟨ad, rfl, (hI.fp i hl _ (h2 _ (by rw [hu]; rfl))).1, fun q hq => ?_⟩
      obtain ⟨u', h4, h5⟩ := h3 j x hx q hq
      obtain ⟨g, e1, _, e2⟩ := hr _ _ h4
      cases e1
      exact ⟨u', e2, Rd.move (fun k hk => hI.slt k hk) (fun _ _ => rfl) _ _ h5⟩
  · simp only [if_true] at ho
    exact Rd.move (fun k hk => (hI.fp i hl k hk).1) (fun _ _ => rfl) _ _ (Ow.rd (.sl sz enc xs) _ ⟨e, ho⟩)
theorem CapC.den {a : AC} {t : T} {u : Value} (h : CapC s a t) (hI : Inv cx s.ob s.nx E S w) (hd : denC E S w a u) : Rd w (fun k => k < w.heap.size) t u := by
  cases h with
  | @t r x =>
    obtain ⟨hl, hd⟩ := hd
    cases r with
    | none => exact Rd.move (fun k hk => hI.slt k hk) (fun _ _ => rfl) _ _ hd
    | some i => exact Rd.move (fun k hk => (hI.fp i hl.1 k hk).1) (fun _ _ => rfl) _ _ hd
  | own h =>
    obtain ⟨_, rfl, _⟩ := hd
    exact row_rd hI h
  | nil =>
    obtain ⟨_, rfl, _⟩ := hd
    exact nil_rd
theorem CapL.get {al : List AC} {c : Nat → T} {st : Nat} (h : CapL s al c st) : ∀ q a, al[q]? = some a → CapC s a (c (st + q)) := by
  induction h with
  | nil => intro q a h; simp at h
  | @cons a0 al0 c0 j h hr ih =>
    intro q a hq
    match q with
    | 0 => cases hq; exact h
    | q + 1 =>
      have := ih q a (by simpa using hq)
      rwa [show j + (q + 1) = j + 1 + q by omega]
theorem cap_one {i o m : Nat} {c : Nat → T} {cells al : List AC} {u : Value} (h : alook s.ob i = some (.box cells)) (hl : (cells.drop o).take m = al) (hm : al.length = m) (hc : CapL s al c 0) (hI : Inv cx s.ob s.nx E S w) (hp : denP E i o u) :
    ∃ ad : Addr, u = .pointer (some ad) ∧ ad.block < w.heap.size ∧ ∀ q, q < m → ∃ u', w.cell? (ad.add q) = some u' ∧ Rd w (fun k => k < w.heap.size) (c q) u' := by
  obtain ⟨hlv, g, h1, rfl⟩ := hp
  obtain ⟨_, _, g', e, cs, h3, hF, h4, h5⟩ := hI.obs _ _ h
  rw [h3] at h1
  cases h1
  refine ⟨_, rfl, (hI.fp i hlv g ((hF g).2 rfl)).1, fun q hq => ?_⟩
  obtain ⟨a, ha⟩ : ∃ a, al[q]? = some a := ⟨_, List.getElem?_eq_getElem (by omega)⟩
  have hcc := hc.get q a ha
  rw [Nat.zero_add] at hcc
  rw [← hl, List.getElem?_take, if_pos hq, List.getElem?_drop] at ha
  obtain ⟨u', e1, e2⟩ := h5.2 _ _ ha
  refine ⟨u', ?_, hcc.den hI e2⟩
  rw [add_flat, cell_of_row w g _ _ e _ h4]
  simpa using e1
theorem Caps.den {ps : List (Nat × Nat)} {cs : List ((Nat → T) × Nat)} {us : List Value} (h : Caps s ps cs) (hI : Inv cx s.ob s.nx E S w) (hu : us.length = ps.length) (hd : ∀ (j : Nat) (p : Nat × Nat), ps[j]? = some p → ∃ u', us[j]? = some u' ∧ denP E p.1 p.2 u') :
    us.length = cs.length ∧ ∀ (j : Nat) (p : (Nat → T) × Nat), cs[j]? = some p → ∃ ad : Addr, us[j]? = some (.pointer (some ad)) ∧ ad.block < w.heap.size ∧ ∀ q, q < p.2 → ∃ u', w.cell? (ad.add q) = some u' ∧ Rd w (fun k => k < w.heap.size) (p.1 q) u' := by
  induction h generalizing us with
  | nil => exact ⟨hu, fun j p hj => by simp at hj⟩
  | cons h hl hm hc hr ih =>
    cases us with
    | nil => simp at hu
    | cons u us =>
      have := ih (us := us) (by simpa using hu) (fun j p hj => hd (j + 1) p hj)
      refine ⟨by simp [this.1], fun j p hj => ?_⟩
      match j with
      | 0 =>
        cases hj
        obtain ⟨u', e1, e2⟩ := hd 0 _ rfl
        cases e1
        obtain ⟨ad, q1, q2, q3⟩ := cap_one h hl hm hc hI e2
        exact ⟨ad, by rw [q1]; rfl, q2, q3⟩
      | j + 1 => exact this.2 j p hj
theorem BslL.get {α : Type} {enc : α → Nat → T} {al : List AC} {xs : List α} (h : BslL s enc al xs) : ∀ (q : Nat) (x : α), xs[q]? = some x → ∃ a, al[q]? = some a ∧ CapC s a (enc x 0) := by
  induction h with
  | nil => intro q x h; simp at h
  | cons h hr ih =>
    intro q x hq
    match q with
    | 0 => cases hq; exact ⟨_, rfl, h⟩
    | q + 1 => exact ih q x (by simpa using hq)
theorem bsl_rd {i n : Nat} {α : Type} {enc : α → Nat → T} {xs : List α} {cells : List AC} {u : Value} (h : alook s.ob i = some (.box cells)) (hn : Nat.beq n xs.length = true) (hc : BslL s enc cells xs) (hI : Inv cx s.ob s.nx E S w) (hd : denC E S w (.bsl i n) u) : Rd w (fun k => k < w.heap.size) (.sl 1 enc xs) u := by
  obtain ⟨hlv, g, h1, rfl⟩ := hd
  obtain ⟨_, _, g', e, cs, h3, hF, h4, h5⟩ := hI.obs _ _ h
  rw [h3] at h1
  cases h1
  have hn' : n = xs.length := Nat.eq_of_beq_eq_true hn
  subst hn'
  refine ⟨_, _, rfl, Nat.le_refl _, fun j x hx => ⟨_, rfl, (hI.fp i hlv g ((hF g).2 rfl)).1, fun q hq => ?_⟩⟩
  obtain rfl : q = 0 := by omega
  obtain ⟨a, ha, hcc⟩ := hc.get j x hx
  obtain ⟨u', e1, e2⟩ := h5.2 _ _ ha
  refine ⟨u', ?_, hcc.den hI e2⟩
  rw [add_flat, cell_of_row w g _ _ e _ h4]
  simpa using e1
theorem Arg.den {a b : AC} {u : Value} (h : Arg s sh a b) (hI : Inv cx s.ob s.nx E S w) (hd : denC E S w a u) : denC (fun _ => dead) (Sc sh S w) w b u := by
  cases h with
  | t0 => exact ⟨trivial, Rd.move (S_sc hI) (fun _ _ => rfl) _ _ hd.2⟩
  | @t1 i x => exact ⟨trivial, Rd.move (fun k hk => show Sc false S w k from by unfold Sc; exact (hI.fp i hd.1.1 k hk).1) (fun _ _ => rfl) _ _ hd.2⟩
  | own h =>
    obtain ⟨_, rfl, _⟩ := hd
    exact ⟨trivial, row_rd hI h⟩
  | nil =>
    obtain ⟨_, rfl, _⟩ := hd
    exact ⟨trivial, nil_rd⟩
  | p0 =>
    obtain ⟨_, ad, rfl, h1, h2⟩ := hd
    refine ⟨trivial, ad, rfl, S_sc hI _ h1, fun j hj => ?_⟩
    obtain ⟨u', h3, h4⟩ := h2 j hj
    exact ⟨u', h3, Rd.move (S_sc hI) (fun _ _ => rfl) _ _ h4⟩
  | @p1 i c m =>
    obtain ⟨hl, ad, rfl, h1, h2⟩ := hd
    have hk : ∀ k, (E i).F k → Sc false S w k := fun k hk => by unfold Sc; exact (hI.fp i hl.1 k hk).1
    refine ⟨trivial, ad, rfl, hk _ h1, fun j hj => ?_⟩
    obtain ⟨u', h3, h4⟩ := h2 j hj
    exact ⟨u', h3, Rd.move hk (fun _ _ => rfl) _ _ h4⟩
  | fn =>
    obtain ⟨us, rfl, h1, h2⟩ := hd
    exact ⟨us, rfl, h1, fun j p hp => by simp at hp⟩
  | fv =>
    obtain ⟨us, rfl, h1, h2⟩ := hd
    refine ⟨us, rfl, h1, fun j p hp => ?_⟩
    obtain ⟨ad, q1, q2, q3⟩ := h2 j p hp
    refine ⟨ad, q1, S_sc hI _ q2, fun q hq => ?_⟩
    obtain ⟨u', e1, e2⟩ := q3 q hq
    exact ⟨u', e1, Rd.move (S_sc hI) (fun _ _ => rfl) _ _ e2⟩
  | clo h =>
    obtain ⟨us, rfl, h1, h2⟩ := hd
    obtain ⟨q1, q2⟩ := h.den hI h1 h2
    exact ⟨us, rfl, q1, q2⟩
  | p2 h hl hm hc =>
    obtain ⟨ad, q1, q2, q3⟩ := cap_one h hl hm hc hI hd
    exact ⟨trivial, ad, q1, q2, q3⟩
  | top => exact hd.one
  | bsl h hn hc =>
    have := bsl_rd h hn hc hI hd
    exact ⟨trivial, this⟩
theorem ArgL.den {al bs : List AC} {us : List Value} (h : ArgL s sh al bs) (hI : Inv cx s.ob s.nx E S w) (hd : denL E S w al us) : denL (fun _ => dead) (Sc sh S w) w bs us := by
  induction h generalizing us with
  | nil => exact ⟨hd.1, fun j c hj => by simp at hj⟩
  | cons h hr ih =>
    obtain ⟨h1, h2⟩ := hd
    cases us with
    | nil => simp at h1
    | cons u us =>
      have := ih (us := us) ⟨by simpa using h1, fun j c hj => h2 (j + 1) c hj⟩
      refine ⟨by simp [this.1], fun j c hj => ?_⟩
      match j with
      | 0 =>
        cases hj
        obtain ⟨u', e1, e2⟩ := h2 0 _ rfl
        cases e1
        exact ⟨u, rfl, h.den hI e2⟩
      | j + 1 => exact this.2 j c hj
theorem ArgV.den {a b : AV} {u : Value} (h : ArgV s sh a b) (hI : Inv cx s.ob s.nx E S w) (hd : denV E S w a u) : denV (fun _ => dead) (Sc sh S w) w b u := by
  cases h with
  | c h => exact h.den hI hd
  | agg h =>
    obtain ⟨us, rfl, hd⟩ := hd
    exact ⟨us, rfl, h.den hI hd⟩
theorem Args.den {xs : List Operand} {bs : List AV} {a : Act} (h : Args s sh xs bs) (hI : Inv cx s.ob s.nx E S w) (hT : denT E S w s.tm a.tmps) : denA (fun _ => dead) (Sc sh S w) w bs (xs.map a.eval) := by
  induction h with
  | nil => exact ⟨rfl, fun j v hj => by simp at hj⟩
  | cons hx h hr ih =>
    refine ⟨by simp [ih.1], fun j v hj => ?_⟩
    match j with
    | 0 => cases hj; exact ⟨_, rfl, h.den hI (ev_den hT hx)⟩
    | j + 1 => exact ih.2 j v hj
end

/-! ### the answer, in the caller's names -/
def AC.up (d : Nat) : AC → AC
  | .t (some i) x => .t (some (d + i)) x
  | .pel (some i) c m => .pel (some (d + i)) c m
  | .ptr i o => .ptr (d + i) o
  | .own i => .own (d + i)
  | .bsl i n => .bsl (d + i) n
  | .poe i e sz o => .poe (d + i) e sz o
  | .cel i e sz o => .cel (d + i) e sz o
  | .vw i off n sz => .vw (d + i) off n sz
  | .clo f caps => .clo f (caps.map fun p => (d + p.1, p.2))
  | a => a
def AV.up (d : Nat) : AV → AV
  | .c a => .c (a.up d)
  | .agg cs => .agg (cs.map (AC.up d))
  | .tup vs => .tup (vs.map fun x => (x.1, x.2.map (AC.up d)))
def Ob.up (d : Nat) : Ob → Ob
  | .box cs => .box (cs.map (AC.up d))
  | o => o
def upO (d : Nat) : List (Nat × Option Ob) → List (Nat × Option Ob) → List (Nat × Option Ob)
  | [], r => r
  | (i, o) :: l, r => (d + i, o.map (Ob.up d)) :: upO d l r
/-- It leans on no place that is shared. -/
def AC.ns : AC → Bool
  | .t none (.sl ..) => false
  | .pel none _ _ => false
  | .fv _ _ => false
  | _ => true
def Ob.ns : Ob → Bool
  | .box cs => cs.all AC.ns
  | .row _ _ deep _ _ _ => deep
def nsO (l : List (Nat × Option Ob)) : Bool := l.all fun x => match x.2 with | some o => o.ns | none => true
def joinE (d : Nat) (E E' : Nat → EE) : Nat → EE := fun i => if i < d then E i else E' (i - d)
theorem joinE_up (d : Nat) (E E' : Nat → EE) (i : Nat) : joinE d E E' (d + i) = E' i := by
  unfold joinE
  rw [if_neg (by omega), Nat.add_sub_cancel_left]
theorem joinE_lo {d : Nat} {E E' : Nat → EE} {i : Nat} (h : i < d) : joinE d E E' i = E i := if_pos h
section
variable {d : Nat} {E E' : Nat → EE} {S' S'' : Nat → Prop} {w : World}
theorem up_c (hS : ∀ k, S' k → S'' k) {a : AC} {u : Value} (hd : denC E' S' w a u) : denC (joinE d E E') S'' w (a.up d) u := by
  cases a with
  | top => exact hd
  | t r x =>
    cases r with
    | none => exact ⟨trivial, Rd.move hS (fun _ _ => rfl) _ _ hd.2⟩
    | some i =>
      show ((joinE d E E' (d + i)).live ∧ (joinE d E E' (d + i)).rd) ∧ Rd w (joinE d E E' (d + i)).F x u
      rw [joinE_up]
      exact hd
  | ptr i o => show denP _ (d + i) o u; unfold denP; rw [joinE_up]; exact hd
  | own i => show _ ∧ _; rw [joinE_up]; exact hd
  | bsl i n => show _ ∧ _; rw [joinE_up]; exact hd
  | pel r c m =>
    cases r with
    | none =>
      obtain ⟨_, ad, h1, h2, h3⟩ := hd
      exact ⟨trivial, ad, h1, hS _ h2, fun j hj => by
        obtain ⟨u', e1, e2⟩ := h3 j hj
        exact ⟨u', e1, Rd.move hS (fun _ _ => rfl) _ _ e2⟩⟩
    | some i =>
      show ((joinE d E E' (d + i)).live ∧ (joinE d E E' (d + i)).rd) ∧ ∃ ad : Addr, u = .pointer (some ad) ∧ (joinE d E E' (d + i)).F ad.block ∧ ∀ j, j < m → ∃ u', w.cell? (ad.add j) = some u' ∧ Rd w (joinE d E E' (d + i)).F (c j) u'
      rw [joinE_up]
      exact hd
  | poe i e sz o => show _ ∧ _; rw [joinE_up]; exact hd
  | vw i off n sz => show (joinE d E E' (d + i)).live ∧ ∃ g m cap cap', (joinE d E E' (d + i)).u = .slice (some ⟨g, 0, none⟩) m cap ∧ u = .slice (some ⟨g, off * sz, none⟩) n cap' ∧ off + cap' = cap; rw [joinE_up]; exact hd
  | cel i e sz o => show ((joinE d E E' (d + i)).live ∧ (joinE d E E' (d + i)).rd) ∧ u.oneCell' = true ∧ ∃ g n cap, (joinE d E E' (d + i)).u = .slice (some ⟨g, 0, none⟩) n cap ∧ (joinE d E E' (d + i)).F g ∧ w.cell? ⟨g, e * sz + o, none⟩ = some u; rw [joinE_up]; exact hd
  | fv f cs =>
    obtain ⟨us, h1, h2, h3⟩ := hd
    refine ⟨us, h1, h2, fun j p hp => ?_⟩
    obtain ⟨ad, q1, q2, q3⟩ := h3 j p hp
    refine ⟨ad, q1, hS _ q2, fun q hq => ?_⟩
    obtain ⟨u', e1, e2⟩ := q3 q hq
    exact ⟨u', e1, Rd.move hS (fun _ _ => rfl) _ _ e2⟩
  | clo f caps =>
    obtain ⟨us, h1, h2, h3⟩ := hd
    refine ⟨us, h1, by rw [h2, List.length_map], fun j p hp => ?_⟩
    rw [List.getElem?_map] at hp
    obtain ⟨q, e1, rfl⟩ := Option.map_eq_some_iff.mp hp
    obtain ⟨u', e2, e3⟩ := h3 j q e1
    refine ⟨u', e2, ?_⟩
    unfold denP at *
    rw [joinE_up]
    exact e3
theorem ns_c {S1 S2 : Nat → Prop} {a : AC} {u : Value} (hn : a.ns = true) (hd : denC E' S1 w a u) : denC E' S2 w a u := by
  cases a with
  | t r x =>
    cases r with
    | none =>
      cases x with
      | v x => exact hd
      | sl => simp [AC.ns] at hn
    | some i => exact hd
  | pel r c m =>
    cases r with
    | none => simp [AC.ns] at hn
    | some i => exact hd
  | fv f cs => simp [AC.ns] at hn
  | _ => exact hd
theorem up_l (hS : ∀ k, S' k → S'' k) {cs : List AC} {us : List Value} (hd : denL E' S' w cs us) : denL (joinE d E E') S'' w (cs.map (AC.up d)) us := by
  refine ⟨by rw [hd.1, List.length_map], fun j c hj => ?_⟩
  rw [List.getElem?_map] at hj
  obtain ⟨q, e1, rfl⟩ := Option.map_eq_some_iff.mp hj
  obtain ⟨u', e2, e3⟩ := hd.2 j q e1
  exact ⟨u', e2, up_c hS e3⟩
theorem ns_l {S1 S2 : Nat → Prop} {cs : List AC} {us : List Value} (hn : cs.all AC.ns = true) (hd : denL E' S1 w cs us) : denL E' S2 w cs us :=
  ⟨hd.1, fun j c hj => by
    obtain ⟨u', e2, e3⟩ := hd.2 j c hj
    exact ⟨u', e2, ns_c (List.all_eq_true.1 hn c (List.mem_of_getElem? hj)) e3⟩⟩
theorem up_v (hS : ∀ k, S' k → S'' k) {a : AV} {u : Value} (hd : denV E' S' w a u) : denV (joinE d E E') S'' w (a.up d) u := by
  cases a with
  | c a => exact up_c hS hd
  | agg cs => obtain ⟨us, rfl, hd⟩ := hd; exact ⟨us, rfl, up_l hS hd⟩
  | tup vs =>
    obtain ⟨us, rfl, hl, hd⟩ := hd
    refine ⟨us, rfl, by rw [hl, List.length_map], fun j b cs hj => ?_⟩
    rw [List.getElem?_map] at hj
    obtain ⟨⟨b0, c0⟩, e1, e2⟩ := Option.map_eq_some_iff.mp hj
    cases e2
    obtain ⟨u', e2, e3⟩ := hd j b0 c0 e1
    refine ⟨u', e2, ?_⟩
    unfold denB at *
    split
    · rename_i hb
      rw [if_pos hb] at e3
      obtain ⟨us, rfl, e3⟩ := e3
      exact ⟨us, rfl, up_l hS e3⟩
    · rename_i hb
      rw [if_neg hb] at e3
      exact up_l hS e3
theorem ns_v {S1 S2 : Nat → Prop} {a : AV} {u : Value} (hn : a.all AC.ns = true) (hd : denV E' S1 w a u) : denV E' S2 w a u := by
  cases a with
  | c a => exact ns_c hn hd
  | agg cs => obtain ⟨us, rfl, hd⟩ := hd; exact ⟨us, rfl, ns_l hn hd⟩
  | tup vs =>
    obtain ⟨us, rfl, hl, hd⟩ := hd
    refine ⟨us, rfl, hl, fun j b cs hj => ?_⟩
    have hn : cs.all AC.ns = true := (List.all_eq_true.1 hn) (b, cs) (List.mem_of_getElem? hj)
    obtain ⟨u', e2, e3⟩ := hd j b cs hj
    refine ⟨u', e2, ?_⟩
    unfold denB at *
    split
    · rename_i hb
      rw [if_pos hb] at e3
      obtain ⟨us, rfl, e3⟩ := e3
      exact ⟨us, rfl, ns_l hn e3⟩
    · rename_i hb
      rw [if_neg hb] at e3
      exact ns_l hn e3
theorem up_ob (hS : ∀ k, S' k → S'' k) {i : Nat} {o : Ob} (ho : okOb E' S' w i o) : okOb (joinE d E E') S'' w (d + i) (o.up d) := by
  cases o with
  | box cells =>
    obtain ⟨h1, g, e, cs, h2, h3, h4, h5⟩ := ho
    refine ⟨by rw [joinE_up]; exact h1, g, e, cs, by rw [joinE_up]; exact h2, fun k => by rw [joinE_up]; exact h3 k, h4, up_l hS h5⟩
  | row pn e deep sz enc xs =>
    obtain ⟨h1, hpn, h2⟩ := ho
    refine ⟨by rw [joinE_up]; exact h1, by rw [joinE_up]; exact hpn, ?_⟩
    rw [joinE_up]
    cases deep
    · simp only [Bool.false_eq_true, if_false] at h2 ⊢
      exact Ro.move hS (fun _ _ => rfl) (fun _ q => q) (fun _ _ => rfl) h2
    · exact h2
theorem ns_ob {S1 S2 : Nat → Prop} {i : Nat} {o : Ob} (hn : o.ns = true) (ho : okOb E' S1 w i o) : okOb E' S2 w i o := by
  cases o with
  | box cells =>
    obtain ⟨h1, g, e, cs, h2, h3, h4, h5⟩ := ho
    exact ⟨h1, g, e, cs, h2, h3, h4, ns_l hn h5⟩
  | row pn e deep sz enc xs =>
    have hn : deep = true := hn
    subst hn
    exact ho
end
theorem alook_upO {d : Nat} : ∀ (l r : List (Nat × Option Ob)) (i : Nat), alook (upO d l r) i = if d ≤ i ∧ (l.any fun x => Nat.beq x.1 (i - d)) = true then (alook l (i - d)).map (Ob.up d) else alook r i
  | [], r, i => by simp [upO]
  | (j, o) :: l, r, i => by
    simp only [upO]
    rw [alook_cons, alook_upO l r i, alook_cons]
    by_cases h1 : i = d + j
    · subst h1
      simp
    · rw [if_neg h1]
      by_cases h2 : d ≤ i
      · have h3 : ¬ (i - d = j) := by omega
        have h4 : Nat.beq j (i - d) = false := by
          cases hb : Nat.beq j (i - d)
          · rfl
          · exact absurd (Nat.eq_of_beq_eq_true hb).symm h3
        simp only [List.any_cons, h4, Bool.false_or, h3, if_false]
      · simp [h2]
theorem alook_any {l : List (Nat × Option Ob)} {i : Nat} {o : Ob} (h : alook l i = some o) : (l.any fun x => Nat.beq x.1 i) = true := by
  induction l with
  | nil => simp [alook] at h
  | cons x l ih =>
    obtain ⟨j, o'⟩ := x
    rw [alook_cons] at h
    by_cases e : i = j
    · subst e; simp
    · rw [if_neg e] at h
      simp only [List.any_cons, Bool.or_eq_true]
      exact .inr (ih h)
section rules
variable {cx : Cx} {s : St} {k : List Item} {R : Ending → World → Prop} {ops : Array Oper} {rest : List Oper} {dst : Option Nat} {ty : TypeId} {pos : String} {aft : Array Edge}
theorem Inv.join {P : Program} {g : FuncId} {n : Nat} {sh : Bool} {ob' : List (Nat × Option Ob)} {nx' : Nat} {E E' : Nat → EE} {S S' : Nat → Prop} {w w' : World} (hI : Inv cx s.ob s.nx E S w) (hI' : Inv ⟨P, g, n, w, Sc sh S w, fun _ => False⟩ ob' nx' E' S' w') (hns : sh = true ∨ nsO ob' = true) :
    Inv cx (upO s.nx ob' s.ob) (s.nx + nx') (joinE s.nx E E') (fun k => S k ∨ (sh = true ∧ S' k)) w' ∧ Carry E (joinE s.nx E E') S (fun k => S k ∨ (sh = true ∧ S' k)) w w' no := by
  have hb : ∀ k, k < w.heap.size → w'.heap[k]? = w.heap[k]? := fun k hk => hI'.kept.block k hk (fun h => h)
  have hC : Carry E (joinE s.nx E E') S (fun k => S k ∨ (sh = true ∧ S' k)) w w' no := {
    sub := fun _ h => .inl h
    keep := fun k hk => hb k (hI.slt k hk)
    place := fun a _ i _ hl => by rw [joinE_lo (hI.nxt i hl)]; exact ⟨hl, rfl⟩
    reads := fun a _ i _ hl => by rw [joinE_lo (hI.nxt i hl.1)]; exact ⟨hl, fun _ q => q, fun k hk => hb k (hI.fp i hl.1 k hk).1⟩ }
  have hsn : ∀ k, sh = true → S' k → S k ∨ w.heap.size ≤ k := fun k hs h => by
    rcases hI'.snew k h with h | h
    · refine .inl ?_
      have h : Sc sh S w k := h
      unfold Sc at h
      rwa [if_pos hs] at h
    · exact .inr h
  refine ⟨⟨?_, ?_, ?_, ?_, ?_, ?_, ?_⟩, hC⟩
  · rintro k (h | ⟨_, h⟩)
    · exact Nat.lt_of_lt_of_le (hI.slt k h) hI'.kept.size
    · exact hI'.slt k h
  · rintro k (h | ⟨hs, h⟩)
    · exact hI.snew k h
    · rcases hsn k hs h with h | h
      · exact hI.snew k h
      · exact .inr (Nat.le_trans hI.kept.size h)
  · intro i o h
    rw [alook_upO] at h
    split at h
    · rename_i hc
      obtain ⟨o', h1, rfl⟩ := Option.map_eq_some_iff.mp h
      obtain ⟨h2, h3⟩ := hI'.obs _ _ h1
      have e : i = s.nx + (i - s.nx) := by omega
      rw [e, joinE_up]
      refine ⟨h2, ?_⟩
      cases hsh : sh
      · rcases hns with q | q
        · rw [hsh] at q; cases q
        · have hno : o'.ns = true := by
            have hm : ∀ (l : List (Nat × Option Ob)) (q : Nat), nsO l = true → alook l q = some o' → o'.ns = true := by
              intro l
              induction l with
              | nil => intro q _ h; simp [alook] at h
              | cons x l ih =>
                intro q hn h
                obtain ⟨j, oj⟩ := x
                simp only [nsO, List.all_cons, Bool.and_eq_true] at hn
                rw [alook_cons] at h
                split at h
                · subst h; exact hn.1
                · exact ih q hn.2 h
            exact hm _ _ q h1
          have := up_ob (d := s.nx) (E := E) (S'' := fun k => S k ∨ (false = true ∧ S' k)) (fun k hk => hk) (ns_ob (S2 := fun k => S k ∨ (false = true ∧ S' k)) hno h3)
          exact this
      · exact up_ob (fun k hk => .inr ⟨rfl, hk⟩) h3
    · obtain ⟨h1, h2⟩ := hI.obs i o h
      have hlt := hI.nxt i h1
      rw [joinE_lo hlt]
      refine ⟨h1, ?_⟩
      have := okOb.carry hC (i := i) (by rw [joinE_lo hlt]) (fun k => by rw [joinE_lo hlt]) (by rw [joinE_lo hlt]) (fun k hk => hb k (hI.fp i h1 k hk).1) h2
      rwa [Ob.cut_none] at this
  · intro i j hij hi hj q h1 h2
    by_cases e1 : i < s.nx <;> by_cases e2 : j < s.nx
    · rw [joinE_lo e1] at hi h1; rw [joinE_lo e2] at hj h2
      exact hI.dis i j hij hi hj q h1 h2
    · rw [joinE_lo e1] at hi h1
      have := (hI.fp i hi q h1).1
      have e : j = s.nx + (j - s.nx) := by omega
      rw [e, joinE_up] at hj h2
      rcases (hI'.fp _ hj q h2).2.2 with h | h
      · have h : w.heap.size ≤ q := h
        omega
      · exact h
    · rw [joinE_lo e2] at hj h2
      have := (hI.fp j hj q h2).1
      have e : i = s.nx + (i - s.nx) := by omega
      rw [e, joinE_up] at hi h1
      rcases (hI'.fp _ hi q h1).2.2 with h | h
      · have h : w.heap.size ≤ q := h
        omega
      · exact h
    · have e3 : i = s.nx + (i - s.nx) := by omega
      have e4 : j = s.nx + (j - s.nx) := by omega
      rw [e3, joinE_up] at hi h1; rw [e4, joinE_up] at hj h2
      exact hI'.dis _ _ (by omega) hi hj q h1 h2
  · intro i hi q hq
    by_cases e1 : i < s.nx
    · rw [joinE_lo e1] at hi hq
      obtain ⟨h1, h2, h3⟩ := hI.fp i hi q hq
      refine ⟨Nat.lt_of_lt_of_le h1 hI'.kept.size, ?_, h3⟩
      rintro (h | ⟨hs, h⟩)
      · exact h2 h
      · rcases hsn q hs h with h | h
        · exact h2 h
        · omega
    · have e3 : i = s.nx + (i - s.nx) := by omega
      rw [e3, joinE_up] at hi hq
      obtain ⟨h1, h2, h3⟩ := hI'.fp _ hi q hq
      have h3 : w.heap.size ≤ q := h3.elim id False.elim
      refine ⟨h1, ?_, .inl (Nat.le_trans hI.kept.size h3)⟩
      rintro (h | ⟨hs, h⟩)
      · have := hI.slt q h
        omega
      · exact h2 h
  · intro i hi
    by_cases e1 : i < s.nx
    · omega
    · have e3 : i = s.nx + (i - s.nx) := by omega
      rw [e3, joinE_up] at hi
      have := hI'.nxt _ hi
      omega
  · exact ⟨hI'.kept.os.trans hI.kept.os, hI'.kept.tape.trans hI.kept.tape, hI'.kept.output.trans hI.kept.output, Nat.le_trans hI.kept.size hI'.kept.size, fun q hq hm => (hb q (Nat.lt_of_lt_of_le hq hI.kept.size)).trans (hI.kept.block q hq hm)⟩
/-- A call of a function that only reads. -/
theorem o_call (d m : Nat) (sh : Bool) {g : FuncId} {xs : Array Operand} {ats : Array TypeId} {cargs : List AV} {ob' : List (Nat × Option Ob)} {nx' : Nat} {res : AV} (hE : Go.Proofs.Enters cx.P g) (hC : Pu cx.P g cargs ob' nx' res) (hd : okd dst cx.n = true) (ha : Args s sh xs.toList cargs) (hns : (sh || (nsO ob' && res.all AC.ns)) = true) (hdx : s.nx = d) (hm : d + nx' = m) :
    Os cx s ⟨dst, .call { callee := .value (.func g), args := xs, argTypes := ats }, ty, pos, aft, none⟩ ((⟨s.tm, upO d ob' s.ob, m⟩ : St).sets dst (some (res.up d))) true := by
  subst hdx hm
  intro Q a w hg
  obtain ⟨E, S, hI, hT, hn, hdf⟩ := hg
  unfold Oper.wp
  rw [execOp_call_go, hE]
  have hargs : #[] ++ Array.map a.eval xs ++ #[] = (xs.toList.map a.eval).toArray := by
    apply Array.ext'
    simp
  rw [hargs, Oper.upon_enter]
  refine (hC 0 w (Sc sh S w) (xs.toList.map a.eval) (fun k hk => ?_) (ha.den hI hT)).mono ?_
  · unfold Sc at hk
    split at hk
    · exact hI.slt k hk
    · exact hk
  · rintro e w' ⟨u, E', S', rfl, hI', hu⟩
    obtain ⟨h1, h2⟩ := hI.join hI' (by cases sh <;> simp_all)
    refine ⟨⟨_, _, by rw [sets_ob, sets_nx]; exact h1, denT_puts (s := ⟨s.tm, upO s.nx ob' s.ob, s.nx + nx'⟩) hd hn (denT.carry h2 hT) (fun v' e => ?_), by rw [put_size]; exact hn, by rw [put_defers]; exact hdf⟩, fun _ => ⟨hI'.kept.size, fun k hk => hI'.kept.block k hk (fun h => h)⟩⟩
    cases e
    cases hsh : sh
    · have hres : res.all AC.ns = true := by rw [hsh] at hns; simp_all
      exact up_v (S' := fun k => S k ∨ (false = true ∧ S' k)) (fun k hk => hk) (ns_v hres hu)
    · exact up_v (fun k hk => .inr ⟨rfl, hk⟩) hu
end rules
end Go.Eng
