/- The engine: the parts I, J, K, L, M, N. -/
import Derived.Test.YtahmpdfnnnibbaaDoorEngA
import Derived.OrdersHeld
/- The engine, part I: rows of the call's own: appended to, stored into, made. -/
set_option linter.unusedVariables false
set_option linter.unusedSimpArgs false
namespace Go.Eng
open Go Go.RowKit

def cutT (p : AC → Bool) (l : List (Nat × Option AV)) : List (Nat × Option AV) := l.map fun x => (x.1, x.2.map (AV.cut p))
def cutO (p : AC → Bool) (l : List (Nat × Option Ob)) : List (Nat × Option Ob) := l.map fun x => (x.1, x.2.map (Ob.cut p))
def dels : List Nat → List (Nat × Option Ob) → List (Nat × Option Ob)
  | [], l => l
  | i :: is, l => (i, none) :: dels is l
theorem alook_cutT {p : AC → Bool} : ∀ (l : List (Nat × Option AV)) (t : Nat), alook (cutT p l) t = (alook l t).map (AV.cut p)
  | [], t => rfl
  | (k, v) :: r, t => by
    show alook ((k, v.map (AV.cut p)) :: cutT p r) t = _
    rw [alook_cons, alook_cons, alook_cutT r t]
    split <;> rfl
theorem alook_cutO {p : AC → Bool} : ∀ (l : List (Nat × Option Ob)) (t : Nat), alook (cutO p l) t = (alook l t).map (Ob.cut p)
  | [], t => rfl
  | (k, v) :: r, t => by
    show alook ((k, v.map (Ob.cut p)) :: cutO p r) t = _
    rw [alook_cons, alook_cons, alook_cutO r t]
    split <;> rfl
theorem alook_dels : ∀ (is : List Nat) (l : List (Nat × Option Ob)) (t : Nat), alook (dels is l) t = if t ∈ is then none else alook l t
  | [], l, t => by simp [dels]
  | i :: is, l, t => by
    simp only [dels]
    rw [alook_cons, alook_dels is l t]
    by_cases h : t = i
    · subst h; simp
    · simp [h]
theorem denT.cut {E E' : Nat → EE} {S S' : Nat → Prop} {w w' : World} {p : AC → Bool} (h : Carry E E' S S' w w' p) {tm : List (Nat × Option AV)} {tmps : Array Value} (ht : denT E S w tm tmps) : denT E' S' w' (cutT p tm) tmps := by
  intro t v hv
  rw [alook_cutT] at hv
  obtain ⟨v0, h0, rfl⟩ := Option.map_eq_some_iff.mp hv
  exact h.v (ht t v0 h0)
theorem reads_names {a : AC} {i : Nat} (h : a.reads i = true) : a.names i = true := by
  cases a with
  | t r x => cases r <;> simp_all [AC.reads, AC.names]
  | pel r c m => cases r <;> simp_all [AC.reads, AC.names]
  | cel => simp_all [AC.reads, AC.names]
  | _ => simp_all [AC.reads]

/-- What may move into a row as one of its cells, and the object that it takes with it. -/
inductive Mv (s : St) : Bool → AC → T → Option Nat → Prop
  | sc {deep : Bool} {v : Value} : Mv s deep (.t none (.v v)) (.v v) none
  | nil {deep : Bool} {α : Type} {sz : Nat} {enc : α → Nat → T} : Mv s deep (.t none (.v (.slice none 0 0))) (.sl sz enc []) none
  | sh {x : T} : Mv s false (.t none x) x none
  | own {i e : Nat} {pn : Option Value} {α : Type} {sz : Nat} {enc : α → Nat → T} {xs : List α} (h : alook s.ob i = some (.row pn e true sz enc xs)) : Mv s true (.own i) (.sl sz enc xs) (some i)
inductive MvL (s : St) (deep : Bool) : List AC → (Nat → T) → Nat → List Nat → Prop
  | nil {c : Nat → T} {j : Nat} : MvL s deep [] c j []
  | cons {a : AC} {al : List AC} {c : Nat → T} {j : Nat} {is : List Nat} (h : Mv s deep a (c j) none) (hr : MvL s deep al c (j + 1) is) : MvL s deep (a :: al) c j is
  | take {a : AC} {al : List AC} {c : Nat → T} {j i : Nat} {is : List Nat} (h : Mv s deep a (c j) (some i)) (hn : is.all (fun k => !Nat.beq k i) = true) (hr : MvL s deep al c (j + 1) is) : MvL s deep (a :: al) c j (i :: is)
section
variable {cx : Cx} {s : St} {E : Nat → EE} {S : Nat → Prop} {w : World}
theorem Mv.den0 {deep : Bool} {a : AC} {c : T} {u : Value} (h : Mv s deep a c none) (hd : denC E S w a u) : (deep = true → Ow w c u (fun _ => False)) ∧ (deep = false → Rd w S c u) := by
  generalize ho : (none : Option Nat) = o at h
  cases h with
  | @sc _ v => exact ⟨fun _ => hd.2, fun _ => hd.2⟩
  | nil =>
    obtain ⟨_, rfl, _⟩ := hd
    refine ⟨fun _ => ⟨0, [], fun _ _ _ => False, World.ownsRow_nil _ _ _ _, fun g h => by simp [Value.ownBlock] at h, fun _ _ _ h => h.elim, fun _ _ _ _ _ h => h.elim, fun i x h => by simp at h⟩, fun _ => nil_rd⟩
  | sh => exact ⟨fun h => by (cases h), fun _ => hd.2⟩
  | own h => cases ho
theorem Mv.den1 {deep : Bool} {a : AC} {c : T} {u : Value} {i : Nat} (h : Mv s deep a c (some i)) (hI : Inv cx s.ob s.nx E S w) (hd : denC E S w a u) : deep = true ∧ (E i).live ∧ Ow w c u (E i).F := by
  generalize ho : (some i : Option Nat) = o at h
  cases h with
  | own h =>
    cases ho
    obtain ⟨_, rfl, _⟩ := hd
    obtain ⟨h1, h2, _, h3⟩ := hI.obs _ _ h
    exact ⟨rfl, h1, ⟨_, h3⟩⟩
  | _ => cases ho
theorem MvL.den {deep : Bool} {al : List AC} {c : Nat → T} {st : Nat} {is : List Nat} {vals : List Value} (h : MvL s deep al c st is) (hI : Inv cx s.ob s.nx E S w) (hd : denL E S w al vals) :
    (∀ i ∈ is, (E i).live) ∧ (deep = false → is = [] ∧ ∀ j, j < al.length → ∃ u', vals[j]? = some u' ∧ Rd w S (c (st + j)) u') ∧
    (deep = true → ∃ G : Nat → Nat → Prop, (∀ j k, G j k → ∃ i ∈ is, (E i).F k) ∧ (∀ j j' k, G j k → G j' k → j = j') ∧ ∀ j, j < al.length → ∃ u', vals[j]? = some u' ∧ Ow w (c (st + j)) u' (G j)) := by
  induction h generalizing vals with
  | nil => exact ⟨fun i h => by simp at h, fun _ => ⟨rfl, fun j h => by simp at h⟩, fun _ => ⟨fun _ _ => False, fun _ _ h => h.elim, fun _ _ _ h => h.elim, fun j h => by simp at h⟩⟩
  | @cons a al c j is h hr ih =>
    obtain ⟨h1, h2⟩ := hd
    cases vals with
    | nil => simp at h1
    | cons v vals =>
      obtain ⟨q0, q1, q2⟩ := ih (vals := vals) ⟨by simpa using h1, fun j c hj => h2 (j + 1) c hj⟩
      obtain ⟨u', e1, e2⟩ := h2 0 a rfl
      cases e1
      obtain ⟨d1, d2⟩ := h.den0 e2
      refine ⟨q0, fun hf => ⟨(q1 hf).1, fun k hk => ?_⟩, fun ht => ?_⟩
      · match k with
        | 0 => exact ⟨v, rfl, d2 hf⟩
        | k + 1 =>
          obtain ⟨u', r1, r2⟩ := (q1 hf).2 k (by simpa using hk)
          exact ⟨u', r1, by rw [show j + (k + 1) = j + 1 + k by omega]; exact r2⟩
      · obtain ⟨G, g1, g2, g3⟩ := q2 ht
        refine ⟨fun k => match k with | 0 => fun _ => False | k + 1 => G k, fun k x hx => ?_, fun k k' x hx hx' => ?_, fun k hk => ?_⟩
        · match k, hx with
          | k + 1, hx => exact g1 k x hx
        · match k, k', hx, hx' with
          | k + 1, k' + 1, hx, hx' => rw [g2 k k' x hx hx']
        · match k with
          | 0 => exact ⟨v, rfl, d1 ht⟩
          | k + 1 =>
            obtain ⟨u', r1, r2⟩ := g3 k (by simpa using hk)
            exact ⟨u', r1, by rw [show j + (k + 1) = j + 1 + k by omega]; exact r2⟩
  | @take a al c j i is h hn hr ih =>
    obtain ⟨h1, h2⟩ := hd
    cases vals with
    | nil => simp at h1
    | cons v vals =>
      obtain ⟨q0, q1, q2⟩ := ih (vals := vals) ⟨by simpa using h1, fun j c hj => h2 (j + 1) c hj⟩
      obtain ⟨u', e1, e2⟩ := h2 0 a rfl
      cases e1
      obtain ⟨d0, d1, d2⟩ := h.den1 hI e2
      have hni : i ∉ is := fun hi => by
        have := (List.all_eq_true.1 hn) i hi
        simp at this
      refine ⟨fun k hk => ?_, fun hf => by (rw [hf] at d0; cases d0), fun ht => ?_⟩
      · rcases List.mem_cons.1 hk with rfl | hk
        · exact d1
        · exact q0 k hk
      · obtain ⟨G, g1, g2, g3⟩ := q2 ht
        have hx0 : ∀ k x, G k x → ¬ (E i).F x := fun k x hx hi => by
          obtain ⟨i', hi', hf⟩ := g1 k x hx
          exact hI.dis i i' (by rintro rfl; exact hni hi') d1 (q0 i' hi') x hi hf
        refine ⟨fun k => match k with | 0 => (E i).F | k + 1 => G k, fun k x hx => ?_, fun k k' x hx hx' => ?_, fun k hk => ?_⟩
        · match k, hx with
          | 0, hx => exact ⟨i, by simp, hx⟩
          | k + 1, hx => obtain ⟨i', hi', hf⟩ := g1 k x hx; exact ⟨i', by simp [hi'], hf⟩
        · match k, k', hx, hx' with
          | 0, 0, _, _ => rfl
          | 0, k' + 1, hx, hx' => exact (hx0 k' x hx' hx).elim
          | k + 1, 0, hx, hx' => exact (hx0 k x hx hx').elim
          | k + 1, k' + 1, hx, hx' => rw [g2 k k' x hx hx']
        · match k with
          | 0 => exact ⟨v, rfl, d2⟩
          | k + 1 =>
            obtain ⟨u', r1, r2⟩ := g3 k (by simpa using hk)
            exact ⟨u', r1, by rw [show j + (k + 1) = j + 1 + k by omega]; exact r2⟩
end

/-! ### an object written: what is left of the others -/
def takeE (E : Nat → EE) (i : Nat) (is : List Nat) (x : EE) : Nat → EE := fun j => if j = i then x else if j ∈ is then ⟨(E j).u, (E j).F, False, (E j).rd⟩ else E j
theorem takeE_at {E : Nat → EE} {i : Nat} {is : List Nat} {x : EE} : takeE E i is x i = x := if_pos rfl
theorem takeE_in {E : Nat → EE} {i j : Nat} {is : List Nat} {x : EE} (h : j ≠ i) (h2 : j ∈ is) : takeE E i is x j = ⟨(E j).u, (E j).F, False, (E j).rd⟩ := by unfold takeE; rw [if_neg h, if_pos h2]
theorem takeE_ne {E : Nat → EE} {i j : Nat} {is : List Nat} {x : EE} (h : j ≠ i) (h2 : j ∉ is) : takeE E i is x j = E j := by unfold takeE; rw [if_neg h, if_neg h2]
def cutP (i : Nat) (is : List Nat) : AC → Bool := fun a => a.names i || is.any fun q => a.names q
section
variable {cx : Cx} {ob : List (Nat × Option Ob)} {nx : Nat} {E : Nat → EE} {S : Nat → Prop} {w w' : World}
/-- Object i has been written (its own blocks, and new ones), and has taken the objects is into it. -/
theorem Inv.write (hI : Inv cx ob nx E S w) {i : Nat} {is : List Nat} {x : EE} {o : Ob} (p : AC → Bool) (hi : (E i).live) (his : ∀ q ∈ is, (E q).live) (hx : x.live)
    (hp : ∀ a, p a = false → (∀ q, q ∈ is → a.names q = false) ∧ (a.names i = true → x.u = (E i).u) ∧ (a.reads i = true → (E i).live ∧ (E i).rd → False))
    (hF : ∀ k, x.F k → (E i).F k ∨ (∃ q ∈ is, (E q).F k) ∨ (w.heap.size ≤ k ∧ k < w'.heap.size))
    (hsz : w.heap.size ≤ w'.heap.size) (hos : w'.os = w.os) (htp : w'.tape = w.tape) (hout : w'.output = w.output)
    (hw : ∀ k, k < w.heap.size → ¬ (E i).F k → w'.heap[k]? = w.heap[k]?)
    (ho : okOb (takeE E i is x) S w' i o) :
    Inv cx ((i, some o) :: dels is (cutO p ob)) nx (takeE E i is x) S w' ∧ Carry E (takeE E i is x) S S w w' p := by
  have hC : Carry E (takeE E i is x) S S w w' p := {
    sub := fun _ h => h
    keep := fun k hk => hw k (hI.slt k hk) fun h => (hI.fp i hi k h).2.1 hk
    place := fun a ha j hn hl => by
      obtain ⟨h1, h2, _⟩ := hp a ha
      by_cases e : j = i
      · subst e
        rw [takeE_at]
        exact ⟨hx, h2 hn⟩
      · have : j ∉ is := fun hj => by rw [h1 j hj] at hn; cases hn
        rw [takeE_ne e this]
        exact ⟨hl, rfl⟩
    reads := fun a ha j hn hl => by
      obtain ⟨h1, _, h3⟩ := hp a ha
      have e : j ≠ i := fun e => by subst e; exact h3 hn hl
      have : j ∉ is := fun hj => by have := reads_names hn; rw [h1 j hj] at this; cases this
      rw [takeE_ne e this]
      exact ⟨hl, fun _ q => q, fun k hk => hw k (hI.fp j hl.1 k hk).1 fun h => hI.dis j i e hl.1 hi k hk h⟩ }
  refine ⟨⟨fun k hk => Nat.lt_of_lt_of_le (hI.slt k hk) hsz, hI.snew, ?_, ?_, ?_, ?_, ?_⟩, hC⟩
  · intro j o' hj
    rw [alook_cons] at hj
    by_cases e : j = i
    · subst e
      rw [if_pos rfl] at hj
      cases hj
      exact ⟨by rw [takeE_at]; exact hx, ho⟩
    · rw [if_neg e, alook_dels] at hj
      split at hj
      · cases hj
      · rename_i hni
        rw [alook_cutO] at hj
        obtain ⟨o0, h0, rfl⟩ := Option.map_eq_some_iff.mp hj
        obtain ⟨h1, h2⟩ := hI.obs j o0 h0
        rw [takeE_ne e hni]
        exact ⟨h1, okOb.carry hC (by rw [takeE_ne e hni]) (fun k => by rw [takeE_ne e hni]) (by rw [takeE_ne e hni]) (fun k hk => hw k (hI.fp j h1 k hk).1 fun h => hI.dis j i e h1 hi k hk h) h2⟩
  · have key : ∀ j, j ≠ i → (takeE E i is x j).live → (E j).live ∧ (takeE E i is x j).F = (E j).F ∧ j ∉ is := fun j e hl => by
      by_cases h : j ∈ is
      · rw [takeE_in e h] at hl; exact hl.elim
      · rw [takeE_ne e h] at hl ⊢; exact ⟨hl, rfl, h⟩
    have one : ∀ j k, j ≠ i → (takeE E i is x j).live → x.F k → (takeE E i is x j).F k → False := fun j k e hl h1 h2 => by
      obtain ⟨l1, l2, l3⟩ := key j e hl
      rw [l2] at h2
      rcases hF k h1 with h | ⟨q, hq, h⟩ | ⟨h, _⟩
      · exact hI.dis j i e l1 hi k h2 h
      · exact hI.dis j q (by rintro rfl; exact l3 hq) l1 (his q hq) k h2 h
      · have := (hI.fp j l1 k h2).1
        omega
    intro j j' hij hl hl' k h1 h2
    by_cases e1 : j = i
    · subst e1
      rw [takeE_at] at h1
      exact one j' k (fun e => hij e.symm) hl' h1 h2
    · by_cases e2 : j' = i
      · subst e2
        rw [takeE_at] at h2
        exact one j k e1 hl h2 h1
      · obtain ⟨l1, l2, _⟩ := key j e1 hl
        obtain ⟨m1, m2, _⟩ := key j' e2 hl'
        rw [l2] at h1
        rw [m2] at h2
        exact hI.dis j j' hij l1 m1 k h1 h2
  · intro j hl k hk
    by_cases e : j = i
    · subst e
      rw [takeE_at] at hk
      rcases hF k hk with h | ⟨q, hq, h⟩ | ⟨h, h2⟩
      · obtain ⟨a, b⟩ := hI.fp j hi k h
        exact ⟨by omega, b⟩
      · obtain ⟨a, b⟩ := hI.fp q (his q hq) k h
        exact ⟨by omega, b⟩
      · refine ⟨h2, fun hs => ?_, .inl (Nat.le_trans hI.kept.size h)⟩
        have := hI.slt k hs
        omega
    · by_cases h : j ∈ is
      · rw [takeE_in e h] at hl; exact hl.elim
      · rw [takeE_ne e h] at hl hk
        obtain ⟨a, b⟩ := hI.fp j hl k hk
        exact ⟨by omega, b⟩
  · intro j hl
    by_cases e : j = i
    · subst e; exact hI.nxt j hi
    · by_cases h : j ∈ is
      · rw [takeE_in e h] at hl; exact hl.elim
      · rw [takeE_ne e h] at hl; exact hI.nxt j hl
  · exact ⟨hos.trans hI.kept.os, htp.trans hI.kept.tape, hout.trans hI.kept.output, Nat.le_trans hI.kept.size hsz, fun k hk hm => (hw k (Nat.lt_of_lt_of_le hk hI.kept.size) fun h => by
      rcases (hI.fp i hi k h).2.2 with q | q
      · omega
      · exact hm q).trans (hI.kept.block k hk hm)⟩
end
def elemI (P : Program) (t : TypeId) : Option (TypeId × Nat × Nat) :=
  match P.underlying t with
  | some (.slice e) => match P.info? e with
    | some i => match i.zero with
      | some z => if z.cells.size = i.size then some (e, i.size, i.bytes) else none
      | none => none
    | none => none
  | _ => none
section rules
variable {cx : Cx} {s : St} {k : List Item} {R : Ending → World → Prop} {ops : Array Oper} {rest : List Oper} {dst : Option Nat} {ty : TypeId} {pos : String} {aft : Array Edge}
end rules
end Go.Eng

/- The engine, part J: rows stored into, made, begun. -/
set_option linter.unusedVariables false
set_option linter.unusedSimpArgs false
namespace Go.Eng
open Go Go.RowKit

/-- A zero value, and what it reads as. -/
inductive Zr : T → Value → Prop
  | v {x : Value} (h : x.oneCell' = true) : Zr (.v x) x
  | sl {α : Type} {sz : Nat} {enc : α → Nat → T} : Zr (.sl sz enc []) (.slice none 0 0)
inductive ZrL (c : Nat → T) : Nat → List Value → Prop
  | nil {j : Nat} : ZrL c j []
  | cons {j : Nat} {v : Value} {vs : List Value} (h : Zr (c j) v) (hr : ZrL c (j + 1) vs) : ZrL c j (v :: vs)
theorem ZrL.get {c : Nat → T} {st : Nat} {vs : List Value} (h : ZrL c st vs) : ∀ q v, vs[q]? = some v → Zr (c (st + q)) v := by
  induction h with
  | nil => intro q v h; simp at h
  | @cons j v0 vs h hr ih =>
    intro q v hq
    match q with
    | 0 => cases hq; exact h
    | q + 1 =>
      have := ih q v (by simpa using hq)
      rwa [show j + (q + 1) = j + 1 + q by omega]
theorem Zr.rd {w : World} {S : Nat → Prop} {t : T} {v : Value} (h : Zr t v) : Rd w S t v := by
  cases h with
  | v h => exact ⟨rfl, h⟩
  | sl => exact nil_rd
section rules
variable {cx : Cx} {s : St} {k : List Item} {R : Ending → World → Prop} {ops : Array Oper} {rest : List Oper} {dst : Option Nat} {ty : TypeId} {pos : String} {aft : Array Edge}
def cutR (i : Nat) (is : List Nat) : AC → Bool := fun a => a.reads i || is.any fun q => a.names q
/-- A new row of the call's own. -/
theorem Gm.row {a : Act} {w : World} {E : Nat → EE} {S : Nat → Prop} (hI : Inv cx s.ob s.nx E S w) (hT : denT E S w s.tm a.tmps) (hn : a.tmps.size = cx.n) (hdf : a.defers = []) (hd : okd dst cx.n = true) (o : Obj) {u : Value} {et sz : Nat} {deep : Bool} {α : Type} {enc : α → Nat → T} {xs : List α}
    (hu : u.oneCell' = true) (hrow : if deep = true then OwE (w.alloc o) et sz enc xs u (· = w.heap.size) else Ro (w.alloc o) S et sz enc xs u (· = w.heap.size)) :
    Gm cx ((s.obj s.nx (.row none et deep sz enc xs)).sets dst (some (.c (.own s.nx)))) (a.put dst u) (w.alloc o) := by
  refine ⟨upd E s.nx ⟨u, (· = w.heap.size), True, True⟩, S, ?_, denT_puts (s := s.obj s.nx (.row none et deep sz enc xs)) hd hn (denT.carry (carry_alloc hI _ _) hT) (fun v' e => ?_), by rw [put_size]; exact hn, by rw [put_defers]; exact hdf⟩
  · rw [sets_ob, sets_nx]
    exact hI.new o ⟨by rw [upd_at]; trivial, fun v hv => (by cases hv), by rw [upd_at]; exact hrow⟩
  · cases e
    exact ⟨by rw [upd_at]; trivial, by rw [upd_at], hu⟩
/-- The nil slice in a slot, taken for an own row without elements. -/
theorem Gm.nil (i : Nat) {t et sz : Nat} (deep : Bool) {α : Type} (enc : α → Nat → T) (hi : s.nx = i) (ht : alook s.tm t = some (sc (.slice none 0 0))) {a : Act} {w : World} (hg : Gm cx s a w) :
    Gm cx ⟨(t, some (.c (.own i))) :: s.tm, (i, some (.row none et deep sz enc [])) :: s.ob, i + 1⟩ a w := by
  subst hi
  obtain ⟨E, S, hI, hT, hn, hdf⟩ := hg
  have hv := sc_den (hT t _ ht)
  let E' := upd E s.nx ⟨.slice none 0 0, fun _ => False, True, True⟩
  have hC : Carry E E' S S w w no := {
    sub := fun _ h => h
    keep := fun _ _ => rfl
    place := fun a _ i _ hl => by
      have := hI.nxt i hl
      show (upd E s.nx _ i).live ∧ (upd E s.nx _ i).u = _
      rw [upd_ne (by omega)]
      exact ⟨hl, rfl⟩
    reads := fun a _ i _ hl => by
      have := hI.nxt i hl.1
      show ((upd E s.nx _ i).live ∧ (upd E s.nx _ i).rd) ∧ (∀ k, _ → (upd E s.nx _ i).F k) ∧ _
      rw [upd_ne (by omega)]
      exact ⟨hl, fun _ q => q, fun _ _ => rfl⟩ }
  refine ⟨E', S, ⟨hI.slt, hI.snew, fun j o hj => ?_, fun j j' hij hj hj' k h1 h2 => ?_, fun j hj k hk => ?_, fun j hj => ?_, hI.kept⟩, fun t' v hv' => ?_, hn, hdf⟩
  · rw [alook_cons] at hj
    by_cases e : j = s.nx
    · subst e
      rw [if_pos rfl] at hj
      cases hj
      refine ⟨by show (upd E s.nx _ s.nx).live; rw [upd_at]; trivial, by show (upd E s.nx _ s.nx).rd; rw [upd_at]; trivial, fun v hv => (by cases hv), ?_⟩
      show if deep = true then OwE w et sz enc [] (upd E s.nx _ s.nx).u (upd E s.nx _ s.nx).F else Ro w S et sz enc [] (upd E s.nx _ s.nx).u (upd E s.nx _ s.nx).F
      rw [upd_at]
      cases deep
      · exact ⟨[], World.ownsRow_nil _ _ _ _, fun g h => by simp [Value.ownBlock] at h, fun i x h => by simp at h⟩
      · exact ⟨[], fun _ _ _ => False, World.ownsRow_nil _ _ _ _, fun g h => by simp [Value.ownBlock] at h, fun _ _ _ h => h.elim, fun _ _ _ _ _ h => h.elim, fun i x h => by simp at h⟩
    · rw [if_neg e] at hj
      obtain ⟨h1, h2⟩ := hI.obs j o hj
      refine ⟨by show (upd E s.nx _ j).live; rw [upd_ne e]; exact h1, ?_⟩
      have := okOb.carry hC (i := j) (by show (upd E s.nx _ j).u = _; rw [upd_ne e]) (fun k => by show (upd E s.nx _ j).F k ↔ _; rw [upd_ne e]) (by show (upd E s.nx _ j).rd ↔ _; rw [upd_ne e]) (fun _ _ => rfl) h2
      rwa [Ob.cut_none] at this
  · have h1' : (upd E s.nx ⟨.slice none 0 0, fun _ => False, True, True⟩ j).F k := h1
    have h2' : (upd E s.nx ⟨.slice none 0 0, fun _ => False, True, True⟩ j').F k := h2
    have hj1 : (upd E s.nx ⟨.slice none 0 0, fun _ => False, True, True⟩ j).live := hj
    have hj2 : (upd E s.nx ⟨.slice none 0 0, fun _ => False, True, True⟩ j').live := hj'
    by_cases e1 : j = s.nx
    · subst e1; rw [upd_at] at h1'; exact h1'
    · by_cases e2 : j' = s.nx
      · subst e2; rw [upd_at] at h2'; exact h2'
      · rw [upd_ne e1] at h1' hj1; rw [upd_ne e2] at h2' hj2
        exact hI.dis j j' hij hj1 hj2 k h1' h2'
  · have hk' : (upd E s.nx ⟨.slice none 0 0, fun _ => False, True, True⟩ j).F k := hk
    have hj1 : (upd E s.nx ⟨.slice none 0 0, fun _ => False, True, True⟩ j).live := hj
    by_cases e1 : j = s.nx
    · subst e1; rw [upd_at] at hk'; exact hk'.elim
    · rw [upd_ne e1] at hk' hj1; exact hI.fp j hj1 k hk'
  · have hj1 : (upd E s.nx ⟨.slice none 0 0, fun _ => False, True, True⟩ j).live := hj
    by_cases e1 : j = s.nx
    · show j < s.nx + 1; omega
    · rw [upd_ne e1] at hj1
      have := hI.nxt j hj1
      show j < s.nx + 1
      omega
  · rw [alook_cons] at hv'
    by_cases e : t' = t
    · subst e
      rw [if_pos rfl] at hv'
      cases hv'
      exact ⟨by show (upd E s.nx _ s.nx).live; rw [upd_at]; trivial, by show _ = (upd E s.nx _ s.nx).u; rw [upd_at]; exact hv, by rw [hv]; rfl⟩
    · rw [if_neg e] at hv'
      exact denT.carry hC hT t' v hv'
end rules
end Go.Eng

/- The engine, part K: regions that draw their order. -/
set_option linter.unusedVariables false
set_option linter.unusedSimpArgs false
namespace Go.Eng
open Go Go.RowKit

section
variable {P : Program} {ops : Array Oper} {Q : Exit → Act → World → Prop} {md : Region.Mode} {X : Nat → Bool}
/-- In every later world o leaves v in its slot and the world as it is. -/
def YE (P : Program) (ops : Array Oper) (o : Oper) (v : Value) (a : Act) (w : World) : Prop :=
  (Region.wanted o (yielded ops a.tmps) = true ∧ ∀ w', Ext w w' → (execOp a.eval o).run P w' = .ok (.value v) w') ∨ (Region.wanted o (yielded ops a.tmps) = false ∧ v = undef)
theorem YE.later {o : Oper} {v : Value} {a : Act} {w w' : World} (h : YE P ops o v a w) (hx : Ext w w') : YE P ops o v a w' :=
  h.imp (fun ⟨h1, h2⟩ => ⟨h1, fun w'' hw => h2 w'' (hx.trans hw)⟩) id
theorem YE.wpOp {i : Nat} {o : Oper} {v : Value} {a : Act} {w : World} (hi : ops[i]? = some o) (hy : YE P ops o v a w) {K : Act → World → Prop} (h : K (a.put o.dst v) w) : wpOp P ops Q i K a w := by
  unfold Go.wpOp
  simp only [hi]
  rcases hy with ⟨hw, hv⟩ | ⟨hw, rfl⟩
  · simp only [hw, if_true, Oper.wp, hv w (Ext.refl w), Oper.upon]; exact .inl h
  · simp only [hw, Bool.false_eq_true, if_false]; exact h
/-- Whatever order is picked; behind operation i, if X i, old blocks are as they were. -/
def wpAnyE (P : Program) (md : Region.Mode) (ops : Array Oper) (Q : Exit → Act → World → Prop) (X : Nat → Bool) : Nat → Array Bool → Act → World → Prop
  | 0, listed, a, w => Region.ready md ops listed = [] ∧ Q .normal a w
  | fuel + 1, listed, a, w =>
    (Region.ready md ops listed = [] → Q .normal a w) ∧
    ∀ i ∈ Region.ready md ops listed, wpOp P ops Q i (fun a' w' => (X i = true → Ext w w') ∧ wpAnyE P md ops Q X fuel (listed.setIfInBounds i true) a' w') a w
/-- d cannot come up while i has not. -/
def Kin (md : Region.Mode) (ops : Array Oper) (listed : Array Bool) (i : Nat) (ds : List Nat) : Prop :=
  ∀ d, d ∈ ds → listed.getD d true = false ∧ ∃ od, ops[d]? = some od ∧ ∃ e, e ∈ od.after ∧ Region.binds md e = true ∧ (e.on = i ∨ e.on ∈ ds)
def kinF (md : Region.Mode) (ops : Array Oper) (listed : Array Bool) (i : Nat) : List Nat → List Nat → List Nat
  | [], ds => ds
  | j :: l, ds => kinF md ops listed i l (cond (!(listed.getD j true) && match ops[j]? with | some oj => oj.after.any (fun e => Region.binds md e && (Nat.beq e.on i || ds.contains e.on)) | none => false) (j :: ds) ds)
def kin (md : Region.Mode) (ops : Array Oper) (listed : Array Bool) (i : Nat) : List Nat := kinF md ops listed i (List.range ops.size) []
def freeX (md : Region.Mode) (ops : Array Oper) (X : Nat → Bool) (listed : Array Bool) (i : Nat) : Bool :=
  match ops[i]? with
  | none => false
  | some oi => (List.range ops.size).all fun j => j == i || listed.getD j true || (kin md ops listed i).contains j || match ops[j]? with
      | some oj => oi.apart ops oj && X j
      | none => true
end

/-- A region that draws: from such a state, what is listed having come up. -/
def Wd (cx : Cx) (s : St) (ops : Array Oper) (X : Nat → Bool) (fuel : Nat) (listed : Array Bool) (k : List Item) (R : Ending → World → Prop) : Prop :=
  ∀ a w, Gm cx s a w → wpAnyE cx.P .any ops (fun e a' w' => e = .normal ∧ ∃ s', Gm cx s' a' w' ∧ Wt cx s' k R) X fuel listed a w
section rules
variable {cx : Cx} {s : St} {k : List Item} {R : Ending → World → Prop} {ops : Array Oper} {X : Nat → Bool} {fuel : Nat} {listed : Array Bool}
end rules
end Go.Eng

/- The engine, part L: encoders and small facts. -/
set_option linter.unusedVariables false
set_option linter.unusedSimpArgs false
namespace Go.Eng
open Go Go.RowKit

theorem eqI {k : IntKind} {a b : Int} (h : a = b) : some (sc (.int k a)) = some (sc (.int k b)) := by rw [h]
theorem wr64 {x : Int} (h1 : -9223372036854775808 ≤ x) (h2 : x ≤ 9223372036854775807) : IntKind.i64.wrap x = x := by rw [IntKind.wrap_i64]; omega
theorem t_loopL {cx : Cx} {s : St} {k : List Item} {R : Ending → World → Prop} {ι : Type} {c : Code} (st : ι → St) (I : ι → Prop) (μ : ι → Nat) (x : ι) (hle : Le s (st x)) (hx : I x)
    (round : ∀ x, I x → (∀ y, μ y < μ x → I y → Wt cx (st y) (.inLoop c :: k) R) → Wt cx (st x) (.code c :: .inLoop c :: k) R) : Wt cx s (.code (.loop c) :: k) R := t_le hle (t_loop st I μ round x hx)
/-- a, a + 1, ..: n numbers. -/
def seqI (a : Int) : Nat → List Int
  | 0 => []
  | n + 1 => a :: seqI (a + 1) n
/-- Numbers. -/
def encI : Int → Nat → T := fun n _ => .v (.int .i64 n)
end Go.Eng

/- The engine, part M: functions that write into a row that they are handed. -/
set_option linter.unusedVariables false
set_option linter.unusedSimpArgs false
namespace Go.Eng
open Go Go.RowKit

def handed (E : Nat → EE) : Nat → Prop := fun k => ∃ i, (E i).live ∧ (E i).F k
/-- Of a function that writes into the objects ob alone. -/
def Mu (P : Program) (f : FuncId) (args : List AV) (ob : List (Nat × Option Ob)) (n0 : Nat) (ob' : List (Nat × Option Ob)) (nx : Nat) (res : AV) : Prop :=
  ∀ (n : Nat) (w : World) (E : Nat → EE) (S : Nat → Prop) (vs : List Value), Inv ⟨P, f, n, w, S, handed E⟩ ob n0 E S w → denA E S w args vs →
    Calls P f vs.toArray w fun e w' => ∃ u E' S', e = .returned u ∧ Inv ⟨P, f, n, w, S, handed E⟩ ob' nx E' S' w' ∧ denV E' S' w' res u
def postM (P : Program) (f : FuncId) (n : Nat) (w : World) (S : Nat → Prop) (M : Nat → Prop) (ob : List (Nat × Option Ob)) (nx : Nat) (res : AV) : Ending → World → Prop :=
  fun e w' => ∃ u E' S', e = .returned u ∧ Inv ⟨P, f, n, w, S, M⟩ ob nx E' S' w' ∧ denV E' S' w' res u
theorem Inv.fn {P : Program} {f : FuncId} {n n' : Nat} {w0 : World} {S0 M : Nat → Prop} {ob : List (Nat × Option Ob)} {nx : Nat} {E : Nat → EE} {S : Nat → Prop} {w : World} (h : Inv ⟨P, f, n, w0, S0, M⟩ ob nx E S w) : Inv ⟨P, f, n', w0, S0, M⟩ ob nx E S w :=
  ⟨h.slt, h.snew, h.obs, h.dis, h.fp, h.nxt, h.kept⟩
/-- How a value is handed over to a function that is handed object i. -/
inductive ArgM (s : St) (i : Nat) : AC → AC → Prop
  | own : ArgM s i (.own i) (.own 0)
  | t0 {x : T} : ArgM s i (.t none x) (.t none x)
inductive ArgML (s : St) (i : Nat) : List AC → List AC → Prop
  | nil : ArgML s i [] []
  | cons {a b : AC} {al bs : List AC} (h : ArgM s i a b) (hr : ArgML s i al bs) : ArgML s i (a :: al) (b :: bs)
inductive ArgsM (s : St) (i : Nat) : List Operand → List AV → Prop
  | nil : ArgsM s i [] []
  | agg {x : Operand} {al cs : List AC} {xs : List Operand} {bs : List AV} (hx : s.ev x = some (.agg al)) (h : ArgML s i al cs) (hr : ArgsM s i xs bs) : ArgsM s i (x :: xs) (.agg cs :: bs)
  | cons {x : Operand} {a b : AC} {xs : List Operand} {bs : List AV} (hx : s.ev x = some (.c a)) (h : ArgM s i a b) (hr : ArgsM s i xs bs) : ArgsM s i (x :: xs) (.c b :: bs)
def onlyE (E : Nat → EE) (i : Nat) : Nat → EE := fun j => if j = 0 then E i else dead
theorem ArgML.den {s : St} {i : Nat} {al bs : List AC} {E : Nat → EE} {S S' : Nat → Prop} {w : World} (h : ArgML s i al bs) (hS : ∀ k, S k → S' k) {us : List Value} (hd : denL E S w al us) : denL (onlyE E i) S' w bs us := by
  induction h generalizing us with
  | nil => exact ⟨hd.1, fun j c hj => by simp at hj⟩
  | cons h hr ih =>
    obtain ⟨h1, h2⟩ := hd
    cases us with
    | nil => simp at h1
    | cons u us =>
      have := ih (us := us) ⟨by simpa using h1, fun j c hj => h2 (j + 1) c hj⟩
      refine ⟨by simp [this.1], fun j c hj => ?_⟩
      match j with
      | 0 =>
        cases hj
        obtain ⟨u', e1, e2⟩ := h2 0 _ rfl
        cases e1
        refine ⟨u, rfl, ?_⟩
        cases h with
        | own => exact e2
        | t0 => exact ⟨trivial, Rd.move hS (fun _ _ => rfl) _ _ e2.2⟩
      | j + 1 => exact this.2 j c hj
theorem ArgsM.den {s : St} {i : Nat} {xs : List Operand} {bs : List AV} {a : Act} {E : Nat → EE} {S S' : Nat → Prop} {w : World} (h : ArgsM s i xs bs) (hS : ∀ k, S k → S' k) (hT : denT E S w s.tm a.tmps) : denA (onlyE E i) S' w bs (xs.map a.eval) := by
  induction h with
  | nil => exact ⟨rfl, fun j v hj => by simp at hj⟩
  | agg hx h hr ih =>
    refine ⟨by simp [ih.1], fun j v hj => ?_⟩
    match j with
    | 0 =>
      cases hj
      obtain ⟨us, h1, h2⟩ := ev_den hT hx
      exact ⟨_, rfl, us, h1, h.den hS h2⟩
    | j + 1 => exact ih.2 j v hj
  | cons hx h hr ih =>
    refine ⟨by simp [ih.1], fun j v hj => ?_⟩
    match j with
    | 0 =>
      cases hj
      refine ⟨_, rfl, ?_⟩
      have hd := ev_den hT hx
      cases h with
      | own => exact hd
      | t0 => exact ⟨trivial, Rd.move hS (fun _ _ => rfl) _ _ hd.2⟩
    | j + 1 => exact ih.2 j v hj
/-- A value that leans on nothing. -/
def AC.plain : AC → Bool
  | .t none (.v _) => true
  | .top => true
  | _ => false
section rules
variable {cx : Cx} {s : St} {dst : Option Nat} {ty : TypeId} {pos : String} {aft : Array Edge}
end rules
end Go.Eng

/- The engine, part N: a nil slice in a box's field taken for an own row. -/
set_option linter.unusedVariables false
set_option linter.unusedSimpArgs false
namespace Go.Eng
open Go Go.RowKit

end Go.Eng
