/- The engine: the parts U, V, W, X, Y, Z. -/
import Derived.Test.YtoihempecfhicaaEngC
import Derived.Laws.Slices
import Derived.Lib.SliceRun
/- The engine, part U: sizes of lists of things, and what loops over them keep. -/
set_option linter.unusedVariables false
set_option linter.unusedSimpArgs false
namespace Go.Eng
open Go Go.RowKit
/-- What a list takes whose elements take f. -/
def szS {α : Type} (f : α → Nat) (l : List α) : Nat := l.length + (l.map f).sum
def szT {α : Type} (f : α → Nat) (l : List α) (m : Nat) : Nat := ((l.take m).map f).sum
section
variable {α : Type} {f : α → Nat} {l : List α}
theorem szT_step {m : Nat} {z : α} (h : l[m]? = some z) : szT f l (m + 1) = szT f l m + f z := by
  unfold szT
  rw [List.take_add_one, h]
  simp
theorem szT_le (m : Nat) : szT f l m + l.length ≤ szS f l := by
  unfold szT szS
  have : (l.map f).sum = ((l.take m).map f).sum + ((l.drop m).map f).sum := by rw [← List.sum_append, ← List.map_append, List.take_append_drop]
  omega
theorem szT_zero : szT f l 0 = 0 := rfl
theorem sz_mem {z : α} (h : z ∈ l) : f z + l.length ≤ szS f l := by
  obtain ⟨m, hm⟩ := List.getElem?_of_mem h
  have h1 := szT_step (f := f) hm
  have h2 := szT_le (f := f) (l := l) (m + 1)
  omega
theorem sz_at {m : Nat} {z : α} (h : l[m]? = some z) : f z + l.length ≤ szS f l := sz_mem (List.mem_of_getElem? h)
theorem same_at {a b : List α} {n : Nat} {x y : α} (h1 : a[n]? = some x) (h2 : b[n]? = some y) (h : x = y) : a[n]? = b[n]? := by rw [h1, h2, h]
theorem eqBo {a b : Bool} (h : a = b) : some (sc (.bool a)) = some (sc (.bool b)) := by rw [h]
theorem getD_get {l : List Int} {m : Nat} (h : m < l.length) : l[m]? = some (l.getD m 0) := by simp [h]
theorem sz_len : l.length ≤ szS f l := by unfold szS; omega
theorem any_false {p : α → Bool} {m : Nat} (h : ∀ j z, j < m → l[j]? = some z → p z = false) (hm : l.length ≤ m) : l.any p = false := by
  rw [List.any_eq_false]
  intro x hx
  obtain ⟨j, hj⟩ := List.getElem?_of_mem hx
  have := (List.getElem?_eq_some_iff.1 hj).1
  simp [h j x (by omega) hj]
end
/-- Where the first is, or -1. -/
def idxFrom {α : Type} (p : α → Bool) : List α → Nat → Int
  | [], _ => -1
  | x :: l, n => if p x = true then (n : Int) else idxFrom p l (n + 1)
def idxI {α : Type} (p : α → Bool) (l : List α) : Int := idxFrom p l 0
theorem idxFrom_skip {α : Type} {p : α → Bool} : ∀ (l : List α) (n m : Nat), (∀ j z, j < m → l[j]? = some z → p z = false) → m ≤ l.length → idxFrom p l n = idxFrom p (l.drop m) (n + m)
  | l, n, 0, _, _ => rfl
  | [], n, m + 1, _, h => by simp at h
  | x :: l, n, m + 1, h, hm => by
    have h0 := h 0 x (by omega) rfl
    rw [idxFrom, if_neg (by rw [h0]; exact Bool.false_ne_true), List.drop_succ_cons, idxFrom_skip l (n + 1) m (fun j z hj hz => h (j + 1) z (by omega) hz) (by simpa using hm)]
    congr 1
    omega
theorem idx_hit {α : Type} {p : α → Bool} {l : List α} {m : Nat} {z : α} (h : ∀ j z, j < m → l[j]? = some z → p z = false) (hz : l[m]? = some z) (hp : p z = true) : idxI p l = m := by
  have hm := (List.getElem?_eq_some_iff.1 hz).1
  unfold idxI
  rw [idxFrom_skip l 0 m h (by omega), List.drop_eq_getElem_cons hm, idxFrom, if_pos]
  · simp
  · have := (List.getElem?_eq_some_iff.1 hz).2
    rw [this]; exact hp
theorem idx_none {α : Type} {p : α → Bool} {l : List α} {m : Nat} (h : ∀ j z, j < m → l[j]? = some z → p z = false) (hm : l.length = m) : idxI p l = -1 := by
  unfold idxI
  rw [idxFrom_skip l 0 m h (by omega), ← hm, List.drop_length]
  rfl
theorem no_step {α : Type} {p : α → Bool} {l : List α} {m n : Nat} {z : α} (h : ∀ j z, j < m → l[j]? = some z → p z = false) (hz : l[n]? = some z) (e : n = m) (hp : p z = false) : ∀ j z, j < m + 1 → l[j]? = some z → p z = false := by
  intro j x hj hx
  by_cases q : j < m
  · exact h j x q hx
  · obtain rfl : j = m := by omega
    subst e
    rw [hz] at hx
    cases hx
    exact hp
end Go.Eng

/- Models: relations and atoms. -/
set_option linter.unusedVariables false
set_option linter.unusedSimpArgs false
namespace Go.Eng
open Go Go.RowKit
def nameOk (n : List UInt8) : Bool := match n with
  | [c] => decide (97 ≤ (c.toNat : Int) ∧ (c.toNat : Int) ≤ 122)
  | _ => false
def relOk (x : List UInt8 × Int × Bool) : Bool := nameOk x.1 && decide (1 ≤ x.2.1 ∧ x.2.1 ≤ 3)
def relStep (l : List (List UInt8 × Int × Bool)) (j : Nat) : Bool := match l[j]? with
  | some z => relOk z && (decide (j = 0) || match l[j - 1]? with | some y => Op.bytesLess y.1 z.1 | none => false)
  | none => true
def relsOk (l : List (List UInt8 × Int × Bool)) : Bool := decide (∀ j, j < l.length → relStep l j = true) && decide (l.length ≤ 6)
section
variable {l : List (List UInt8 × Int × Bool)} {m : Nat}
theorem step_all {P : Nat → Prop} (h : ∀ j, j < m → P j) (hm : P m) : ∀ j, j < m + 1 → P j := fun j hj => by
  by_cases e : j < m
  · exact h j e
  · obtain rfl : j = m := by omega
    exact hm
end
def termOk (t : Int) : Bool := decide (-10 ≤ t ∧ t ≤ 4)
/-- An atom's shape and terms. -/
def atomOk (rs : List (List UInt8 × Int × Bool)) (r : Int) (ts : List Int) : Bool :=
  relsOk rs && (decide (0 ≤ r ∧ r ≤ (rs.length : Int) - 1) && ((match rs[r.toNat]? with | some x => decide (((ts.length : Nat) : Int) = x.2.1) | none => false) && !ts.any fun t => !termOk t))
section
variable {rs : List (List UInt8 × Int × Bool)} {r : Int} {ts : List Int}
end
end Go.Eng

/- The engine, part W: functions that write into several rows that they are handed, or into a part of one. -/
set_option linter.unusedVariables false
set_option linter.unusedSimpArgs false
namespace Go.Eng
open Go Go.RowKit

section
variable {cx : Cx} {ob : List (Nat × Option Ob)} {nx : Nat} {E : Nat → EE} {S : Nat → Prop} {w w' : World}
/-- The objects im have been written (their own blocks, and new ones). -/
theorem Inv.writes (hI : Inv cx ob nx E S w) {im : List Nat} {X : Nat → EE} {ob' : List (Nat × Option Ob)} (p : AC → Bool)
    (hi : ∀ i, i ∈ im → (E i).live) (hx : ∀ i, i ∈ im → (X i).live ∧ (X i).u = (E i).u) (hout : ∀ i, i ∉ im → X i = E i)
    (hp : ∀ a, p a = false → ∀ i, i ∈ im → a.reads i = true → False)
    (hF : ∀ i, i ∈ im → ∀ k, (X i).F k → (∃ q, q ∈ im ∧ (E q).F k) ∨ (w.heap.size ≤ k ∧ k < w'.heap.size))
    (hX : ∀ i, i ∈ im → ∀ j, j ∈ im → i ≠ j → ∀ k, (X i).F k → ¬ (X j).F k)
    (hsz : w.heap.size ≤ w'.heap.size) (hos : w'.os = w.os) (htp : w'.tape = w.tape) (hop : w'.output = w.output)
    (hw : ∀ k, k < w.heap.size → (∀ i, i ∈ im → ¬ (E i).F k) → w'.heap[k]? = w.heap[k]?)
    (ho : ∀ i o, alook ob' i = some o → (i ∈ im ∧ okOb X S w' i o) ∨ (i ∉ im ∧ alook (cutO p ob) i = some o)) :
    Inv cx ob' nx X S w' ∧ Carry E X S S w w' p := by
  have hfr : ∀ j, (E j).live → j ∉ im → ∀ k, (E j).F k → w'.heap[k]? = w.heap[k]? := fun j hj hn k hk =>
    hw k (hI.fp j hj k hk).1 fun i him h => hI.dis j i (fun e => hn (e ▸ him)) hj (hi i him) k hk h
  have hC : Carry E X S S w w' p := {
    sub := fun _ h => h
    keep := fun k hk => hw k (hI.slt k hk) fun i him h => (hI.fp i (hi i him) k h).2.1 hk
    place := fun a ha j hn hl => by
      by_cases e : j ∈ im
      · exact hx j e
      · rw [hout j e]; exact ⟨hl, rfl⟩
    reads := fun a ha j hn hl => by
      have e : j ∉ im := fun e => hp a ha j e hn
      rw [hout j e]
      exact ⟨hl, fun _ q => q, hfr j hl.1 e⟩ }
  have hlv : ∀ j, (X j).live → (E j).live := fun j hj => by
    by_cases e : j ∈ im
    · exact hi j e
    · rwa [hout j e] at hj
  refine ⟨⟨fun k hk => Nat.lt_of_lt_of_le (hI.slt k hk) hsz, hI.snew, fun j o hj => ?_, fun j j' hij hj hj' k h1 h2 => ?_, fun j hj k hk => ?_, fun j hj => hI.nxt j (hlv j hj), ?_⟩, hC⟩
  · rcases ho j o hj with ⟨e, h⟩ | ⟨e, h⟩
    · exact ⟨(hx j e).1, h⟩
    · rw [alook_cutO] at h
      obtain ⟨o0, h0, rfl⟩ := Option.map_eq_some_iff.mp h
      obtain ⟨h1, h2⟩ := hI.obs j o0 h0
      refine ⟨by rw [hout j e]; exact h1, ?_⟩
      exact okOb.carry hC (by rw [hout j e]) (fun k => by rw [hout j e]) (by rw [hout j e]) (hfr j h1 e) h2
  · by_cases e1 : j ∈ im <;> by_cases e2 : j' ∈ im
    · exact hX j e1 j' e2 hij k h1 h2
    · rw [hout j' e2] at hj' h2
      rcases hF j e1 k h1 with ⟨q, hq, h⟩ | ⟨h, _⟩
      · exact hI.dis j' q (fun e => e2 (e ▸ hq)) hj' (hi q hq) k h2 h
      · have := (hI.fp j' hj' k h2).1; omega
    · rw [hout j e1] at hj h1
      rcases hF j' e2 k h2 with ⟨q, hq, h⟩ | ⟨h, _⟩
      · exact hI.dis j q (fun e => e1 (e ▸ hq)) hj (hi q hq) k h1 h
      · have := (hI.fp j hj k h1).1; omega
    · rw [hout j e1] at hj h1
      rw [hout j' e2] at hj' h2
      exact hI.dis j j' hij hj hj' k h1 h2
  · by_cases e : j ∈ im
    · rcases hF j e k hk with ⟨q, hq, h⟩ | ⟨h, h3⟩
      · obtain ⟨q1, q2, q3⟩ := hI.fp q (hi q hq) k h
        exact ⟨by omega, q2, q3⟩
      · exact ⟨h3, fun hs => by have := hI.slt k hs; omega, .inl (Nat.le_trans hI.kept.size h)⟩
    · rw [hout j e] at hj hk
      obtain ⟨q1, q2, q3⟩ := hI.fp j hj k hk
      exact ⟨by omega, q2, q3⟩
  · refine ⟨hos.trans hI.kept.os, htp.trans hI.kept.tape, hop.trans hI.kept.output, Nat.le_trans hI.kept.size hsz, fun k hk hm => ?_⟩
    have hk2 := Nat.lt_of_lt_of_le hk hI.kept.size
    refine (hw k hk2 fun i him h => ?_).trans (hI.kept.block k hk hm)
    rcases (hI.fp i (hi i him) k h).2.2 with h | h
    · omega
    · exact hm h
end

/-- A row handed over: the caller's object, what it holds before and after. -/
structure Hd : Type 1 where
  i : Nat
  pn : Option Value
  e : Nat
  sz : Nat
  α : Type
  enc : α → Nat → T
  xs : List α
  xs' : List α
def obU (U : Nat → Value) : Nat → List Hd → List (Nat × Option Ob)
  | _, [] => []
  | k, h :: hs => (k, some (.row (some (U k)) h.e true h.sz h.enc h.xs)) :: obU U (k + 1) hs
def obV (U : Nat → Value) : Nat → List Hd → List (Nat × Option Ob)
  | _, [] => []
  | k, h :: hs => (k, some (.row (some (U k)) h.e true h.sz h.enc h.xs')) :: obV U (k + 1) hs
def putsH : List Hd → List (Nat × Option Ob) → List (Nat × Option Ob)
  | [], r => r
  | h :: hs, r => (h.i, some (.row h.pn h.e true h.sz h.enc h.xs')) :: putsH hs r
def HdOk (s : St) : List Hd → Prop
  | [] => True
  | h :: hs => alook s.ob h.i = some (.row h.pn h.e true h.sz h.enc h.xs) ∧ HdOk s hs
def posH : List Hd → Nat → Option Nat
  | [], _ => none
  | h :: hs, j => if h.i = j then some 0 else (posH hs j).map (· + 1)
def distH : List Hd → Bool
  | [] => true
  | h :: hs => (hs.all fun q => !Nat.beq q.i h.i) && distH hs
theorem HdOk.at {s : St} {hs : List Hd} (h : HdOk s hs) {k : Nat} {q : Hd} (hk : hs[k]? = some q) : alook s.ob q.i = some (.row q.pn q.e true q.sz q.enc q.xs) := by
  induction hs generalizing k with
  | nil => simp at hk
  | cons q0 hs ih =>
    match k with
    | 0 => cases hk; exact h.1
    | k + 1 => exact ih h.2 hk
inductive ArgH (s : St) (hs : List Hd) : AC → AC → Prop
  | own {k : Nat} {i : Nat} (h : (hs[k]?).map (·.i) = some i) : ArgH s hs (.own i) (.own k)
  | t0 {x : T} : ArgH s hs (.t none x) (.t none x)
  | top {a : AC} : ArgH s hs a .top
inductive ArgHL (s : St) (hs : List Hd) : List AC → List AC → Prop
  | nil : ArgHL s hs [] []
  | cons {a b : AC} {al bs : List AC} (h : ArgH s hs a b) (hr : ArgHL s hs al bs) : ArgHL s hs (a :: al) (b :: bs)
inductive ArgsH (s : St) (hs : List Hd) : List Operand → List AV → Prop
  | nil : ArgsH s hs [] []
  | agg {x : Operand} {al cs : List AC} {xs : List Operand} {bs : List AV} (hx : s.ev x = some (.agg al)) (h : ArgHL s hs al cs) (hr : ArgsH s hs xs bs) : ArgsH s hs (x :: xs) (.agg cs :: bs)
  | cons {x : Operand} {a b : AC} {xs : List Operand} {bs : List AV} (hx : s.ev x = some (.c a)) (h : ArgH s hs a b) (hr : ArgsH s hs xs bs) : ArgsH s hs (x :: xs) (.c b :: bs)
def mapE (E : Nat → EE) (hs : List Hd) : Nat → EE := fun k => match hs[k]? with | some h => E h.i | none => dead
theorem mapE_at {E : Nat → EE} {hs : List Hd} {k : Nat} {q : Hd} (h : hs[k]? = some q) : mapE E hs k = E q.i := by unfold mapE; rw [h]
theorem ArgH.den {s : St} {hs : List Hd} {a b : AC} {E : Nat → EE} {S S' : Nat → Prop} {w : World} {u : Value} (h : ArgH s hs a b) (hS : ∀ k, S k → S' k) (hd : denC E S w a u) : denC (mapE E hs) S' w b u := by
  cases h with
  | own h =>
    obtain ⟨q, h1, rfl⟩ := Option.map_eq_some_iff.mp h
    show (mapE E hs _).live ∧ u = (mapE E hs _).u ∧ _
    rw [mapE_at h1]
    exact hd
  | t0 => exact ⟨trivial, Rd.move hS (fun _ _ => rfl) _ _ hd.2⟩
  | top => exact hd.one
theorem ArgHL.den {s : St} {hs : List Hd} {al bs : List AC} {E : Nat → EE} {S S' : Nat → Prop} {w : World} (h : ArgHL s hs al bs) (hS : ∀ k, S k → S' k) {us : List Value} (hd : denL E S w al us) : denL (mapE E hs) S' w bs us := by
  induction h generalizing us with
  | nil => exact ⟨hd.1, fun j c hj => by simp at hj⟩
  | cons h hr ih =>
    obtain ⟨h1, h2⟩ := hd
    cases us with
    | nil => simp at h1
    | cons u us =>
      have := ih (us := us) ⟨by simpa using h1, fun j c hj => h2 (j + 1) c hj⟩
      refine ⟨by simp [this.1], fun j c hj => ?_⟩
      match j with
      | 0 =>
        cases hj
        obtain ⟨u', e1, e2⟩ := h2 0 _ rfl
        cases e1
        exact ⟨u, rfl, h.den hS e2⟩
      | j + 1 => exact this.2 j c hj
theorem ArgsH.den {s : St} {hs : List Hd} {xs : List Operand} {bs : List AV} {a : Act} {E : Nat → EE} {S S' : Nat → Prop} {w : World} (h : ArgsH s hs xs bs) (hS : ∀ k, S k → S' k) (hT : denT E S w s.tm a.tmps) : denA (mapE E hs) S' w bs (xs.map a.eval) := by
  induction h with
  | nil => exact ⟨rfl, fun j v hj => by simp at hj⟩
  | agg hx h hr ih =>
    refine ⟨by simp [ih.1], fun j v hj => ?_⟩
    match j with
    | 0 =>
      cases hj
      obtain ⟨us, h1, h2⟩ := ev_den hT hx
      exact ⟨_, rfl, us, h1, h.den hS h2⟩
    | j + 1 => exact ih.2 j v hj
  | cons hx h hr ih =>
    refine ⟨by simp [ih.1], fun j v hj => ?_⟩
    match j with
    | 0 => cases hj; exact ⟨_, rfl, h.den hS (ev_den hT hx)⟩
    | j + 1 => exact ih.2 j v hj
def cutH (hs : List Hd) : AC → Bool := fun a => hs.any fun q => a.reads q.i
section rules
variable {cx : Cx} {s : St} {dst : Option Nat} {ty : TypeId} {pos : String} {aft : Array Edge}
inductive ArgK (i e sz o : Nat) : AC → AC → Prop
  | cel : ArgK i e sz o (.cel i e sz o) (.own 0)
  | t0 {x : T} : ArgK i e sz o (.t none x) (.t none x)
inductive ArgsK (s : St) (i e sz o : Nat) : List Operand → List AV → Prop
  | nil : ArgsK s i e sz o [] []
  | cons {x : Operand} {a b : AC} {xs : List Operand} {bs : List AV} (hx : s.ev x = some (.c a)) (h : ArgK i e sz o a b) (hr : ArgsK s i e sz o xs bs) : ArgsK s i e sz o (x :: xs) (.c b :: bs)
def oneE (u : Value) (F : Nat → Prop) : Nat → EE := fun k => if k = 0 then ⟨u, F, True, True⟩ else dead
theorem oneE_at {u : Value} {F : Nat → Prop} : oneE u F 0 = ⟨u, F, True, True⟩ := if_pos rfl
theorem ArgsK.den {i e sz o : Nat} {xs : List Operand} {bs : List AV} {a : Act} {E : Nat → EE} {S S' : Nat → Prop} {w : World} {u0 : Value} {F : Nat → Prop} (h : ArgsK s i e sz o xs bs) (hS : ∀ k, S k → S' k) (hT : denT E S w s.tm a.tmps)
    (hu : ∀ u, denC E S w (.cel i e sz o) u → u = u0) : denA (oneE u0 F) S' w bs (xs.map a.eval) := by
  induction h with
  | nil => exact ⟨rfl, fun j v hj => by simp at hj⟩
  | cons hx h hr ih =>
    refine ⟨by simp [ih.1], fun j v hj => ?_⟩
    match j with
    | 0 =>
      cases hj
      refine ⟨_, rfl, ?_⟩
      have hd := ev_den hT hx
      cases h with
      | cel =>
        have := hu _ hd
        refine ⟨by rw [oneE_at]; trivial, by rw [oneE_at]; exact this, ?_⟩
        exact denC.one (S := S) (a := .cel i e sz o) hd
      | t0 => exact ⟨trivial, Rd.move hS (fun _ _ => rfl) _ _ hd.2⟩
    | j + 1 => exact ih.2 j v hj
end rules
end Go.Eng

/- The engine, part X: what the laws' marks leave in rows. -/
set_option linter.unusedVariables false
set_option linter.unusedSimpArgs false
namespace Go.Eng
open Go Go.RowKit
/-- Each element marked by f, of which an element takes ct marks. -/
def mkL {α : Type} (f : Int → α → α) (ct : α → Nat) : Int → List α → List α
  | _, [] => []
  | k, x :: l => f k x :: mkL f ct (k + ct x) l
section
variable {α : Type} {f : Int → α → α} {ct : α → Nat}
end
def markIS : Int → List Int → List Int := fun k x => seqI k x.length
def markISS : Int → List (List Int) → List (List Int) := mkL markIS List.length
end Go.Eng

/- The engine, part Y: an empty slice written out, as a row of the call's own; models of the union-find structure. -/
set_option linter.unusedVariables false
set_option linter.unusedSimpArgs false
namespace Go.Eng
open Go Go.RowKit
section rules
variable {cx : Cx} {s : St} {dst : Option Nat} {ty : TypeId} {pos : String} {aft : Array Edge}
theorem o_lit0 (i : Nat) {t e sz : Nat} {zs : List Value} {α : Type} (enc : α → Nat → T) (hi : s.nx = i) (hd : okd dst cx.n = true) (he : elemOf' cx.P t = some (e, sz, zs)) (hz : Nat.beq zs.length sz = true) :
    Os cx s ⟨dst, .buildSlice t 0 #[], ty, pos, aft, none⟩ ((s.obj i (.row none e true sz enc [])).sets dst (some (.c (.own i)))) true := by
  subst hi
  refine o_gen fun a w hg => ?_
  obtain ⟨E, S, hI, hT, hn, hdf⟩ := hg
  have hz := Nat.eq_of_beq_eq_true hz
  have hr := run_litS (P := cx.P) he hz 0 (#[].map fun (p : Nat × Operand) => (p.1, a.eval p.2)) #[] (by simp) w (by simp [Instr.fill])
  refine ⟨.value (.slice (some ⟨w.heap.size, 0, none⟩) 0 0), w.alloc (.cells #[].toList.toArray e (0, 0)), ?_, .inl ⟨_, rfl, ?_⟩, fun _ => Ext.alloc _ _⟩
  · simp only [execOp]
    rw [Sem.run_bind, hr]
    rfl
  · refine Gm.row hI hT hn hdf hd _ rfl ?_
    simp only [if_true]
    refine ⟨[], fun _ _ _ => False, ⟨by simp, .inr ⟨w.heap.size, 0, _, rfl, Nat.zero_le _, heap_alloc_new w _, Nat.le_refl _, by simp [maxLen], by simp, by simp⟩⟩, fun g hg => by simp only [Value.ownBlock, Option.some.injEq] at hg; exact hg.symm, fun _ _ _ h => h.elim, fun _ _ _ _ _ h => h.elim, fun b x hx => by simp at hx⟩
end rules
/-! ### union-find -/
def ufStep (l : List Int) (k : Nat) : Bool := match l[k]? with
  | some v => decide (-40 ≤ v ∧ v ≤ 9) && (decide (0 ≤ v) || (decide (-1 - v ≤ k) && decide (l[(-1 - v).toNat]? = some v)))
  | none => true
def ufOk (l : List Int) : Bool := decide (∀ k, k < l.length → ufStep l k = true) && decide (l.length ≤ 40)
section
variable {l : List Int} {m : Nat}
theorem ufOk_not (hm : m < l.length) (h : ufStep l m = false) : ufOk l = false := by
  unfold ufOk
  rw [decide_eq_false (fun q => by rw [q m hm] at h; cases h)]
  rfl
theorem ufOk_end (h : ∀ j, j < m → ufStep l j = true) (hm : l.length ≤ m) : ufOk l = decide (l.length ≤ 40) := by
  unfold ufOk
  rw [decide_eq_true (fun j hj => h j (by omega))]
  rfl
theorem ufStep_at {z : Int} (hz : l[m]? = some z) : ufStep l m = (decide (-40 ≤ z ∧ z ≤ 9) && (decide (0 ≤ z) || (decide (-1 - z ≤ m) && decide (l[(-1 - z).toNat]? = some z)))) := by
  unfold ufStep; rw [hz]
theorem ufStep_bad {z : Int} (hz : l[m]? = some z) (h : ¬ (-40 ≤ z ∧ z ≤ 9)) : ufStep l m = false := by rw [ufStep_at hz, decide_eq_false h]; rfl
theorem ufStep_const {z : Int} (hz : l[m]? = some z) (h : -40 ≤ z ∧ z ≤ 9) (h0 : 0 ≤ z) : ufStep l m = true := by rw [ufStep_at hz, decide_eq_true h, decide_eq_true h0]; rfl
theorem ufStep_far {z : Int} (hz : l[m]? = some z) (h0 : z < 0) (h1 : (m : Int) < -1 - z) : ufStep l m = false := by
  rw [ufStep_at hz, decide_eq_false (by omega : ¬ 0 ≤ z), decide_eq_false (by omega : ¬ -1 - z ≤ (m : Int))]; simp
theorem ufStep_rep {z y n : Int} (hz : l[m]? = some z) (hy : l[n.toNat]? = some y) (h : -40 ≤ z ∧ z ≤ 9) (h0 : z < 0) (h1 : -1 - z ≤ m) (hn : n = -1 - z) : ufStep l m = decide (y = z) := by
  subst hn
  rw [ufStep_at hz, decide_eq_true h, decide_eq_false (by omega : ¬ 0 ≤ z), decide_eq_true h1, hy]
  simp
end
theorem ufOk_len {l : List Int} (h : ufOk l = true) : l.length ≤ 40 := by
  unfold ufOk at h
  simp only [Bool.and_eq_true, decide_eq_true_eq] at h
  exact h.2
/-- The nulls that have another representative, with it. -/
def usP (l : List Int) : List (Int × Nat) := l.zipIdx.filter fun p => decide (p.1 ≠ -1 - (p.2 : Int))
def usN (l : List Int) : List Int := (usP l).map fun p => (p.2 : Int)
def usV (l : List Int) : List Int := (usP l).map (·.1)
theorem usP_snoc {l : List Int} {m : Nat} {z : Int} (hz : l[m]? = some z) : usP (l.take (m + 1)) = usP (l.take m) ++ if z ≠ -1 - (m : Int) then [(z, m)] else [] := by
  have hm := (List.getElem?_eq_some_iff.1 hz).1
  unfold usP
  rw [List.take_add_one, hz, List.zipIdx_append, List.filter_append]
  simp only [Option.toList_some, List.length_take, Nat.min_eq_left (by omega : m ≤ l.length), List.zipIdx_cons, List.zipIdx_nil, List.filter_cons, List.filter_nil, Nat.zero_add, decide_eq_true_eq]
theorem us_same {l : List Int} {m : Nat} {z : Int} (hz : l[m]? = some z) (h : z = -1 - (m : Int)) : usN (l.take (m + 1)) = usN (l.take m) ∧ usV (l.take (m + 1)) = usV (l.take m) := by
  unfold usN usV
  rw [usP_snoc hz, if_neg (by simpa using h)]
  simp
theorem us_more {l : List Int} {m : Nat} {z : Int} (hz : l[m]? = some z) (h : z ≠ -1 - (m : Int)) : usN (l.take (m + 1)) = usN (l.take m) ++ [(m : Int)] ∧ usV (l.take (m + 1)) = usV (l.take m) ++ [z] := by
  unfold usN usV
  rw [usP_snoc hz, if_pos h]
  simp
theorem us_len (l : List Int) : (usN l).length ≤ l.length ∧ (usV l).length ≤ l.length := by
  have : (usP l).length ≤ l.length := by
    unfold usP
    refine Nat.le_trans (List.length_filter_le _ _) ?_
    simp
  unfold usN usV
  simp [this]
def usN' (l : List Int) : List Int := if ufOk l = true then usN l else []
def usV' (l : List Int) : List Int := if ufOk l = true then usV l else []
theorem us_bad {l : List Int} (h : ufOk l = false) : usN' l = [] ∧ usV' l = [] := by simp [usN', usV', h]
theorem us_good {l : List Int} (h : ufOk l = true) : usN' l = usN l ∧ usV' l = usV l := by simp [usN', usV', h]
theorem us_nil {l : List Int} (h : l.length = 0) : usN' l = [] ∧ usV' l = [] := by
  have : l = [] := List.eq_nil_of_length_eq_zero h
  subst this
  constructor
  · unfold usN'; split <;> rfl
  · unfold usV'; split <;> rfl
theorem us_len' (l : List Int) : (usN' l).length ≤ l.length ∧ (usV' l).length ≤ l.length := by
  have := us_len l
  unfold usN' usV'
  split <;> simp_all
end Go.Eng
namespace Go.Eng
open Go Go.RowKit
/-! ### classes -/
/-- The places of v. -/
def posP (v : Int) (l : List Int) : List (Int × Nat) := l.zipIdx.filter fun p => decide (p.1 = v)
def posI (v : Int) (l : List Int) : List Int := (posP v l).map fun p => (p.2 : Int)
theorem posP_snoc {v : Int} {l : List Int} {m : Nat} {z : Int} (hz : l[m]? = some z) : posP v (l.take (m + 1)) = posP v (l.take m) ++ if z = v then [(z, m)] else [] := by
  have hm := (List.getElem?_eq_some_iff.1 hz).1
  unfold posP
  rw [List.take_add_one, hz, List.zipIdx_append, List.filter_append]
  simp only [Option.toList_some, List.length_take, Nat.min_eq_left (by omega : m ≤ l.length), List.zipIdx_cons, List.zipIdx_nil, List.filter_cons, List.filter_nil, Nat.zero_add, decide_eq_true_eq]
theorem posI_more {v : Int} {l : List Int} {m : Nat} {z : Int} (hz : l[m]? = some z) (h : z = v) : posI v (l.take (m + 1)) = posI v (l.take m) ++ [(m : Int)] := by
  unfold posI
  rw [posP_snoc hz, if_pos h]
  simp
theorem posI_same {v : Int} {l : List Int} {m : Nat} {z : Int} (hz : l[m]? = some z) (h : ¬ z = v) : posI v (l.take (m + 1)) = posI v (l.take m) := by
  unfold posI
  rw [posP_snoc hz, if_neg h]
  simp
theorem posI_len (v : Int) (l : List Int) : (posI v l).length ≤ l.length := by
  unfold posI posP
  rw [List.length_map]
  refine Nat.le_trans (List.length_filter_le _ _) ?_
  simp
def eqP (v : Int) : Int → Bool := fun x => decide (x = v)
def ecAt (l : List Int) (k : Nat) : List (List Int) := match l[k]? with
  | some v => if idxI (eqP v) l = (k : Int) ∧ (1 < (posI v l).length ∨ 0 ≤ v) then [posI v l] else []
  | none => []
def ecs (l : List Int) (m : Nat) : List (List Int) := (List.range m).flatMap (ecAt l)
def ecs' (l : List Int) : List (List Int) := if ufOk l = true then ecs l l.length else []
theorem ecs_step (l : List Int) (m : Nat) : ecs l (m + 1) = ecs l m ++ ecAt l m := by simp [ecs, List.range_succ]
theorem ecAt_no {l : List Int} {m : Nat} {z : Int} (hz : l[m]? = some z) (h : ¬ (idxI (eqP z) l = (m : Int) ∧ (1 < (posI z l).length ∨ 0 ≤ z))) : ecs l (m + 1) = ecs l m := by
  rw [ecs_step]
  unfold ecAt
  simp only [hz, if_neg h, List.append_nil]
theorem ecAt_yes {l : List Int} {m : Nat} {z : Int} (hz : l[m]? = some z) (h : idxI (eqP z) l = (m : Int) ∧ (1 < (posI z l).length ∨ 0 ≤ z)) : ecs l (m + 1) = ecs l m ++ [posI z l] := by
  rw [ecs_step]
  unfold ecAt
  simp only [hz, if_pos h]
theorem ecs_len (l : List Int) (m : Nat) : (ecs l m).length ≤ m := by
  induction m with
  | zero => simp [ecs]
  | succ m ih =>
    rw [ecs_step]
    unfold ecAt
    split
    · split <;> simp <;> omega
    · simp; omega
theorem ecs_each (l : List Int) (m : Nat) : ∀ x ∈ ecs l m, x.length ≤ l.length := by
  intro x hx
  simp only [ecs, List.mem_flatMap] at hx
  obtain ⟨k, _, hx⟩ := hx
  unfold ecAt at hx
  split at hx
  · split at hx
    · simp only [List.mem_singleton] at hx
      subst hx
      exact posI_len _ _
    · simp at hx
  · simp at hx
theorem ecs_size {l : List Int} (h : ufOk l = true) (m : Nat) (hm : m ≤ l.length) : szS List.length (ecs l m) ≤ 1640 := by
  have h0 := ufOk_len h
  have h1 := ecs_len l m
  have key : ∀ (r : List (List Int)), (∀ x ∈ r, x.length ≤ 40) → (r.map List.length).sum ≤ 40 * r.length := by
    intro r
    induction r with
    | nil => intro _; simp
    | cons x r ih =>
      intro h
      have := ih (fun y hy => h y (List.mem_cons_of_mem _ hy))
      have := h x (by simp)
      simp only [List.map_cons, List.sum_cons, List.length_cons]
      omega
  have := key (ecs l m) (fun x hx => by have := ecs_each l m x hx; omega)
  unfold szS
  omega
theorem ecs'_size (l : List Int) : szS List.length (ecs' l) ≤ 1640 := by
  unfold ecs'
  split
  · exact ecs_size (by assumption) _ (Nat.le_refl _)
  · simp [szS]
theorem ecs_bad {l : List Int} (h : ufOk l = false) : ecs' l = [] := by simp [ecs', h]
theorem ecs_good {l : List Int} (h : ufOk l = true) : ecs' l = ecs l l.length := by simp [ecs', h]
theorem ecs_nil {l : List Int} (h : l.length = 0) : ecs' l = [] := by
  have : l = [] := List.eq_nil_of_length_eq_zero h
  subst this
  unfold ecs'
  split <;> rfl
theorem ecs_end {l : List Int} {m : Nat} (h : ufOk l = true) (h1 : m ≤ l.length) (h2 : l.length ≤ m) : ecs l m = ecs' l := by
  have : m = l.length := by omega
  subst this
  exact (ecs_good h).symm
theorem ecs_fin {l : List Int} {m : Nat} (i2 : ufOk l = true ∨ m = 0) (h1 : m ≤ l.length) (h2 : ufOk l = false ∨ l.length ≤ m) : ecs l m = ecs' l := by
  rcases i2 with e | e
  · rcases h2 with h | h
    · rw [e] at h; cases h
    · exact ecs_end e h1 h
  · subst e
    rcases h2 with h | h
    · exact (ecs_bad h).symm
    · exact (ecs_nil (by omega)).symm
/-- No earlier place holds it. -/
def noneB (v : Int) (l : List Int) (n : Nat) (k : Nat) : Bool := decide (∀ j, j < n → l[j]? = some v → k ≤ j)
theorem noneB_idx {v : Int} {l : List Int} {k : Nat} (hk : l[k]? = some v) : noneB v l l.length k = decide (idxI (eqP v) l = (k : Int)) := by
  have hkl := (List.getElem?_eq_some_iff.1 hk).1
  by_cases h : ∀ j, j < l.length → l[j]? = some v → k ≤ j
  · have : idxI (eqP v) l = (k : Int) := idx_hit (fun j z hj hz => by
      unfold eqP
      refine decide_eq_false fun e => ?_
      subst e
      have := h j (by omega) hz
      omega) hk (by simp [eqP])
    unfold noneB
    rw [decide_eq_true h, decide_eq_true this]
  · have : ¬ idxI (eqP v) l = (k : Int) := fun e => h fun j hj hz => by
      have key : ∀ (m : Nat), m ≤ l.length → (∀ j z, j < m → l[j]? = some z → eqP v z = false) ∨ ∃ q, q < m ∧ idxI (eqP v) l = (q : Int) ∧ ∀ j z, j < q → l[j]? = some z → eqP v z = false := by
        intro m
        induction m with
        | zero => intro _; exact .inl (fun j z h => by omega)
        | succ m ih =>
          intro hm
          rcases ih (by omega) with h1 | ⟨q, h1, h2, h3⟩
          · cases hp : eqP v (l[m]'(by omega))
            · exact .inl (no_step h1 (List.getElem?_eq_getElem (by omega)) rfl hp)
            · exact .inr ⟨m, by omega, idx_hit h1 (List.getElem?_eq_getElem (by omega)) hp, h1⟩
          · exact .inr ⟨q, by omega, h2, h3⟩
      rcases key l.length (Nat.le_refl _) with h1 | ⟨q, _, h2, h3⟩
      · have := h1 j v hj hz
        simp [eqP] at this
      · rw [e] at h2
        have hqk : q = k := by omega
        subst hqk
        by_cases hjq : j < q
        · have := h3 j v hjq hz
          simp [eqP] at this
        · omega
    unfold noneB
    rw [decide_eq_false h, decide_eq_false this]
theorem noneB_zero {v : Int} {l : List Int} {k : Nat} : noneB v l 0 k = true := decide_eq_true fun j h => by omega
theorem noneB_same {v z : Int} {l : List Int} {n k : Nat} (hz : l[n]? = some z) (h : ¬ z = v) : noneB v l (n + 1) k = noneB v l n k := by
  unfold noneB
  refine decide_eq_decide.2 ⟨fun q j hj => q j (by omega), fun q j hj hv => ?_⟩
  by_cases e : j = n
  · subst e
    rw [hz] at hv
    cases hv
    exact absurd rfl h
  · exact q j (by omega) hv
theorem noneB_more {v z : Int} {l : List Int} {n k : Nat} (hz : l[n]? = some z) (h : z = v) : noneB v l (n + 1) k = (noneB v l n k && decide (k ≤ n)) := by
  subst h
  unfold noneB
  rw [← Bool.decide_and]
  refine decide_eq_decide.2 ⟨fun q => ⟨fun j hj => q j (by omega), q n (by omega) hz⟩, fun q j hj hv => ?_⟩
  by_cases e : j = n
  · subst e; exact q.2
  · exact q.1 j (by omega) hv
end Go.Eng

/- The engine, part Z: parts of slices. -/
set_option linter.unusedVariables false
set_option linter.unusedSimpArgs false
namespace Go.Eng
open Go Go.RowKit
theorem elem_of {P : Program} {t e : TypeId} (h : P.underlying t = some (.slice e)) : P.underlying t = some (.slice (P.elem t)) := by
  rw [h]; simp [Program.elem, h]
theorem elemSz_run {P : Program} {t : TypeId} {sz : Nat} (h : elemSz P t = some sz) (w : World) : P.underlying t = some (.slice (P.elem t)) ∧ (sizeOf (P.elem t)).run P w = .ok sz w := by
  unfold elemSz at h
  split at h
  · rename_i e he
    refine ⟨elem_of he, ?_⟩
    have : P.elem t = e := by simp [Program.elem, he]
    rw [this]
    exact run_szOf h w
  · cases h
/-- The bounds of a part, from the operands' values: low, high, max. -/
inductive Bd : Option Value → Option Value → Option Value → Nat → Nat → Nat → Nat → Nat → Prop
  | l {k : IntKind} {n : Int} {len cap : Nat} (h0 : 0 ≤ n) (h1 : n ≤ len) (h2 : len ≤ cap) : Bd (some (.int k n)) none none len cap n.toNat len cap
  | h {k : IntKind} {n : Int} {len cap : Nat} (h0 : 0 ≤ n) (h1 : n ≤ len) (h2 : len ≤ cap) : Bd none (some (.int k n)) none len cap 0 n.toNat cap
  | lh {k k' : IntKind} {n n' : Int} {len cap : Nat} (h0 : 0 ≤ n) (h1 : n ≤ n') (h2 : n' ≤ len) (h3 : len ≤ cap) : Bd (some (.int k n)) (some (.int k' n')) none len cap n.toNat n'.toNat cap
  | hm {k k' : IntKind} {n n' : Int} {len cap : Nat} (h0 : 0 ≤ n) (h1 : n ≤ n') (h2 : n' ≤ len) (h3 : len ≤ cap) : Bd none (some (.int k n)) (some (.int k' n')) len cap 0 n.toNat n'.toNat
theorem Bd.run {lo hi mx : Option Value} {len cap l h m : Nat} (b : Bd lo hi mx len cap l h m) {P : Program} {t : TypeId} {sz : Nat} (hs : elemSz P t = some sz) (A : Option Addr) (w : World) :
    (Instr.sliceAt t (.slice A len cap) lo hi mx).run P w = .ok (sliced A l h m sz) w ∧ l ≤ h ∧ h ≤ m := by
  obtain ⟨ht, hz⟩ := elemSz_run hs w
  rw [run_sliceAt_slice w t _ _ _ _ ht]
  cases b with
  | l h0 h1 h2 => rw [run_slice_l w t A len cap ht _ _ h0 h1, hz]; exact ⟨rfl, by omega, h2⟩
  | h h0 h1 h2 => rw [run_slice_h w t A len cap ht _ _ h0 (by omega), hz]; exact ⟨rfl, by omega, by omega⟩
  | lh h0 h1 h2 h3 => rw [run_slice_lh w t A len cap ht _ _ _ _ h0 h1 (by omega), hz]; exact ⟨rfl, by omega, by omega⟩
  | hm h0 h1 h2 h3 => rw [run_slice_hm w t A len cap ht _ _ _ _ h0 h1 (by omega), hz]; exact ⟨rfl, by omega, by omega⟩
section rules
variable {cx : Cx} {s : St} {dst : Option Nat} {ty : TypeId} {pos : String} {aft : Array Edge}
/-- Operands that give the bounds. -/
inductive Bo (s : St) (len : Nat) : Option Operand → Option Operand → Option Operand → Nat → Nat → Prop
  | l {x : Operand} {k : IntKind} {n : Int} (hx : s.ev x = some (sc (.int k n))) (h0 : 0 ≤ n) (h1 : n ≤ len) : Bo s len (some x) none none n.toNat len
  | h {x : Operand} {k : IntKind} {n : Int} (hx : s.ev x = some (sc (.int k n))) (h0 : 0 ≤ n) (h1 : n ≤ len) : Bo s len none (some x) none 0 n.toNat
  | lh {x y : Operand} {k k' : IntKind} {n n' : Int} (hx : s.ev x = some (sc (.int k n))) (hy : s.ev y = some (sc (.int k' n'))) (h0 : 0 ≤ n) (h1 : n ≤ n') (h2 : n' ≤ len) : Bo s len (some x) (some y) none n.toNat n'.toNat
  | hm {x y : Operand} {k k' : IntKind} {n n' : Int} (hx : s.ev x = some (sc (.int k n))) (hy : s.ev y = some (sc (.int k' n'))) (h0 : 0 ≤ n) (h1 : n ≤ n') (h2 : n' ≤ len) : Bo s len none (some x) (some y) 0 n.toNat
end rules
end Go.Eng
namespace Go.Eng
open Go Go.RowKit
/-! ### comparisons of lists -/
def cmpL : List Int → List Int → Int
  | [], [] => 0
  | [], _ :: _ => -1
  | _ :: _, [] => 1
  | x :: a, y :: b => if x < y then -1 else if y < x then 1 else cmpL a b
theorem cmpL_zero : ∀ a b : List Int, cmpL a b = 0 ↔ a = b
  | [], [] => by simp [cmpL]
  | [], _ :: _ => by simp [cmpL]
  | _ :: _, [] => by simp [cmpL]
  | x :: a, y :: b => by
    unfold cmpL
    split
    · constructor
      · intro h; omega
      · intro h; cases h; omega
    · split
      · constructor
        · intro h; omega
        · intro h; cases h; omega
      · rw [cmpL_zero a b]
        constructor
        · rintro rfl
          rw [show x = y by omega]
        · intro h; cases h; rfl
theorem cmpL_drop : ∀ (a b : List Int) (m : Nat), a.take m = b.take m → m ≤ a.length → m ≤ b.length → cmpL a b = cmpL (a.drop m) (b.drop m)
  | a, b, 0, _, _, _ => rfl
  | [], b, m + 1, _, h, _ => by simp at h
  | x :: a, [], m + 1, _, _, h => by simp at h
  | x :: a, y :: b, m + 1, h, h1, h2 => by
    simp only [List.take_succ_cons, List.cons.injEq] at h
    obtain ⟨rfl, h⟩ := h
    rw [cmpL, if_neg (by omega), if_neg (by omega), cmpL_drop a b m h (by simpa using h1) (by simpa using h2)]
    rfl
theorem cmpL_at {a b : List Int} {m : Nat} {x y : Int} (h : a.take m = b.take m) (hx : a[m]? = some x) (hy : b[m]? = some y) : (x < y → cmpL a b = -1) ∧ (y < x → cmpL a b = 1) := by
  obtain ⟨h1, rfl⟩ := List.getElem?_eq_some_iff.1 hx
  obtain ⟨h2, rfl⟩ := List.getElem?_eq_some_iff.1 hy
  rw [cmpL_drop a b m h (by omega) (by omega), List.drop_eq_getElem_cons h1, List.drop_eq_getElem_cons h2, cmpL]
  exact ⟨fun h => if_pos h, fun h => by rw [if_neg (by omega), if_pos h]⟩
theorem cmpL_end {a b : List Int} {m : Nat} (h : a.take m = b.take m) (h1 : m ≤ a.length) (h2 : m ≤ b.length) : (m = a.length → m < b.length → cmpL a b = -1) ∧ (m < a.length → m = b.length → cmpL a b = 1) ∧ (m = a.length → m = b.length → cmpL a b = 0) := by
  rw [cmpL_drop a b m h h1 h2]
  refine ⟨fun e1 e2 => ?_, fun e1 e2 => ?_, fun e1 e2 => ?_⟩
  · rw [e1, List.drop_length, List.drop_eq_getElem_cons (by omega)]; rfl
  · rw [e2, List.drop_length, List.drop_eq_getElem_cons (by omega)]; rfl
  · rw [e1, List.drop_length, ← e1, e2, List.drop_length]; rfl
/-- Elementwise. -/
def allEq {α : Type} (p : α → α → Bool) (a b : List α) : Bool := decide (a.length = b.length) && (a.zip b).all fun x => p x.1 x.2
section
variable {α : Type} {p : α → α → Bool} {a b : List α} {m : Nat}
end
end Go.Eng
