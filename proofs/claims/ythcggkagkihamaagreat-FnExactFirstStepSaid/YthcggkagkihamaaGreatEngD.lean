import Derived.Test.YthcggkagkihamaaGreatEngC
import Derived.Laws.Slices
import Derived.Lib.SliceRun
set_option linter.unusedVariables false
set_option linter.unusedSimpArgs false
namespace Go.Eng
open Go Go.RowKit
def szS {α : Type} (f : α → Nat) (l : List α) : Nat := l.length + (l.map f).sum
def szT {α : Type} (f : α → Nat) (l : List α) (m : Nat) : Nat := ((l.take m).map f).sum
section
variable {α : Type} {f : α → Nat} {l : List α}
theorem szT_step {m : Nat} {z : α} (h : l[m]? = some z) : szT f l (m + 1) = szT f l m + f z := by
 unfold szT
 rw [List.take_add_one, h]
 simp
theorem szT_le (m : Nat) : szT f l m + l.length ≤ szS f l := by
 unfold szT szS
 have : (l.map f).sum = ((l.take m).map f).sum + ((l.drop m).map f).sum := by rw [← List.sum_append, ← List.map_append, List.take_append_drop]
 omega
theorem szT_all {m : Nat} (h : l.length ≤ m) : szT f l m + l.length = szS f l := by
 unfold szT szS
 rw [List.take_of_length_le h]
 omega
theorem szT_zero : szT f l 0 = 0 := rfl
theorem sz_mem {z : α} (h : z ∈ l) : f z + l.length ≤ szS f l := by
 obtain ⟨m, hm⟩ := List.getElem?_of_mem h
 have h1 := szT_step (f := f) hm
 have h2 := szT_le (f := f) (l := l) (m + 1)
 omega
theorem sz_at {m : Nat} {z : α} (h : l[m]? = some z) : f z + l.length ≤ szS f l := sz_mem (List.mem_of_getElem? h)
theorem ok_at {ok : α → Prop} (h : okL ok l) {m : Nat} {z : α} (hz : l[m]? = some z) : ok z := h.2 z (List.mem_of_getElem? hz)
theorem same_at {a b : List α} {n : Nat} {x y : α} (h1 : a[n]? = some x) (h2 : b[n]? = some y) (h : x = y) : a[n]? = b[n]? := by rw [h1, h2, h]
theorem eqBo {a b : Bool} (h : a = b) : some (sc (.bool a)) = some (sc (.bool b)) := by rw [h]
theorem vw_get {xs : List α} {n : Nat} (h : n < xs.length) : ∃ z, xs[n]? = some z := ⟨_, List.getElem?_eq_getElem h⟩
theorem sz_len : l.length ≤ szS f l := by unfold szS; omega
theorem any_false {p : α → Bool} {m : Nat} (h : ∀ j z, j < m → l[j]? = some z → p z = false) (hm : l.length ≤ m) : l.any p = false := by
 rw [List.any_eq_false]
 intro x hx
 obtain ⟨j, hj⟩ := List.getElem?_of_mem hx
 have := (List.getElem?_eq_some_iff.1 hj).1
 simp [h j x (by omega) hj]
theorem any_true {p : α → Bool} {m : Nat} {z : α} (h : l[m]? = some z) (hp : p z = true) : l.any p = true := List.any_eq_true.2 ⟨z, List.mem_of_getElem? h, hp⟩
end
def idxFrom {α : Type} (p : α → Bool) : List α → Nat → Int
 | [], _ => -1
 | x :: l, n => if p x = true then (n : Int) else idxFrom p l (n + 1)
def idxI {α : Type} (p : α → Bool) (l : List α) : Int := idxFrom p l 0
theorem idxFrom_skip {α : Type} {p : α → Bool} : ∀ (l : List α) (n m : Nat), (∀ j z, j < m → l[j]? = some z → p z = false) → m ≤ l.length → idxFrom p l n = idxFrom p (l.drop m) (n + m)
 | l, n, 0, _, _ => rfl
 | [], n, m + 1, _, h => by simp at h
 | x :: l, n, m + 1, h, hm => by
  have h0 := h 0 x (by omega) rfl
  rw [idxFrom, if_neg (by rw [h0]; exact Bool.false_ne_true), List.drop_succ_cons, idxFrom_skip l (n + 1) m (fun j z hj hz => h (j + 1) z (by omega) hz) (by simpa using hm)]
  congr 1
  omega
theorem idx_hit {α : Type} {p : α → Bool} {l : List α} {m : Nat} {z : α} (h : ∀ j z, j < m → l[j]? = some z → p z = false) (hz : l[m]? = some z) (hp : p z = true) : idxI p l = m := by
 have hm := (List.getElem?_eq_some_iff.1 hz).1
 unfold idxI
 rw [idxFrom_skip l 0 m h (by omega), List.drop_eq_getElem_cons hm, idxFrom, if_pos]
 ·simp
 ·have := (List.getElem?_eq_some_iff.1 hz).2
  rw [this]; exact hp
theorem idx_none {α : Type} {p : α → Bool} {l : List α} {m : Nat} (h : ∀ j z, j < m → l[j]? = some z → p z = false) (hm : l.length = m) : idxI p l = -1 := by
 unfold idxI
 rw [idxFrom_skip l 0 m h (by omega), ← hm, List.drop_length]
 rfl
theorem idx_any {α : Type} {p : α → Bool} {l : List α} : decide (0 ≤ idxI p l) = l.any p := by
 have key : ∀ (l : List α) (n : Nat), decide (0 ≤ idxFrom p l n) = l.any p := by
  intro l
  induction l with
  | nil => intro n; rfl
  | cons x l ih =>
   intro n
   rw [idxFrom, List.any_cons]
   cases hx : p x
   ·rw [if_neg (by simp), ih]; rfl
   ·rw [if_pos rfl]; simp
 exact key l 0
theorem no_step {α : Type} {p : α → Bool} {l : List α} {m n : Nat} {z : α} (h : ∀ j z, j < m → l[j]? = some z → p z = false) (hz : l[n]? = some z) (e : n = m) (hp : p z = false) : ∀ j z, j < m + 1 → l[j]? = some z → p z = false := by
 intro j x hj hx
 by_cases q : j < m
 ·exact h j x q hx
 ·obtain rfl : j = m := by omega
  subst e
  rw [hz] at hx
  cases hx
  exact hp
end Go.Eng

set_option linter.unusedVariables false
set_option linter.unusedSimpArgs false
namespace Go.Eng
open Go Go.RowKit
def nameOk (n : List UInt8) : Bool := match n with
 | [c] => decide (97 ≤ (c.toNat : Int) ∧ (c.toNat : Int) ≤ 122)
 | _ => false
def relOk (x : List UInt8 × Int × Bool) : Bool := nameOk x.1 && decide (1 ≤ x.2.1 ∧ x.2.1 ≤ 3)
theorem one_of {n : List UInt8} (h : ((n.length : Nat) : Int) = 1) : ∃ c, n = [c] := by
 match n, h with
 | [c], _ => exact ⟨c, rfl⟩
 | [], h => simp at h
 | _ :: _ :: _, h => simp at h; omega
theorem nameOk_not {n : List UInt8} (h : ¬ ((n.length : Nat) : Int) = 1) : nameOk n = false := by
 match n, h with
 | [c], h => exact absurd rfl h
 | [], h => rfl
 | _ :: _ :: _, h => rfl
theorem less_lo {c : UInt8} : Op.bytesLess [c] [97] = decide ((c.toNat : Int) < 97) := by
 simp only [Op.bytesLess, Bool.and_false, Bool.or_false, UInt8.lt_iff_toNat_lt]
 rw [show (97 : UInt8).toNat = 97 from rfl]
 exact decide_eq_decide.2 (by omega)
theorem less_hi {c : UInt8} : Op.bytesLess [122] [c] = decide (122 < (c.toNat : Int)) := by
 simp only [Op.bytesLess, Bool.and_false, Bool.or_false, UInt8.lt_iff_toNat_lt]
 rw [show (122 : UInt8).toNat = 122 from rfl]
 exact decide_eq_decide.2 (by omega)
def relStep (l : List (List UInt8 × Int × Bool)) (j : Nat) : Bool := match l[j]? with
 | some z => relOk z && (decide (j = 0) || match l[j - 1]? with | some y => Op.bytesLess y.1 z.1 | none => false)
 | none => true
def relsOk (l : List (List UInt8 × Int × Bool)) : Bool := decide (∀ j, j < l.length → relStep l j = true) && decide (l.length ≤ 6)
section
variable {l : List (List UInt8 × Int × Bool)} {m : Nat}
theorem relsOk_not (hm : m < l.length) (h : relStep l m = false) : relsOk l = false := by
 unfold relsOk
 rw [decide_eq_false (fun q => by rw [q m hm] at h; cases h)]
 rfl
theorem relsOk_end (h : ∀ j, j < m → relStep l j = true) (hm : l.length ≤ m) : relsOk l = decide (l.length ≤ 6) := by
 unfold relsOk
 rw [decide_eq_true (fun j hj => h j (by omega))]
 rfl
theorem relStep_at {z : List UInt8 × Int × Bool} (hz : l[m]? = some z) : relStep l m = (relOk z && (decide (m = 0) || match l[m - 1]? with | some y => Op.bytesLess y.1 z.1 | none => false)) := by
 unfold relStep; rw [hz]
theorem relStep_bad {z : List UInt8 × Int × Bool} (hz : l[m]? = some z) (h : relOk z = false) : relStep l m = false := by
 rw [relStep_at hz, h]; rfl
theorem relStep_zero {z : List UInt8 × Int × Bool} (hz : l[m]? = some z) (h : relOk z = true) (h0 : m = 0) : relStep l m = true := by
 rw [relStep_at hz, h, decide_eq_true h0]; rfl
theorem relStep_pos {z y : List UInt8 × Int × Bool} {n : Nat} {b : Bool} (hz : l[m]? = some z) (h : relOk z = true) (h0 : m ≠ 0) (hn : n = m - 1) (hy : l[n]? = some y) (hb : Op.bytesLess y.1 z.1 = b) : relStep l m = b := by
 subst hn
 rw [relStep_at hz, h, decide_eq_false h0, hy]
 simpa using hb
theorem step_all {P : Nat → Prop} (h : ∀ j, j < m → P j) (hm : P m) : ∀ j, j < m + 1 → P j := fun j hj => by
 by_cases e : j < m
 ·exact h j e
 ·obtain rfl : j = m := by omega
  exact hm
end
def termOk (t : Int) : Bool := decide (-10 ≤ t ∧ t ≤ 4)
def atomOk (rs : List (List UInt8 × Int × Bool)) (r : Int) (ts : List Int) : Bool :=
 relsOk rs && (decide (0 ≤ r ∧ r ≤ (rs.length : Int) - 1) && ((match rs[r.toNat]? with | some x => decide (((ts.length : Nat) : Int) = x.2.1) | none => false) && !ts.any fun t => !termOk t))
section
variable {rs : List (List UInt8 × Int × Bool)} {r : Int} {ts : List Int}
theorem atom_no1 (h : relsOk rs = false) : atomOk rs r ts = false := by unfold atomOk; rw [h]; rfl
theorem atom_no2 (h : ¬ (0 ≤ r ∧ r ≤ (rs.length : Int) - 1)) : atomOk rs r ts = false := by unfold atomOk; rw [decide_eq_false h]; simp
theorem atom_no3 {z : List UInt8 × Int × Bool} (hz : rs[r.toNat]? = some z) (h : ((ts.length : Nat) : Int) ≠ z.2.1) : atomOk rs r ts = false := by unfold atomOk; rw [hz]; simp [h]
theorem atom_yes {z : List UInt8 × Int × Bool} (h : relsOk rs = true) (h2 : 0 ≤ r ∧ r ≤ (rs.length : Int) - 1) (hz : rs[r.toNat]? = some z) (h3 : ((ts.length : Nat) : Int) = z.2.1) : atomOk rs r ts = !ts.any fun t => !termOk t := by
 unfold atomOk; rw [h, decide_eq_true h2, hz]; simp [h3]
end
end Go.Eng

set_option linter.unusedVariables false
set_option linter.unusedSimpArgs false
namespace Go.Eng
open Go Go.RowKit

section
variable {cx : Cx} {ob : List (Nat × Option Ob)} {nx : Nat} {E : Nat → EE} {S : Nat → Prop} {w w' : World}
theorem Inv.writes (hI : Inv cx ob nx E S w) {im : List Nat} {X : Nat → EE} {ob' : List (Nat × Option Ob)} (p : AC → Bool)
  (hi : ∀ i, i ∈ im → (E i).live) (hx : ∀ i, i ∈ im → (X i).live ∧ (X i).u = (E i).u) (hout : ∀ i, i ∉ im → X i = E i)
  (hp : ∀ a, p a = false → ∀ i, i ∈ im → a.reads i = true → False)
  (hF : ∀ i, i ∈ im → ∀ k, (X i).F k → (∃ q, q ∈ im ∧ (E q).F k) ∨ (w.heap.size ≤ k ∧ k < w'.heap.size))
  (hX : ∀ i, i ∈ im → ∀ j, j ∈ im → i ≠ j → ∀ k, (X i).F k → ¬ (X j).F k)
  (hsz : w.heap.size ≤ w'.heap.size) (hos : w'.os = w.os) (htp : w'.tape = w.tape) (hop : w'.output = w.output)
  (hw : ∀ k, k < w.heap.size → (∀ i, i ∈ im → ¬ (E i).F k) → w'.heap[k]? = w.heap[k]?)
  (ho : ∀ i o, alook ob' i = some o → (i ∈ im ∧ okOb X S w' i o) ∨ (i ∉ im ∧ alook (cutO p ob) i = some o)) :
  Inv cx ob' nx X S w' ∧ Carry E X S S w w' p := by
 have hfr : ∀ j, (E j).live → j ∉ im → ∀ k, (E j).F k → w'.heap[k]? = w.heap[k]? := fun j hj hn k hk =>
  hw k (hI.fp j hj k hk).1 fun i him h => hI.dis j i (fun e => hn (e ▸ him)) hj (hi i him) k hk h
 have hC : Carry E X S S w w' p := {
  sub := fun _ h => h
  keep := fun k hk => hw k (hI.slt k hk) fun i him h => (hI.fp i (hi i him) k h).2.1 hk
  place := fun a ha j hn hl => by
   by_cases e : j ∈ im
   ·exact hx j e
   ·rw [hout j e]; exact ⟨hl, rfl⟩
  reads := fun a ha j hn hl => by
   have e : j ∉ im := fun e => hp a ha j e hn
   rw [hout j e]
   exact ⟨hl, fun _ q => q, hfr j hl.1 e⟩ }
 have hlv : ∀ j, (X j).live → (E j).live := fun j hj => by
  by_cases e : j ∈ im
  ·exact hi j e
  ·rwa [hout j e] at hj
 refine ⟨⟨fun k hk => Nat.lt_of_lt_of_le (hI.slt k hk) hsz, hI.snew, fun j o hj => ?_, fun j j' hij hj hj' k h1 h2 => ?_, fun j hj k hk => ?_, fun j hj => hI.nxt j (hlv j hj), ?_⟩, hC⟩
 ·rcases ho j o hj with ⟨e, h⟩ | ⟨e, h⟩
  ·exact ⟨(hx j e).1, h⟩
  ·rw [alook_cutO] at h
   obtain ⟨o0, h0, rfl⟩ := Option.map_eq_some_iff.mp h
   obtain ⟨h1, h2⟩ := hI.obs j o0 h0
   refine ⟨by rw [hout j e]; exact h1, ?_⟩
   exact okOb.carry hC (by rw [hout j e]) (fun k => by rw [hout j e]) (by rw [hout j e]) (hfr j h1 e) h2
 ·by_cases e1 : j ∈ im <;> by_cases e2 : j' ∈ im
  ·exact hX j e1 j' e2 hij k h1 h2
  ·rw [hout j' e2] at hj' h2
   rcases hF j e1 k h1 with ⟨q, hq, h⟩ | ⟨h, _⟩
   ·exact hI.dis j' q (fun e => e2 (e ▸ hq)) hj' (hi q hq) k h2 h
   ·have := (hI.fp j' hj' k h2).1; omega
  ·rw [hout j e1] at hj h1
   rcases hF j' e2 k h2 with ⟨q, hq, h⟩ | ⟨h, _⟩
   ·exact hI.dis j q (fun e => e1 (e ▸ hq)) hj (hi q hq) k h1 h
   ·have := (hI.fp j hj k h1).1; omega
  ·rw [hout j e1] at hj h1
   rw [hout j' e2] at hj' h2
   exact hI.dis j j' hij hj hj' k h1 h2
 ·by_cases e : j ∈ im
  ·rcases hF j e k hk with ⟨q, hq, h⟩ | ⟨h, h3⟩
   ·obtain ⟨q1, q2, q3⟩ := hI.fp q (hi q hq) k h
    exact ⟨by omega, q2, q3⟩
   ·exact ⟨h3, fun hs => by have := hI.slt k hs; omega, .inl (Nat.le_trans hI.kept.size h)⟩
  ·rw [hout j e] at hj hk
   obtain ⟨q1, q2, q3⟩ := hI.fp j hj k hk
   exact ⟨by omega, q2, q3⟩
 ·refine ⟨hos.trans hI.kept.os, htp.trans hI.kept.tape, hop.trans hI.kept.output, Nat.le_trans hI.kept.size hsz, fun k hk hm => ?_⟩
  have hk2 := Nat.lt_of_lt_of_le hk hI.kept.size
  refine (hw k hk2 fun i him h => ?_).trans (hI.kept.block k hk hm)
  rcases (hI.fp i (hi i him) k h).2.2 with h | h
  ·omega
  ·exact hm h
end

structure Hd : Type 1 where
 i : Nat
 pn : Option Value
 e : Nat
 sz : Nat
 α : Type
 enc : α → Nat → T
 xs : List α
 xs' : List α
def obU (U : Nat → Value) : Nat → List Hd → List (Nat × Option Ob)
 | _, [] => []
 | k, h :: hs => (k, some (.row (some (U k)) h.e true h.sz h.enc h.xs)) :: obU U (k + 1) hs
def obV (U : Nat → Value) : Nat → List Hd → List (Nat × Option Ob)
 | _, [] => []
 | k, h :: hs => (k, some (.row (some (U k)) h.e true h.sz h.enc h.xs')) :: obV U (k + 1) hs
def putsH : List Hd → List (Nat × Option Ob) → List (Nat × Option Ob)
 | [], r => r
 | h :: hs, r => (h.i, some (.row h.pn h.e true h.sz h.enc h.xs')) :: putsH hs r
def HdOk (s : St) : List Hd → Prop
 | [] => True
 | h :: hs => alook s.ob h.i = some (.row h.pn h.e true h.sz h.enc h.xs) ∧ HdOk s hs
def posH : List Hd → Nat → Option Nat
 | [], _ => none
 | h :: hs, j => if h.i = j then some 0 else (posH hs j).map (· + 1)
def distH : List Hd → Bool
 | [] => true
 | h :: hs => (hs.all fun q => !Nat.beq q.i h.i) && distH hs
theorem posH_some {hs : List Hd} {j k : Nat} (h : posH hs j = some k) : ∃ q, hs[k]? = some q ∧ q.i = j := by
 induction hs generalizing k with
 | nil => simp [posH] at h
 | cons q hs ih =>
  unfold posH at h
  split at h
  ·cases h; exact ⟨q, rfl, by assumption⟩
  ·obtain ⟨k', h1, rfl⟩ := Option.map_eq_some_iff.mp h
   obtain ⟨q', h2, h3⟩ := ih h1
   exact ⟨q', h2, h3⟩
theorem posH_at {hs : List Hd} {k : Nat} {q : Hd} (hd : distH hs = true) (h : hs[k]? = some q) : posH hs q.i = some k := by
 induction hs generalizing k with
 | nil => simp at h
 | cons q0 hs ih =>
  simp only [distH, Bool.and_eq_true] at hd
  unfold posH
  match k with
  | 0 => cases h; rw [if_pos rfl]
  | k + 1 =>
   have h : hs[k]? = some q := h
   have := (List.all_eq_true.1 hd.1) q (List.mem_of_getElem? h)
   rw [if_neg (fun e => by rw [e] at this; simp at this), ih hd.2 h]
   rfl
theorem HdOk.at {s : St} {hs : List Hd} (h : HdOk s hs) {k : Nat} {q : Hd} (hk : hs[k]? = some q) : alook s.ob q.i = some (.row q.pn q.e true q.sz q.enc q.xs) := by
 induction hs generalizing k with
 | nil => simp at hk
 | cons q0 hs ih =>
  match k with
  | 0 => cases hk; exact h.1
  | k + 1 => exact ih h.2 hk
theorem alook_obU {U : Nat → Value} {hs : List Hd} {st j : Nat} {o : Ob} (h : alook (obU U st hs) j = some o) : ∃ (k : Nat) (q : Hd), hs[k]? = some q ∧ j = st + k ∧ o = .row (some (U j)) q.e true q.sz q.enc q.xs := by
 induction hs generalizing st with
 | nil => simp [obU, alook] at h
 | cons q hs ih =>
  unfold obU at h
  rw [alook_cons] at h
  split at h
  ·rename_i e
   subst e
   cases h
   exact ⟨0, q, rfl, rfl, rfl⟩
  ·obtain ⟨k, q', h1, h2, h3⟩ := ih h
   exact ⟨k + 1, q', h1, by omega, h3⟩
theorem obV_at {U : Nat → Value} {hs : List Hd} {st k : Nat} {q : Hd} (h : hs[k]? = some q) : alook (obV U st hs) (st + k) = some (.row (some (U (st + k))) q.e true q.sz q.enc q.xs') := by
 induction hs generalizing st k with
 | nil => simp at h
 | cons q0 hs ih =>
  unfold obV
  rw [alook_cons]
  match k with
  | 0 => cases h; rw [if_pos (by omega)]; rfl
  | k + 1 =>
   rw [if_neg (by omega)]
   have := ih (st := st + 1) (k := k) h
   rwa [show st + (k + 1) = st + 1 + k by omega]
theorem alook_putsH {hs : List Hd} {r : List (Nat × Option Ob)} {j : Nat} {o : Ob} (h : alook (putsH hs r) j = some o) : (∃ k q, posH hs j = some k ∧ hs[k]? = some q ∧ o = .row q.pn q.e true q.sz q.enc q.xs') ∨ (posH hs j = none ∧ alook r j = some o) := by
 induction hs with
 | nil => exact .inr ⟨rfl, h⟩
 | cons q hs ih =>
  unfold putsH at h
  rw [alook_cons] at h
  unfold posH
  split at h
  ·rename_i e
   cases h
   exact .inl ⟨0, q, if_pos e.symm, rfl, rfl⟩
  ·rename_i e
   rw [if_neg (fun e' => e e'.symm)]
   rcases ih h with ⟨k, q', h1, h2, h3⟩ | ⟨h1, h2⟩
   ·exact .inl ⟨k + 1, q', by rw [h1]; rfl, h2, h3⟩
   ·exact .inr ⟨by rw [h1]; rfl, h2⟩
inductive ArgH (s : St) (hs : List Hd) : AC → AC → Prop
 | own {k : Nat} {i : Nat} (h : (hs[k]?).map (·.i) = some i) : ArgH s hs (.own i) (.own k)
 | t0 {x : T} : ArgH s hs (.t none x) (.t none x)
 | top {a : AC} : ArgH s hs a .top
 | clo {f : Nat} : ArgH s hs (.clo f []) (.clo f [])
inductive ArgHL (s : St) (hs : List Hd) : List AC → List AC → Prop
 | nil : ArgHL s hs [] []
 | cons {a b : AC} {al bs : List AC} (h : ArgH s hs a b) (hr : ArgHL s hs al bs) : ArgHL s hs (a :: al) (b :: bs)
inductive ArgsH (s : St) (hs : List Hd) : List Operand → List AV → Prop
 | nil : ArgsH s hs [] []
 | agg {x : Operand} {al cs : List AC} {xs : List Operand} {bs : List AV} (hx : s.ev x = some (.agg al)) (h : ArgHL s hs al cs) (hr : ArgsH s hs xs bs) : ArgsH s hs (x :: xs) (.agg cs :: bs)
 | cons {x : Operand} {a b : AC} {xs : List Operand} {bs : List AV} (hx : s.ev x = some (.c a)) (h : ArgH s hs a b) (hr : ArgsH s hs xs bs) : ArgsH s hs (x :: xs) (.c b :: bs)
def mapE (E : Nat → EE) (hs : List Hd) : Nat → EE := fun k => match hs[k]? with | some h => E h.i | none => dead
theorem mapE_at {E : Nat → EE} {hs : List Hd} {k : Nat} {q : Hd} (h : hs[k]? = some q) : mapE E hs k = E q.i := by unfold mapE; rw [h]
theorem ArgH.den {s : St} {hs : List Hd} {a b : AC} {E : Nat → EE} {S S' : Nat → Prop} {w : World} {u : Value} (h : ArgH s hs a b) (hS : ∀ k, S k → S' k) (hd : denC E S w a u) : denC (mapE E hs) S' w b u := by
 cases h with
 | own h =>
  obtain ⟨q, h1, rfl⟩ := Option.map_eq_some_iff.mp h
  show (mapE E hs _).live ∧ u = (mapE E hs _).u ∧ _
  rw [mapE_at h1]
  exact hd
 | t0 => exact ⟨trivial, Rd.move hS (fun _ _ => rfl) _ _ hd.2⟩
 | top => exact hd.one
 | clo => obtain ⟨us, e1, e2, _⟩ := hd; exact ⟨us, e1, e2, fun j p h => by simp at h⟩
theorem ArgHL.den {s : St} {hs : List Hd} {al bs : List AC} {E : Nat → EE} {S S' : Nat → Prop} {w : World} (h : ArgHL s hs al bs) (hS : ∀ k, S k → S' k) {us : List Value} (hd : denL E S w al us) : denL (mapE E hs) S' w bs us := by
 induction h generalizing us with
 | nil => exact ⟨hd.1, fun j c hj => by simp at hj⟩
 | cons h hr ih =>
  obtain ⟨h1, h2⟩ := hd
  cases us with
  | nil => simp at h1
  | cons u us =>
   have := ih (us := us) ⟨by simpa using h1, fun j c hj => h2 (j + 1) c hj⟩
   refine ⟨by simp [this.1], fun j c hj => ?_⟩
   match j with
   | 0 =>
    cases hj
    obtain ⟨u', e1, e2⟩ := h2 0 _ rfl
    cases e1
    exact ⟨u, rfl, h.den hS e2⟩
   | j + 1 => exact this.2 j c hj
theorem ArgsH.den {s : St} {hs : List Hd} {xs : List Operand} {bs : List AV} {a : Act} {E : Nat → EE} {S S' : Nat → Prop} {w : World} (h : ArgsH s hs xs bs) (hS : ∀ k, S k → S' k) (hT : denT E S w s.tm a.tmps) : denA (mapE E hs) S' w bs (xs.map a.eval) := by
 induction h with
 | nil => exact ⟨rfl, fun j v hj => by simp at hj⟩
 | agg hx h hr ih =>
  refine ⟨by simp [ih.1], fun j v hj => ?_⟩
  match j with
  | 0 =>
   cases hj
   obtain ⟨us, h1, h2⟩ := ev_den hT hx
   exact ⟨_, rfl, us, h1, h.den hS h2⟩
  | j + 1 => exact ih.2 j v hj
 | cons hx h hr ih =>
  refine ⟨by simp [ih.1], fun j v hj => ?_⟩
  match j with
  | 0 => cases hj; exact ⟨_, rfl, h.den hS (ev_den hT hx)⟩
  | j + 1 => exact ih.2 j v hj
def cutH (hs : List Hd) : AC → Bool := fun a => hs.any fun q => a.reads q.i
theorem plain_v {E E' : Nat → EE} {S S' : Nat → Prop} {w w' : World} {a : AV} {u : Value} (hn : a.all AC.plain = true) (hd : denV E S w a u) : denV E' S' w' a u := by
 have L : ∀ (cs : List AC) (us : List Value), cs.all AC.plain = true → denL E S w cs us → denL E' S' w' cs us := fun cs us h hd => ⟨hd.1, fun j c hj => by
  obtain ⟨u', e1, e2⟩ := hd.2 j c hj
  exact ⟨u', e1, plain_c (List.all_eq_true.1 h c (List.mem_of_getElem? hj)) e2⟩⟩
 cases a with
 | c a => exact plain_c hn hd
 | agg cs => obtain ⟨us, rfl, hd⟩ := hd; exact ⟨us, rfl, L cs us hn hd⟩
 | tup vs =>
  obtain ⟨us, rfl, hl, hd⟩ := hd
  refine ⟨us, rfl, hl, fun j b cs hj => ?_⟩
  have hn : cs.all AC.plain = true := (List.all_eq_true.1 hn) (b, cs) (List.mem_of_getElem? hj)
  obtain ⟨u', e2, e3⟩ := hd j b cs hj
  refine ⟨u', e2, ?_⟩
  unfold denB at *
  split
  ·rename_i hb
   rw [if_pos hb] at e3
   obtain ⟨us, rfl, e3⟩ := e3
   exact ⟨us, rfl, L cs us hn e3⟩
  ·rename_i hb
   rw [if_neg hb] at e3
   exact L cs _ hn e3
section rules
variable {cx : Cx} {s : St} {dst : Option Nat} {ty : TypeId} {pos : String} {aft : Array Edge}
theorem o_callH (hs : List Hd) {g : FuncId} {xs : Array Operand} {ats : Array TypeId} {cargs : List AV} {n0 : Nat} {r : AV} {nx' : Nat} (hE : Go.Proofs.Enters cx.P g)
  (hC : ∀ U, Mu cx.P g cargs (obU U 0 hs) n0 (obV U 0 hs) nx' r) (hd : okd dst cx.n = true) (hb : HdOk s hs) (hdis : distH hs = true) (hn0 : Nat.beq hs.length n0 = true) (ha : ArgsH s hs xs.toList cargs) (hr : r.all AC.plain = true) :
  Os cx s ⟨dst, .call { callee := .value (.func g), args := xs, argTypes := ats }, ty, pos, aft, none⟩ ((⟨cutT (cutH hs) s.tm, putsH hs (cutO (cutH hs) s.ob), s.nx⟩ : St).sets dst (some r)) false := by
 intro Q a w hg
 obtain ⟨E, S, hI, hT, hn, hdf⟩ := hg
 have hn0 : hs.length = n0 := Nat.eq_of_beq_eq_true hn0
 unfold Oper.wp
 rw [execOp_call_go, hE]
 have hargs : #[] ++ Array.map a.eval xs ++ #[] = (xs.toList.map a.eval).toArray := by
  apply Array.ext'
  simp
 rw [hargs, Oper.upon_enter]
 have hob : ∀ (k : Nat) (q : Hd), hs[k]? = some q → (E q.i).live ∧ okOb E S w q.i (.row q.pn q.e true q.sz q.enc q.xs) := fun k q hk => hI.obs _ _ (hb.at hk)
 have hlive : ∀ k, (mapE E hs k).live → ∃ q : Hd, hs[k]? = some q := fun k h => by
  unfold mapE at h
  split at h
  ·exact ⟨_, by assumption⟩
  ·exact h.elim
 let im : List Nat := hs.map (·.i)
 have him : ∀ i, i ∈ im ↔ ∃ (k : Nat) (q : Hd), hs[k]? = some q ∧ q.i = i := fun i => by
  simp only [im, List.mem_map]
  constructor
  ·rintro ⟨q, h1, h2⟩
   obtain ⟨k, hk⟩ := List.getElem?_of_mem h1
   exact ⟨k, q, hk, h2⟩
  ·rintro ⟨k, q, h1, h2⟩
   exact ⟨q, List.mem_of_getElem? h1, h2⟩
 let S' : Nat → Prop := fun k => k < w.heap.size ∧ ∀ i, i ∈ im → ¬ (E i).F k
 have hI0 : Inv ⟨cx.P, g, 0, w, S', handed (mapE E hs)⟩ (obU (fun k => (mapE E hs k).u) 0 hs) n0 (mapE E hs) S' w := by
  refine ⟨fun k h => h.1, fun k h => .inl h, fun j o hj => ?_, fun j j' hij hj hj' k h1 h2 => ?_, fun j hj k hk => ?_, fun j hj => ?_, Kept.refl _ _⟩
  ·obtain ⟨k, q, h1, h2, rfl⟩ := alook_obU hj
   obtain rfl : j = k := by omega
   obtain ⟨h3, h4, h5, h6⟩ := hob j q h1
   rw [mapE_at h1]
   refine ⟨h3, by rw [mapE_at h1]; exact h4, fun v hv => ?_, ?_⟩
   ·rw [mapE_at h1]; exact Option.some.inj hv
   ·rw [mapE_at h1]
    simp only [if_true] at h6 ⊢
    exact h6
  ·obtain ⟨q, hq⟩ := hlive j hj
   obtain ⟨q', hq'⟩ := hlive j' hj'
   rw [mapE_at hq] at hj h1
   rw [mapE_at hq'] at hj' h2
   exact hI.dis q.i q'.i (fun e => hij (by
    have e1 := posH_at hdis hq
    have e2 := posH_at hdis hq'
    rw [e, e2] at e1
    exact (Option.some.inj e1).symm)) hj hj' k h1 h2
  ·have hj0 := hj
   obtain ⟨q, hq⟩ := hlive j hj
   have hk0 := hk
   rw [mapE_at hq] at hj hk
   exact ⟨(hI.fp q.i hj k hk).1, fun h => h.2 q.i ((him _).2 ⟨j, q, hq, rfl⟩) hk, .inr ⟨j, hj0, hk0⟩⟩
  ·obtain ⟨q, hq⟩ := hlive j hj
   have := (List.getElem?_eq_some_iff.1 hq).1
   omega
 have hil : ∀ i, i ∈ im → (E i).live := fun i hi => by
  obtain ⟨k, q, h1, rfl⟩ := (him i).1 hi
  exact (hob k q h1).1
 have hSS : ∀ k, S k → S' k := fun k h => ⟨hI.slt k h, fun i hi hf => (hI.fp i (hil i hi) k hf).2.1 h⟩
 refine (hC (fun k => (mapE E hs k).u) 0 w (mapE E hs) S' (xs.toList.map a.eval) hI0 (ha.den hSS hT)).mono ?_
 rintro en w' ⟨u, E', S2, rfl, hI', hu⟩
 have hM : ∀ k, handed (mapE E hs) k → ∃ i, i ∈ im ∧ (E i).F k := fun k ⟨j, h1, h2⟩ => by
  obtain ⟨q, hq⟩ := hlive j h1
  rw [mapE_at hq] at h2
  exact ⟨q.i, (him _).2 ⟨j, q, hq, rfl⟩, h2⟩
 have hob' : ∀ (k : Nat) (q : Hd), hs[k]? = some q → (E' k).live ∧ (E' k).u = (E q.i).u ∧ OwE w' q.e q.sz q.enc q.xs' (E q.i).u (E' k).F := fun k q hk => by
  have h1 := obV_at (U := fun k => (mapE E hs k).u) (st := 0) hk
  rw [Nat.zero_add] at h1
  obtain ⟨h2, _, h4, h5⟩ := hI'.obs k _ h1
  have h6 : (E' k).u = (E q.i).u := by rw [h4 _ rfl, mapE_at hk]
  simp only [if_true] at h5
  rw [h6] at h5
  exact ⟨h2, h6, h5⟩
 let X : Nat → EE := fun j => match posH hs j with | some k => ⟨(E j).u, (E' k).F, True, True⟩ | none => E j
 have hXat : ∀ (k : Nat) (q : Hd), hs[k]? = some q → X q.i = ⟨(E q.i).u, (E' k).F, True, True⟩ := fun k q hk => by
  show (match posH hs q.i with | some k => _ | none => _) = _
  rw [posH_at hdis hk]
 have hXout : ∀ i, i ∉ im → X i = E i := fun i hi => by
  show (match posH hs i with | some k => _ | none => _) = _
  cases hp : posH hs i with
  | none => rfl
  | some k =>
   obtain ⟨q, h1, h2⟩ := posH_some hp
   exact absurd ((him i).2 ⟨k, q, h1, h2⟩) hi
 have hW := hI.writes (w' := w') (im := im) (X := X) (ob' := putsH hs (cutO (cutH hs) s.ob)) (cutH hs) hil
  (fun i hi => by
   obtain ⟨k, q, h1, rfl⟩ := (him i).1 hi
   rw [hXat k q h1]
   exact ⟨trivial, rfl⟩)
  hXout
  (fun a' ha' i hi hr => by
   obtain ⟨k, q, h1, rfl⟩ := (him i).1 hi
   have := List.any_eq_false.1 ha' q (List.mem_of_getElem? h1)
   exact this hr)
  (fun i hi k hk => by
   obtain ⟨j, q, h1, rfl⟩ := (him i).1 hi
   rw [hXat j q h1] at hk
   obtain ⟨g1, _, g3⟩ := hI'.fp j (hob' j q h1).1 k hk
   rcases g3 with g3 | g3
   ·exact .inr ⟨g3, g1⟩
   ·exact .inl (hM k g3))
  (fun i hi j hj hij k h1 h2 => by
   obtain ⟨k1, q1, e1, rfl⟩ := (him i).1 hi
   obtain ⟨k2, q2, e2, rfl⟩ := (him j).1 hj
   rw [hXat k1 q1 e1] at h1
   rw [hXat k2 q2 e2] at h2
   exact hI'.dis k1 k2 (fun e => hij (by subst e; rw [e1] at e2; cases e2; rfl)) (hob' k1 q1 e1).1 (hob' k2 q2 e2).1 k h1 h2)
  hI'.kept.size hI'.kept.os hI'.kept.tape hI'.kept.output
  (fun k hk hf => hI'.kept.block k hk fun h => by
   obtain ⟨i, h1, h2⟩ := hM k h
   exact hf i h1 h2)
  (fun i o hio => by
   rcases alook_putsH hio with ⟨k, q, h1, h2, rfl⟩ | ⟨h1, h2⟩
   ·obtain ⟨q', h3, rfl⟩ := posH_some h1
    rw [h2] at h3
    cases h3
    refine .inl ⟨(him _).2 ⟨k, q, h2, rfl⟩, ?_⟩
    refine ⟨by rw [hXat k q h2]; trivial, by rw [hXat k q h2]; exact (hob k q h2).2.2.1, ?_⟩
    rw [hXat k q h2]
    exact (hob' k q h2).2.2
   ·refine .inr ⟨fun hi => ?_, h2⟩
    obtain ⟨k, q, h3, rfl⟩ := (him i).1 hi
    rw [posH_at hdis h3] at h1
    cases h1)
 refine ⟨⟨X, S, ?_, denT_puts (s := ⟨cutT (cutH hs) s.tm, putsH hs (cutO (cutH hs) s.ob), s.nx⟩) hd hn (denT.cut hW.2 hT) (fun v' e' => ?_), by rw [put_size]; exact hn, by rw [put_defers]; exact hdf⟩, fun h => by (cases h)⟩
 ·rw [sets_ob, sets_nx]
  exact hW.1
 ·cases e'
  exact plain_v hr hu

theorem p_loadc {t : TypeId} {x : Operand} {i e sz o e0 : Nat} {pn : Option Value} {α : Type} {enc : α → Nat → T} {xs : List α} {y : α} (ha : aggOf cx.P t = some false) (hx : s.ev x = some (.c (.poe i e sz o))) (hb : alook s.ob i = some (.row pn e0 true sz enc xs)) (ho : Nat.blt o sz = true) (hy : xs[e]? = some y) :
  Ps cx s (.load t x) ((.c (.cel i e sz o))) :=
 fun A w E S hI hT => by
  obtain ⟨hlv, g, n, cap, h1, h2⟩ := ev_den hT hx
  obtain ⟨hl, hb⟩ := hI.obs _ _ hb
  have hb0 := hb
  obtain ⟨A', cap', h3, _, _, h5⟩ := row_read hl hb
  rw [h1] at h3
  cases h3
  obtain ⟨u, h6, h7⟩ := h5 g rfl e y hy o (by simpa using ho)
  refine ⟨u, fun w' hW _ _ _ _ _ => ?_, ⟨hl, hb0.1⟩, h7.one, g, _, _, h1, ?_, h6⟩
  ·simp only [execOp, h2]
   rw [Sem.run_bind, run_load1 ha (hW.cell h6)]
   rfl
  ·obtain ⟨_, _, h8⟩ := hb0
   simp only [if_true] at h8
   obtain ⟨cells, G, _, h9, _⟩ := h8
   exact h9 g (by rw [h1]; rfl)
theorem o_loadc {t : TypeId} {x : Operand} {i e sz o e0 : Nat} {pn : Option Value} {α : Type} {enc : α → Nat → T} {xs : List α} {y : α} (hd : okd dst cx.n = true) (ha : aggOf cx.P t = some false) (hx : s.ev x = some (.c (.poe i e sz o))) (hb : alook s.ob i = some (.row pn e0 true sz enc xs)) (ho : Nat.blt o sz = true) (hy : xs[e]? = some y) :
  Os cx s ⟨dst, .load t x, ty, pos, aft, none⟩ (s.sets dst (some (.c (.cel i e sz o)))) true := o_value hd (p_loadc ha hx hb ho hy)
inductive ArgK (i e sz o : Nat) : AC → AC → Prop
 | cel : ArgK i e sz o (.cel i e sz o) (.own 0)
 | t0 {x : T} : ArgK i e sz o (.t none x) (.t none x)
inductive ArgsK (s : St) (i e sz o : Nat) : List Operand → List AV → Prop
 | nil : ArgsK s i e sz o [] []
 | cons {x : Operand} {a b : AC} {xs : List Operand} {bs : List AV} (hx : s.ev x = some (.c a)) (h : ArgK i e sz o a b) (hr : ArgsK s i e sz o xs bs) : ArgsK s i e sz o (x :: xs) (.c b :: bs)
def oneE (u : Value) (F : Nat → Prop) : Nat → EE := fun k => if k = 0 then ⟨u, F, True, True⟩ else dead
theorem oneE_at {u : Value} {F : Nat → Prop} : oneE u F 0 = ⟨u, F, True, True⟩ := if_pos rfl
theorem oneE_live {u : Value} {F : Nat → Prop} {j : Nat} (h : (oneE u F j).live) : j = 0 := by
 unfold oneE at h
 split at h
 ·assumption
 ·exact h.elim
theorem ArgsK.den {i e sz o : Nat} {xs : List Operand} {bs : List AV} {a : Act} {E : Nat → EE} {S S' : Nat → Prop} {w : World} {u0 : Value} {F : Nat → Prop} (h : ArgsK s i e sz o xs bs) (hS : ∀ k, S k → S' k) (hT : denT E S w s.tm a.tmps)
  (hu : ∀ u, denC E S w (.cel i e sz o) u → u = u0) : denA (oneE u0 F) S' w bs (xs.map a.eval) := by
 induction h with
 | nil => exact ⟨rfl, fun j v hj => by simp at hj⟩
 | cons hx h hr ih =>
  refine ⟨by simp [ih.1], fun j v hj => ?_⟩
  match j with
  | 0 =>
   cases hj
   refine ⟨_, rfl, ?_⟩
   have hd := ev_den hT hx
   cases h with
   | cel =>
    have := hu _ hd
    refine ⟨by rw [oneE_at]; trivial, by rw [oneE_at]; exact this, ?_⟩
    exact denC.one (S := S) (a := .cel i e sz o) hd
   | t0 => exact ⟨trivial, Rd.move hS (fun _ _ => rfl) _ _ hd.2⟩
  | j + 1 => exact ih.2 j v hj
theorem o_callK (i e sz o : Nat) {g : FuncId} {xs : Array Operand} {ats : Array TypeId} {cargs : List AV} {pn : Option Value} {e0 sz' : Nat} {α β : Type} {enc : α → Nat → T} {enc' : β → Nat → T} {l : List α} {z : α} (z' : α) {ys ys' : List β} {r : AC} {nx' : Nat} (hE : Go.Proofs.Enters cx.P g)
  (hC : ∀ (e' : Nat) (U : Nat → Value), Mu cx.P g cargs [(0, some (.row (some (U 0)) e' true sz' enc' ys))] 1 [(0, some (.row (some (U 0)) e' true sz' enc' ys'))] nx' (.c r)) (hd : okd dst cx.n = true) (hb : alook s.ob i = some (.row pn e0 true sz enc l)) (hz : l[e]? = some z) (ho : Nat.blt o sz = true) (h1 : enc z o = .sl sz' enc' ys) (h2 : enc z' o = .sl sz' enc' ys')
  (hrest : ∀ c, c < sz → c ≠ o → enc z' c = enc z c) (ha : ArgsK s i e sz o xs.toList cargs) (hr : r.plain = true) :
  Os cx s ⟨dst, .call { callee := .value (.func g), args := xs, argTypes := ats }, ty, pos, aft, none⟩ ((⟨cutT (cutR i []) s.tm, (i, some (.row pn e0 true sz enc (l.set e z'))) :: dels [] (cutO (cutR i []) s.ob), s.nx⟩ : St).sets dst (some (.c r))) false := by
 intro Q a w hg
 obtain ⟨E, S, hI, hT, hn, hdf⟩ := hg
 have ho : o < sz := by simpa using ho
 obtain ⟨hl, hrd, hpn, hrow⟩ := hI.obs _ _ hb
 simp only [if_true] at hrow
 obtain ⟨cells, G, q1, q2, q3, q4, q5⟩ := hrow
 obtain ⟨u0, c1, c2⟩ := q5 e z hz o ho
 unfold Oper.wp
 rw [execOp_call_go, hE]
 have hargs : #[] ++ Array.map a.eval xs ++ #[] = (xs.toList.map a.eval).toArray := by
  apply Array.ext'
  simp
 rw [hargs, Oper.upon_enter]
 rw [h1] at c2
 obtain ⟨e', c3⟩ := c2
 let F : Nat → Prop := G e o
 have hFF : ∀ k, F k → (E i).F k ∧ (E i).u.ownBlock ≠ some k := fun k hk => q3 e o k hk
 let S' : Nat → Prop := fun k => k < w.heap.size ∧ ¬ F k
 have hI0 : Inv ⟨cx.P, g, 0, w, S', handed (oneE u0 F)⟩ [(0, some (.row (some u0) e' true sz' enc' ys))] 1 (oneE u0 F) S' w := by
  refine ⟨fun k h => h.1, fun k h => .inl h, fun j ob hj => ?_, fun j j' hij hj hj' => absurd ((oneE_live hj).trans (oneE_live hj').symm) hij, fun j hj k hk => ?_, fun j hj => by rw [oneE_live hj]; exact Nat.one_pos, Kept.refl _ _⟩
  ·rw [alook_cons] at hj
   split at hj
   ·rename_i hj0
    subst hj0
    cases hj
    rw [oneE_at]
    refine ⟨trivial, by rw [oneE_at]; trivial, fun v hv => by rw [oneE_at]; exact Option.some.inj hv, ?_⟩
    rw [oneE_at]
    simp only [if_true]
    exact c3
   ·simp [alook] at hj
  ·have hj0 := oneE_live hj
   subst hj0
   have hk0 := hk
   rw [oneE_at] at hk
   exact ⟨(hI.fp i hl k (hFF k hk).1).1, fun h => h.2 hk, .inr ⟨0, hj, hk0⟩⟩
 have hSS : ∀ k, S k → S' k := fun k h => ⟨hI.slt k h, fun hf => (hI.fp i hl k (hFF k hf).1).2.1 h⟩
 have hcel : ∀ u, denC E S w (.cel i e sz o) u → u = u0 := fun u hu => by
  obtain ⟨_, _, g', n', cap', g1, _, g3⟩ := hu
  have := World.ownsRow.cells q1 (g := g') (by rw [g1]; rfl) _ _ c1
  rw [add_flat, Nat.zero_add] at this
  rw [this] at g3
  exact (Option.some.inj g3).symm
 refine (hC e' (fun _ => u0) 0 w (oneE u0 F) S' (xs.toList.map a.eval) hI0 (ha.den hSS hT hcel)).mono ?_
 rintro en w' ⟨u, E', S2, rfl, hI', hu⟩
 obtain ⟨hl', _, hpn', ho'⟩ := hI'.obs 0 _ rfl
 have hu0 : (E' 0).u = u0 := hpn' _ rfl
 simp only [if_true] at ho'
 rw [hu0] at ho'
 have hM : ∀ k, handed (oneE u0 F) k → F k := fun k ⟨j, m1, m2⟩ => by
  have := oneE_live m1
  subst this
  rwa [oneE_at] at m2
 have hkeep : ∀ k, k < w.heap.size → ¬ F k → w'.heap[k]? = w.heap[k]? := fun k hk hf => hI'.kept.block k hk fun h => hf (hM k h)
 have hF' : ∀ k, (E' 0).F k → F k ∨ (w.heap.size ≤ k ∧ k < w'.heap.size) := fun k hk => by
  obtain ⟨g1, _, g3⟩ := hI'.fp 0 hl' k hk
  rcases g3 with g3 | g3
  ·exact .inr ⟨g3, g1⟩
  ·exact .inl (hM k g3)
 have hblk : ∀ g, (E i).u.ownBlock = some g → w'.heap[g]? = w.heap[g]? := fun g hg => hkeep g (hI.fp i hl g (q2 g hg)).1 fun hf => (hFF g hf).2 hg
 have hset : ∀ b x, (l.set e z')[b]? = some x → (b = e ∧ x = z') ∨ (b ≠ e ∧ l[b]? = some x) := fun b x hx => by
  rw [List.getElem?_set] at hx
  split at hx
  ·rename_i hbe
   split at hx
   ·exact .inl ⟨hbe.symm, (Option.some.inj hx).symm⟩
   ·cases hx
  ·rename_i hbe
   exact .inr ⟨fun h => hbe h.symm, hx⟩
 have hdisj : ∀ b c k, ¬ (b = e ∧ c = o) → G b c k → ¬ F k := fun b c k hne hk hf => hne (q4 b c e o k hk hf)
 have hobj : okOb (takeE E i [] ⟨(E i).u, fun k => (E i).F k ∨ (E' 0).F k, True, True⟩) S w' i (.row pn e0 true sz enc (l.set e z')) := by
  refine ⟨by rw [takeE_at]; trivial, by rw [takeE_at]; exact hpn, ?_⟩
  rw [takeE_at]
  simp only [if_true]
  refine ⟨cells, fun b c k => if b = e ∧ c = o then (E' 0).F k else G b c k, by rw [List.length_set]; exact own_moved q1 hblk, fun g hg => .inl (q2 g hg), fun b c k hk => ?_, fun b c b' c' k hk hk' => ?_, fun b x hx c hc => ?_⟩
  ·dsimp only at hk
   split at hk
   ·refine ⟨.inr hk, fun hg => ?_⟩
    rcases hF' k hk with h | ⟨h, _⟩
    ·exact (hFF k h).2 hg
    ·have := (hI.fp i hl k (q2 k hg)).1
     omega
   ·exact ⟨.inl (q3 b c k hk).1, (q3 b c k hk).2⟩
  ·have key : ∀ b c, ¬ (b = e ∧ c = o) → G b c k → (E' 0).F k → False := fun b c hne hG hE => by
    rcases hF' k hE with h | ⟨h, _⟩
    ·exact hdisj b c k hne hG h
    ·have := (hI.fp i hl k (q3 b c k hG).1).1
     omega
   dsimp only at hk hk'
   split at hk <;> split at hk'
   ·rename_i r1 r2
    exact ⟨r1.1.trans r2.1.symm, r1.2.trans r2.2.symm⟩
   ·rename_i r1 r2
    exact (key b' c' r2 hk' hk).elim
   ·rename_i r1 r2
    exact (key b c r1 hk hk').elim
   ·exact q4 b c b' c' k hk hk'
  ·rcases hset b x hx with ⟨rfl, rfl⟩ | ⟨hbe, hxb⟩
   ·by_cases hco : c = o
    ·subst hco
     refine ⟨u0, c1, ?_⟩
     rw [h2]
     refine Ow.move (F := (E' 0).F) _ _ (fun k hk => by dsimp only; rw [if_pos ⟨rfl, rfl⟩]; exact hk) (fun _ _ => rfl) ⟨_, ho'⟩
    ·obtain ⟨u', r1, r2⟩ := q5 b z hz c hc
     refine ⟨u', r1, ?_⟩
     rw [hrest c hc hco]
     exact Ow.move (F := G b c) _ _ (fun k hk => by dsimp only; rw [if_neg (fun q => hco q.2)]; exact hk) (fun k hk => hkeep k (hI.fp i hl k (q3 b c k hk).1).1 (hdisj b c k (fun q => hco q.2) hk)) r2
   ·obtain ⟨u', r1, r2⟩ := q5 b x hxb c hc
    exact ⟨u', r1, Ow.move (F := G b c) _ _ (fun k hk => by dsimp only; rw [if_neg (fun q => hbe q.1)]; exact hk) (fun k hk => hkeep k (hI.fp i hl k (q3 b c k hk).1).1 (hdisj b c k (fun q => hbe q.1) hk)) r2⟩
 have hW := hI.write (w' := w') (i := i) (is := []) (x := ⟨(E i).u, fun k => (E i).F k ∨ (E' 0).F k, True, True⟩) (cutR i []) hl (fun q hq => by simp at hq) trivial (fun a' ha' => by
   simp only [cutR, Bool.or_eq_false_iff] at ha'
   exact ⟨fun q hq => by simp at hq, fun _ => rfl, fun hr _ => by (rw [ha'.1] at hr; cases hr)⟩)
  (fun k hk => by
   rcases hk with hk | hk
   ·exact .inl hk
   ·rcases hF' k hk with h | h
    ·exact .inl (hFF k h).1
    ·exact .inr (.inr h))
  hI'.kept.size hI'.kept.os hI'.kept.tape hI'.kept.output (fun k hk hf => hkeep k hk fun h => hf (hFF k h).1) hobj
 refine ⟨⟨takeE E i [] ⟨(E i).u, fun k => (E i).F k ∨ (E' 0).F k, True, True⟩, S, ?_, denT_puts (s := ⟨cutT (cutR i []) s.tm, (i, some (.row pn e0 true sz enc (l.set e z'))) :: dels [] (cutO (cutR i []) s.ob), s.nx⟩) hd hn (denT.cut hW.2 hT) (fun v' e' => ?_), by rw [put_size]; exact hn, by rw [put_defers]; exact hdf⟩, fun h => by (cases h)⟩
 ·rw [sets_ob, sets_nx]
  exact hW.1
 ·cases e'
  exact plain_c hr hu
end rules
end Go.Eng

set_option linter.unusedVariables false
set_option linter.unusedSimpArgs false
namespace Go.Eng
open Go Go.RowKit
def mkL {α : Type} (f : Int → α → α) (ct : α → Nat) : Int → List α → List α
 | _, [] => []
 | k, x :: l => f k x :: mkL f ct (k + ct x) l
section
variable {α : Type} {f : Int → α → α} {ct : α → Nat}
theorem mkL_length (k : Int) (l : List α) : (mkL f ct k l).length = l.length := by
 induction l generalizing k with
 | nil => rfl
 | cons x l ih => simp [mkL, ih]
theorem mkL_append (k : Int) (l r : List α) : mkL f ct k (l ++ r) = mkL f ct k l ++ mkL f ct (k + ((l.map ct).sum : Nat)) r := by
 induction l generalizing k with
 | nil => simp [mkL]
 | cons x l ih =>
  simp only [List.cons_append, mkL, ih, List.map_cons, List.sum_cons]
  congr 3
  omega
theorem mkL_at {k : Int} {l : List α} {m : Nat} {z : α} (h : (mkL f ct k (l.take m) ++ l.drop m)[m]? = some z) (hm : m ≤ l.length) : l[m]? = some z := by
 rw [List.getElem?_append_right (by rw [mkL_length, List.length_take]; omega), mkL_length, List.length_take, Nat.min_eq_left hm, Nat.sub_self, List.getElem?_drop] at h
 simpa using h
theorem mkL_set {k : Int} {l : List α} {m : Nat} {z y : α} (h : l[m]? = some z) (hy : y = f (k + ((szT ct l m : Nat) : Int)) z) : (mkL f ct k (l.take m) ++ l.drop m).set m y = mkL f ct k (l.take (m + 1)) ++ l.drop (m + 1) := by
 obtain ⟨hm, hz⟩ := List.getElem?_eq_some_iff.1 h
 rw [List.set_append_right _ _ (by rw [mkL_length, List.length_take]; omega), mkL_length, List.length_take, Nat.min_eq_left (by omega), Nat.sub_self, List.drop_eq_getElem_cons hm, List.set_cons_zero, List.take_add_one, h, mkL_append, hy]
 simp [mkL, szT]
theorem mkL_idem (hf : ∀ k x, f k (f k x) = f k x) (hc : ∀ k x, ct (f k x) = ct x) (k : Int) (l : List α) : mkL f ct k (mkL f ct k l) = mkL f ct k l := by
 induction l generalizing k with
 | nil => rfl
 | cons x l ih => simp only [mkL, hf, hc, ih]
theorem mkL_sum (hc : ∀ k x, ct (f k x) = ct x) (k : Int) (l : List α) : ((mkL f ct k l).map ct).sum = (l.map ct).sum := by
 induction l generalizing k with
 | nil => rfl
 | cons x l ih => simp only [mkL, List.map_cons, List.sum_cons, hc, ih]
theorem heldL_step {k : Int} {l : List α} {m n : Nat} {z : α} (h : l.take m = mkL f ct k (l.take m)) (hz : l[n]? = some z) (e : n = m) (hk : z = f (k + ((szT ct l m : Nat) : Int)) z) : l.take (m + 1) = mkL f ct k (l.take (m + 1)) := by
 subst e
 rw [List.take_add_one, hz, mkL_append, ← h]
 simp only [Option.toList_some, mkL]
 congr 1
 unfold szT at hk
 rw [← hk]
theorem heldL_ne {k : Int} {l : List α} {m n : Nat} {z : α} (hz : l[n]? = some z) (e : n = m) (hne : ¬ z = f (k + ((szT ct l m : Nat) : Int)) z) : l ≠ mkL f ct k l := by
 subst e
 intro h
 have hm := (List.getElem?_eq_some_iff.1 hz).1
 have h1 : mkL f ct k l = mkL f ct k (l.take n) ++ mkL f ct (k + (((l.take n).map ct).sum : Nat)) (l.drop n) := by rw [← mkL_append, List.take_append_drop]
 have h2 : (mkL f ct k (l.take n) ++ mkL f ct (k + (((l.take n).map ct).sum : Nat)) (l.drop n))[n]? = some (f (k + ((szT ct l n : Nat) : Int)) z) := by
  rw [List.getElem?_append_right (by rw [mkL_length, List.length_take]; omega), mkL_length, List.length_take, Nat.min_eq_left (by omega), Nat.sub_self, List.drop_eq_getElem_cons hm]
  have hz2 := (List.getElem?_eq_some_iff.1 hz).2
  rw [hz2]
  rfl
 rw [← h1, ← h, hz] at h2
 exact hne (Option.some.inj h2)
end
def markIS : Int → List Int → List Int := fun k x => seqI k x.length
def markISS : Int → List (List Int) → List (List Int) := mkL markIS List.length
end Go.Eng

set_option linter.unusedVariables false
set_option linter.unusedSimpArgs false
namespace Go.Eng
open Go Go.RowKit
section rules
variable {cx : Cx} {s : St} {dst : Option Nat} {ty : TypeId} {pos : String} {aft : Array Edge}
theorem o_lit0 (i : Nat) {t e sz : Nat} {zs : List Value} {α : Type} (enc : α → Nat → T) (hi : s.nx = i) (hd : okd dst cx.n = true) (he : elemOf' cx.P t = some (e, sz, zs)) (hz : Nat.beq zs.length sz = true) :
  Os cx s ⟨dst, .buildSlice t 0 #[], ty, pos, aft, none⟩ ((s.obj i (.row none e true sz enc [])).sets dst (some (.c (.own i)))) true := by
 subst hi
 refine o_gen fun a w hg => ?_
 obtain ⟨E, S, hI, hT, hn, hdf⟩ := hg
 have hz := Nat.eq_of_beq_eq_true hz
 have hr := run_litS (P := cx.P) he hz 0 (#[].map fun (p : Nat × Operand) => (p.1, a.eval p.2)) #[] (by simp) w (by simp [Instr.fill])
 refine ⟨.value (.slice (some ⟨w.heap.size, 0, none⟩) 0 0), w.alloc (.cells #[].toList.toArray e (0, 0)), ?_, .inl ⟨_, rfl, ?_⟩, fun _ => Ext.alloc _ _⟩
 ·simp only [execOp]
  rw [Sem.run_bind, hr]
  rfl
 ·refine Gm.row hI hT hn hdf hd _ rfl ?_
  simp only [if_true]
  refine ⟨[], fun _ _ _ => False, ⟨by simp, .inr ⟨w.heap.size, 0, _, rfl, Nat.zero_le _, heap_alloc_new w _, Nat.le_refl _, by simp [maxLen], by simp, by simp⟩⟩, fun g hg => by simp only [Value.ownBlock, Option.some.injEq] at hg; exact hg.symm, fun _ _ _ h => h.elim, fun _ _ _ _ _ h => h.elim, fun b x hx => by simp at hx⟩
end rules
def ufStep (l : List Int) (k : Nat) : Bool := match l[k]? with
 | some v => decide (-40 ≤ v ∧ v ≤ 9) && (decide (0 ≤ v) || (decide (-1 - v ≤ k) && decide (l[(-1 - v).toNat]? = some v)))
 | none => true
def ufOk (l : List Int) : Bool := decide (∀ k, k < l.length → ufStep l k = true) && decide (l.length ≤ 40)
section
variable {l : List Int} {m : Nat}
end
def usP (l : List Int) : List (Int × Nat) := l.zipIdx.filter fun p => decide (p.1 ≠ -1 - (p.2 : Int))
def usN (l : List Int) : List Int := (usP l).map fun p => (p.2 : Int)
def usV (l : List Int) : List Int := (usP l).map (·.1)
def usN' (l : List Int) : List Int := if ufOk l = true then usN l else []
def usV' (l : List Int) : List Int := if ufOk l = true then usV l else []
end Go.Eng
namespace Go.Eng
open Go Go.RowKit
def posP (v : Int) (l : List Int) : List (Int × Nat) := l.zipIdx.filter fun p => decide (p.1 = v)
def posI (v : Int) (l : List Int) : List Int := (posP v l).map fun p => (p.2 : Int)
def eqP (v : Int) : Int → Bool := fun x => decide (x = v)
def ecAt (l : List Int) (k : Nat) : List (List Int) := match l[k]? with
 | some v => if idxI (eqP v) l = (k : Int) ∧ (1 < (posI v l).length ∨ 0 ≤ v) then [posI v l] else []
 | none => []
def ecs (l : List Int) (m : Nat) : List (List Int) := (List.range m).flatMap (ecAt l)
def ecs' (l : List Int) : List (List Int) := if ufOk l = true then ecs l l.length else []
def noneB (v : Int) (l : List Int) (n : Nat) (k : Nat) : Bool := decide (∀ j, j < n → l[j]? = some v → k ≤ j)
end Go.Eng

set_option linter.unusedVariables false
set_option linter.unusedSimpArgs false
namespace Go.Eng
open Go Go.RowKit
theorem elem_of {P : Program} {t e : TypeId} (h : P.underlying t = some (.slice e)) : P.underlying t = some (.slice (P.elem t)) := by
 rw [h]; simp [Program.elem, h]
theorem elemSz_run {P : Program} {t : TypeId} {sz : Nat} (h : elemSz P t = some sz) (w : World) : P.underlying t = some (.slice (P.elem t)) ∧ (sizeOf (P.elem t)).run P w = .ok sz w := by
 unfold elemSz at h
 split at h
 ·rename_i e he
  refine ⟨elem_of he, ?_⟩
  have : P.elem t = e := by simp [Program.elem, he]
  rw [this]
  exact run_szOf h w
 ·cases h
inductive Bd : Option Value → Option Value → Option Value → Nat → Nat → Nat → Nat → Nat → Prop
 | l {k : IntKind} {n : Int} {len cap : Nat} (h0 : 0 ≤ n) (h1 : n ≤ len) (h2 : len ≤ cap) : Bd (some (.int k n)) none none len cap n.toNat len cap
 | h {k : IntKind} {n : Int} {len cap : Nat} (h0 : 0 ≤ n) (h1 : n ≤ len) (h2 : len ≤ cap) : Bd none (some (.int k n)) none len cap 0 n.toNat cap
 | lh {k k' : IntKind} {n n' : Int} {len cap : Nat} (h0 : 0 ≤ n) (h1 : n ≤ n') (h2 : n' ≤ len) (h3 : len ≤ cap) : Bd (some (.int k n)) (some (.int k' n')) none len cap n.toNat n'.toNat cap
 | hm {k k' : IntKind} {n n' : Int} {len cap : Nat} (h0 : 0 ≤ n) (h1 : n ≤ n') (h2 : n' ≤ len) (h3 : len ≤ cap) : Bd none (some (.int k n)) (some (.int k' n')) len cap 0 n.toNat n'.toNat
theorem Bd.run {lo hi mx : Option Value} {len cap l h m : Nat} (b : Bd lo hi mx len cap l h m) {P : Program} {t : TypeId} {sz : Nat} (hs : elemSz P t = some sz) (A : Option Addr) (w : World) :
  (Instr.sliceAt t (.slice A len cap) lo hi mx).run P w = .ok (sliced A l h m sz) w ∧ l ≤ h ∧ h ≤ m := by
 obtain ⟨ht, hz⟩ := elemSz_run hs w
 rw [run_sliceAt_slice w t _ _ _ _ ht]
 cases b with
 | l h0 h1 h2 => rw [run_slice_l w t A len cap ht _ _ h0 h1, hz]; exact ⟨rfl, by omega, h2⟩
 | h h0 h1 h2 => rw [run_slice_h w t A len cap ht _ _ h0 (by omega), hz]; exact ⟨rfl, by omega, by omega⟩
 | lh h0 h1 h2 h3 => rw [run_slice_lh w t A len cap ht _ _ _ _ h0 h1 (by omega), hz]; exact ⟨rfl, by omega, by omega⟩
 | hm h0 h1 h2 h3 => rw [run_slice_hm w t A len cap ht _ _ _ _ h0 h1 (by omega), hz]; exact ⟨rfl, by omega, by omega⟩
theorem sub_rd {w : World} {S : Nat → Prop} {α : Type} {sz : Nat} {enc : α → Nat → T} {xs : List α} {A : Option Addr} {cap l h m : Nat} (hr : Rd w S (.sl sz enc xs) (.slice A xs.length cap)) (h1 : l ≤ h) (h2 : h ≤ xs.length) (h3 : h ≤ m) :
  Rd w S (.sl sz enc ((xs.take h).drop l)) (sliced A l h m sz) := by
 obtain ⟨A', cap', he, hc, hr⟩ := hr
 cases he
 have hlen : ((xs.take h).drop l).length = h - l := by simp; omega
 unfold sliced
 refine ⟨_, _, by rw [hlen], by omega, fun i x hx => ?_⟩
 rw [List.getElem?_drop, List.getElem?_take] at hx
 split at hx
 ·rename_i hi
  obtain ⟨ad, rfl, hs, hc⟩ := hr _ x hx
  refine ⟨ad.add (l * sz), ?_, by rw [add_block]; exact hs, fun j hj => ?_⟩
  ·rw [if_neg (by omega)]; rfl
  ·obtain ⟨u', e1, e2⟩ := hc j hj
   refine ⟨u', ?_, e2⟩
   rw [add_add, show l * sz + (i * sz + j) = (l + i) * sz + j by rw [Nat.add_mul]; omega]
   exact e1
 ·cases hx
section rules
variable {cx : Cx} {s : St} {dst : Option Nat} {ty : TypeId} {pos : String} {aft : Array Edge}
inductive Bo (s : St) (len : Nat) : Option Operand → Option Operand → Option Operand → Nat → Nat → Prop
 | l {x : Operand} {k : IntKind} {n : Int} (hx : s.ev x = some (sc (.int k n))) (h0 : 0 ≤ n) (h1 : n ≤ len) : Bo s len (some x) none none n.toNat len
 | h {x : Operand} {k : IntKind} {n : Int} (hx : s.ev x = some (sc (.int k n))) (h0 : 0 ≤ n) (h1 : n ≤ len) : Bo s len none (some x) none 0 n.toNat
 | lh {x y : Operand} {k k' : IntKind} {n n' : Int} (hx : s.ev x = some (sc (.int k n))) (hy : s.ev y = some (sc (.int k' n'))) (h0 : 0 ≤ n) (h1 : n ≤ n') (h2 : n' ≤ len) : Bo s len (some x) (some y) none n.toNat n'.toNat
 | hm {x y : Operand} {k k' : IntKind} {n n' : Int} (hx : s.ev x = some (sc (.int k n))) (hy : s.ev y = some (sc (.int k' n'))) (h0 : 0 ≤ n) (h1 : n ≤ n') (h2 : n' ≤ len) : Bo s len none (some x) (some y) 0 n.toNat
theorem Bo.bd {len : Nat} {lo hi mx : Option Operand} {l h : Nat} (b : Bo s len lo hi mx l h) {a : Act} {E : Nat → EE} {S : Nat → Prop} {w : World} (hT : denT E S w s.tm a.tmps) {cap : Nat} (hc : len ≤ cap) :
  h ≤ len ∧ ∃ m, Bd (lo.map a.eval) (hi.map a.eval) (mx.map a.eval) len cap l h m := by
 cases b with
 | l hx h0 h1 => exact ⟨Nat.le_refl _, cap, by simp only [Option.map_some, Option.map_none]; rw [sc_den (ev_den hT hx)]; exact .l h0 h1 hc⟩
 | h hx h0 h1 => exact ⟨by omega, cap, by simp only [Option.map_some, Option.map_none]; rw [sc_den (ev_den hT hx)]; exact .h h0 h1 hc⟩
 | lh hx hy h0 h1 h2 => exact ⟨by omega, cap, by simp only [Option.map_some, Option.map_none]; rw [sc_den (ev_den hT hx), sc_den (ev_den hT hy)]; exact .lh h0 h1 h2 hc⟩
 | @hm x y k k' n n' hx hy h0 h1 h2 => exact ⟨by omega, n'.toNat, by simp only [Option.map_some, Option.map_none]; rw [sc_den (ev_den hT hx), sc_den (ev_den hT hy)]; exact .hm h0 h1 h2 hc⟩
theorem p_sub {t : TypeId} {x : Operand} {lo hi mx : Option Operand} {r : Option Nat} {α : Type} {sz : Nat} {enc : α → Nat → T} {xs : List α} {l h : Nat} (hs : elemSz cx.P t = some sz) (hx : s.ev x = some (.c (.t r (.sl sz enc xs)))) (hb : Bo s xs.length lo hi mx l h) :
  Ps cx s (.slice t x lo hi mx) (.c (.t r (.sl sz enc ((xs.take h).drop l)))) :=
 fun A w E S hI hT => by
  obtain ⟨hlv, hr⟩ := ev_den hT hx
  obtain ⟨A', cap, hu, hc, hr'⟩ := hr
  obtain ⟨hl, m, hbd⟩ := hb.bd hT hc
  have hrun := fun w' => (hbd.run hs A' w').1
  obtain ⟨_, h1, h2⟩ := hbd.run hs A' w
  refine ⟨sliced A' l h m sz, fun w' hW _ _ _ _ _ => ?_, hlv, sub_rd (w := w) (cap := cap) ⟨A', cap, rfl, hc, hr'⟩ h1 hl h2⟩
  simp only [execOp, hu]
  rw [Sem.run_bind, hrun w']
  rfl
theorem o_sub {t : TypeId} {x : Operand} {lo hi mx : Option Operand} {r : Option Nat} {α : Type} {sz : Nat} {enc : α → Nat → T} {xs : List α} {l h : Nat} (hd : okd dst cx.n = true) (hs : elemSz cx.P t = some sz) (hx : s.ev x = some (.c (.t r (.sl sz enc xs)))) (hb : Bo s xs.length lo hi mx l h) :
  Os cx s ⟨dst, .slice t x lo hi mx, ty, pos, aft, none⟩ (s.sets dst (some (.c (.t r (.sl sz enc ((xs.take h).drop l)))))) true := o_value hd (p_sub hs hx hb)
end rules
end Go.Eng
namespace Go.Eng
open Go Go.RowKit
def cmpL : List Int → List Int → Int
 | [], [] => 0
 | [], _ :: _ => -1
 | _ :: _, [] => 1
 | x :: a, y :: b => if x < y then -1 else if y < x then 1 else cmpL a b
theorem cmpL_zero : ∀ a b : List Int, cmpL a b = 0 ↔ a = b
 | [], [] => by simp [cmpL]
 | [], _ :: _ => by simp [cmpL]
 | _ :: _, [] => by simp [cmpL]
 | x :: a, y :: b => by
  unfold cmpL
  split
  ·constructor
   ·intro h; omega
   ·intro h; cases h; omega
  ·split
   ·constructor
    ·intro h; omega
    ·intro h; cases h; omega
   ·rw [cmpL_zero a b]
    constructor
    ·rintro rfl
     rw [show x = y by omega]
    ·intro h; cases h; rfl
theorem cmpL_drop : ∀ (a b : List Int) (m : Nat), a.take m = b.take m → m ≤ a.length → m ≤ b.length → cmpL a b = cmpL (a.drop m) (b.drop m)
 | a, b, 0, _, _, _ => rfl
 | [], b, m + 1, _, h, _ => by simp at h
 | x :: a, [], m + 1, _, _, h => by simp at h
 | x :: a, y :: b, m + 1, h, h1, h2 => by
  simp only [List.take_succ_cons, List.cons.injEq] at h
  obtain ⟨rfl, h⟩ := h
  rw [cmpL, if_neg (by omega), if_neg (by omega), cmpL_drop a b m h (by simpa using h1) (by simpa using h2)]
  rfl
theorem cmpL_at {a b : List Int} {m : Nat} {x y : Int} (h : a.take m = b.take m) (hx : a[m]? = some x) (hy : b[m]? = some y) : (x < y → cmpL a b = -1) ∧ (y < x → cmpL a b = 1) := by
 obtain ⟨h1, rfl⟩ := List.getElem?_eq_some_iff.1 hx
 obtain ⟨h2, rfl⟩ := List.getElem?_eq_some_iff.1 hy
 rw [cmpL_drop a b m h (by omega) (by omega), List.drop_eq_getElem_cons h1, List.drop_eq_getElem_cons h2, cmpL]
 exact ⟨fun h => if_pos h, fun h => by rw [if_neg (by omega), if_pos h]⟩
theorem cmpL_end {a b : List Int} {m : Nat} (h : a.take m = b.take m) (h1 : m ≤ a.length) (h2 : m ≤ b.length) : (m = a.length → m < b.length → cmpL a b = -1) ∧ (m < a.length → m = b.length → cmpL a b = 1) ∧ (m = a.length → m = b.length → cmpL a b = 0) := by
 rw [cmpL_drop a b m h h1 h2]
 refine ⟨fun e1 e2 => ?_, fun e1 e2 => ?_, fun e1 e2 => ?_⟩
 ·rw [e1, List.drop_length, List.drop_eq_getElem_cons (by omega)]; rfl
 ·rw [e2, List.drop_length, List.drop_eq_getElem_cons (by omega)]; rfl
 ·rw [e1, List.drop_length, ← e1, e2, List.drop_length]; rfl
def allEq {α : Type} (p : α → α → Bool) (a b : List α) : Bool := decide (a.length = b.length) && (a.zip b).all fun x => p x.1 x.2
section
variable {α : Type} {p : α → α → Bool} {a b : List α} {m : Nat}
end
end Go.Eng
