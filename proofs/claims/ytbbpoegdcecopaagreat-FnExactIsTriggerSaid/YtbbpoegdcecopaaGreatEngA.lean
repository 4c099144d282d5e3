/- The engine, part A: trees, abstract states, what they say of a world. -/
import Derived.Below
import Derived.Deep.Draws
import Derived.OwnWalk
import Derived.Laws.BytesArg
import Derived.Laws.MakeOwn
import Derived.Laws.OwnMore
import Derived.Deep.OwnRows
import Derived.Tactics
import Derived.WalkKit
import Derived.KernelRfl
import Derived.RowKit3
import Derived.RowKit
import Derived.Laws.Rows
import Derived.Deep.Quiet
import Derived.Lib.ConvBytes
set_option linter.unusedVariables false
set_option linter.unusedSimpArgs false
namespace Go.Eng
open Go Go.RowKit

/-- A value as a tree: one cell, or a slice of a typed list (sz cells an element). -/
inductive T : Type 1
  | v (x : Value)
  | sl {α : Type} (sz : Nat) (enc : α → Nat → T) (xs : List α)

/-- u reads as the tree; what it reads lies in S. -/
def Rd (w : World) (S : Nat → Prop) : T → Value → Prop
  | .v x, u => u = x ∧ x.oneCell' = true
  | .sl sz enc xs, u => ∃ A cap, u = .slice A xs.length cap ∧ xs.length ≤ cap ∧ ∀ i x, xs[i]? = some x → ∃ ad : Addr, A = some ad ∧ S ad.block ∧ ∀ j, j < sz → ∃ u', w.cell? (ad.add (i * sz + j)) = some u' ∧ Rd w S (enc x j) u'

theorem add_block (ad : Addr) (n : Nat) : (ad.add n).block = ad.block := by unfold Addr.add; split <;> rfl
theorem cell_same {w w' : World} {a : Addr} (h : w'.heap[a.block]? = w.heap[a.block]?) : w'.cell? a = w.cell? a := World.cell?_of_block h

theorem Rd.move {w w' : World} {S S' : Nat → Prop} (hS : ∀ k, S k → S' k) (hw : ∀ k, S k → w'.heap[k]? = w.heap[k]?) : ∀ (t : T) (u : Value), Rd w S t u → Rd w' S' t u
  | .v x, u, h => h
  | .sl sz enc xs, u, h => by
    obtain ⟨A, cap, rfl, hc, h⟩ := h
    refine ⟨A, cap, rfl, hc, fun i x hx => ?_⟩
    obtain ⟨ad, rfl, hs, h⟩ := h i x hx
    refine ⟨ad, rfl, hS _ hs, fun j hj => ?_⟩
    obtain ⟨u', h1, h2⟩ := h j hj
    exact ⟨u', by rw [cell_same (hw _ (by rw [add_block]; exact hs))]; exact h1, Rd.move hS hw _ _ h2⟩
theorem Rd.one {w : World} {S : Nat → Prop} : ∀ {t : T} {u : Value}, Rd w S t u → u.oneCell' = true
  | .v x, u, h => by rw [h.1]; exact h.2
  | .sl sz enc xs, u, h => by obtain ⟨A, cap, rfl, _⟩ := h; rfl

/-- The slice u is a row of the call's own, with its elements' rows, each apart: all in F. -/
def Ow (w : World) : T → Value → (Nat → Prop) → Prop
  | .v x, u, _ => u = x ∧ x.oneCell' = true
  | .sl sz enc xs, u, F => ∃ e cells, ∃ G : Nat → Nat → Nat → Prop, w.ownsRow 0 e sz u xs.length cells ∧ (∀ g, u.ownBlock = some g → F g) ∧ (∀ i j k, G i j k → F k ∧ u.ownBlock ≠ some k) ∧ (∀ i j i' j' k, G i j k → G i' j' k → i = i' ∧ j = j') ∧ ∀ i x, xs[i]? = some x → ∀ j, j < sz → ∃ u', cells[i * sz + j]? = some u' ∧ Ow w (enc x j) u' (G i j)
/-- The same, the block's type told. -/
def OwE (w : World) (e : Nat) {α : Type} (sz : Nat) (enc : α → Nat → T) (xs : List α) (u : Value) (F : Nat → Prop) : Prop :=
  ∃ cells, ∃ G : Nat → Nat → Nat → Prop, w.ownsRow 0 e sz u xs.length cells ∧ (∀ g, u.ownBlock = some g → F g) ∧ (∀ i j k, G i j k → F k ∧ u.ownBlock ≠ some k) ∧ (∀ i j i' j' k, G i j k → G i' j' k → i = i' ∧ j = j') ∧ ∀ i x, xs[i]? = some x → ∀ j, j < sz → ∃ u', cells[i * sz + j]? = some u' ∧ Ow w (enc x j) u' (G i j)
theorem Ow_iff {w : World} {α : Type} {sz : Nat} {enc : α → Nat → T} {xs : List α} {u : Value} {F : Nat → Prop} : Ow w (.sl sz enc xs) u F ↔ ∃ e, OwE w e sz enc xs u F := Iff.rfl
/-- A row of the call's own whose elements' rows are only read (in S). -/
def Ro (w : World) (S : Nat → Prop) (e : Nat) {α : Type} (sz : Nat) (enc : α → Nat → T) (xs : List α) (u : Value) (F : Nat → Prop) : Prop :=
  ∃ cells, w.ownsRow 0 e sz u xs.length cells ∧ (∀ g, u.ownBlock = some g → F g) ∧ ∀ i x, xs[i]? = some x → ∀ j, j < sz → ∃ u', cells[i * sz + j]? = some u' ∧ Rd w S (enc x j) u'

theorem own_moved {w w' : World} {e : TypeId} {size n : Nat} {v : Value} {xs : List Value} (h : w.ownsRow 0 e size v n xs) (hm : ∀ k, v.ownBlock = some k → w'.heap[k]? = w.heap[k]?) : w'.ownsRow 0 e size v n xs := by
  obtain ⟨h1, h2⟩ := h
  refine ⟨h1, ?_⟩
  rcases h2 with h2 | ⟨g, cap, cur, rfl, hg, hh, r⟩
  · exact .inl h2
  · exact .inr ⟨g, cap, cur, rfl, hg, (hm g (by simp [Value.ownBlock])).trans hh, r⟩
theorem Ow.move {w w' : World} : ∀ (t : T) (u : Value) {F F' : Nat → Prop}, (∀ k, F k → F' k) → (∀ k, F k → w'.heap[k]? = w.heap[k]?) → Ow w t u F → Ow w' t u F'
  | .v x, u, F, F', hF, hw, h => h
  | .sl sz enc xs, u, F, F', hF, hw, h => by
    obtain ⟨e, cells, G, ho, hf, hg, hd, h⟩ := h
    refine ⟨e, cells, G, own_moved ho (fun k hk => hw k (hf k hk)), fun g q => hF _ (hf g q), fun i j k q => ⟨hF _ (hg i j k q).1, (hg i j k q).2⟩, hd, fun i x hx j hj => ?_⟩
    obtain ⟨u', h1, h2⟩ := h i x hx j hj
    exact ⟨u', h1, Ow.move _ _ (fun _ q => q) (fun k q => hw k (hg i j k q).1) h2⟩
theorem Ro.move {w w' : World} {S S' F F' : Nat → Prop} {e : Nat} {α : Type} {sz : Nat} {enc : α → Nat → T} {xs : List α} {u : Value} (hS : ∀ k, S k → S' k) (hw : ∀ k, S k → w'.heap[k]? = w.heap[k]?) (hF : ∀ k, F k → F' k) (hw2 : ∀ k, F k → w'.heap[k]? = w.heap[k]?) (h : Ro w S e sz enc xs u F) : Ro w' S' e sz enc xs u F' := by
  obtain ⟨cells, ho, hf, h⟩ := h
  refine ⟨cells, own_moved ho (fun k hk => hw2 k (hf k hk)), fun g q => hF _ (hf g q), fun i x hx j hj => ?_⟩
  obtain ⟨u', h1, h2⟩ := h i x hx j hj
  exact ⟨u', h1, Rd.move hS hw _ _ h2⟩
theorem OwE.move {w w' : World} {e : Nat} {α : Type} {sz : Nat} {enc : α → Nat → T} {xs : List α} {u : Value} {F F' : Nat → Prop} (hF : ∀ k, F k → F' k) (hw : ∀ k, F k → w'.heap[k]? = w.heap[k]?) (h : OwE w e sz enc xs u F) : OwE w' e sz enc xs u F' := by
  obtain ⟨cells, G, ho, hf, hg, hd, h⟩ := h
  refine ⟨cells, G, own_moved ho (fun k hk => hw k (hf k hk)), fun g q => hF _ (hf g q), fun i j k q => ⟨hF _ (hg i j k q).1, (hg i j k q).2⟩, hd, fun i x hx j hj => ?_⟩
  obtain ⟨u', h1, h2⟩ := h i x hx j hj
  exact ⟨u', h1, Ow.move _ _ (fun _ q => q) (fun k q => hw k (hg i j k q).1) h2⟩
theorem own_read {w : World} {e : TypeId} {size n : Nat} {v : Value} {xs : List Value} (h : w.ownsRow 0 e size v n xs) : ∃ A cap, v = .slice A n cap ∧ n ≤ cap ∧ ∀ q u, xs[q]? = some u → ∃ g, A = some ⟨g, 0, none⟩ ∧ v.ownBlock = some g ∧ w.cell? ((⟨g, 0, none⟩ : Addr).add q) = some u := by
  have hc := h
  obtain ⟨h1, h2⟩ := h
  rcases h2 with ⟨rfl, rfl⟩ | ⟨g, cap, cur, rfl, hg, hh, hn, hm, hs, ht⟩
  · refine ⟨none, 0, rfl, Nat.le_refl _, fun q u hq => ?_⟩
    have : xs = [] := List.eq_nil_of_length_eq_zero (by simpa using h1)
    subst this
    simp at hq
  · exact ⟨_, cap, rfl, hn, fun q u hq => ⟨g, rfl, rfl, World.ownsRow.cells hc (g := g) rfl q u hq⟩⟩
theorem Ow.rd {w : World} : ∀ (t : T) (u : Value) {F : Nat → Prop}, Ow w t u F → Rd w F t u
  | .v x, u, F, h => h
  | .sl sz enc xs, u, F, h => by
    obtain ⟨e, cells, G, ho, hf, hg, hd, h⟩ := h
    obtain ⟨A, cap, hu, hc, hr⟩ := own_read ho
    refine ⟨A, cap, hu, hc, fun i x hx => ?_⟩
    by_cases hz : 0 < sz
    · obtain ⟨u0, h0, _⟩ := h i x hx 0 hz
      obtain ⟨g, hA, hb, _⟩ := hr _ _ h0
      refine ⟨⟨g, 0, none⟩, hA, hf g hb, fun j hj => ?_⟩
      obtain ⟨u', h1, h2⟩ := h i x hx j hj
      obtain ⟨g', hA', _, hcell⟩ := hr _ _ h1
      rw [hA] at hA'
      cases hA'
      exact ⟨u', hcell, Rd.move (fun k q => (hg i j k q).1) (fun _ _ => rfl) _ _ (Ow.rd _ _ h2)⟩
    · cases A with
      | none =>
        have hl := ho.2
        rcases hl with ⟨rfl, hn⟩ | ⟨g, cap', cur, rfl, _⟩
        · have : xs = [] := List.eq_nil_of_length_eq_zero hn
          subst this
          simp at hx
        · cases hu
      | some ad =>
        subst hu
        refine ⟨ad, rfl, hf _ rfl, fun j hj => absurd hj (by omega)⟩

/-! ### abstract values -/
inductive AC : Type 1
  | top
  | t (r : Option Nat) (x : T)
  | ptr (i o : Nat)
  | own (i : Nat)
  | bsl (i n : Nat)
  | pel (r : Option Nat) (c : Nat → T) (m : Nat)
  | poe (i e sz o : Nat)
  | clo (f : Nat) (caps : List (Nat × Nat))
  | fv (f : Nat) (cs : List ((Nat → T) × Nat))
  | cel (i e sz o : Nat)
  | vw (i off n sz : Nat)
inductive AV : Type 1
  | c (a : AC)
  | agg (cs : List AC)
  | tup (vs : List (Bool × List AC))
inductive Ob : Type 1
  | box (cells : List AC)
  | row {α : Type} (pn : Option Value) (e : Nat) (deep : Bool) (sz : Nat) (enc : α → Nat → T) (xs : List α)
structure St : Type 1 where
  tm : List (Nat × Option AV)
  ob : List (Nat × Option Ob)
  nx : Nat
structure EE where
  u : Value
  F : Nat → Prop
  live : Prop
  rd : Prop

def alook {β : Type 1} : List (Nat × Option β) → Nat → Option β
  | [], _ => none
  | (k, v) :: r, t => cond (Nat.beq k t) v (alook r t)

def denP (E : Nat → EE) (i o : Nat) (u : Value) : Prop := (E i).live ∧ ∃ g, (E i).u = .pointer (some ⟨g, 0, none⟩) ∧ u = .pointer (some ⟨g, o, none⟩)
/-- Where a reading lies: in what may be read for good, or within an object of the call's own. -/
def place (E : Nat → EE) (S : Nat → Prop) : Option Nat → Nat → Prop
  | none => S
  | some i => (E i).F
def lives (E : Nat → EE) : Option Nat → Prop
  | none => True
  | some i => (E i).live ∧ (E i).rd
def denC (E : Nat → EE) (S : Nat → Prop) (w : World) : AC → Value → Prop
  | .top, u => u.oneCell' = true
  | .t r x, u => lives E r ∧ Rd w (place E S r) x u
  | .ptr i o, u => denP E i o u
  | .own i, u => (E i).live ∧ u = (E i).u ∧ u.oneCell' = true
  | .bsl i n, u => (E i).live ∧ ∃ g, (E i).u = .pointer (some ⟨g, 0, none⟩) ∧ u = .slice (some ⟨g, 0, none⟩) n n
  | .pel r c m, u => lives E r ∧ ∃ ad : Addr, u = .pointer (some ad) ∧ place E S r ad.block ∧ ∀ j, j < m → ∃ u', w.cell? (ad.add j) = some u' ∧ Rd w (place E S r) (c j) u'
  | .poe i e sz o, u => (E i).live ∧ ∃ g n cap, (E i).u = .slice (some ⟨g, 0, none⟩) n cap ∧ u = .pointer (some ⟨g, e * sz + o, none⟩)
  | .clo f caps, u => ∃ us : List Value, u = .func (.func f) #[] us.toArray ∧ us.length = caps.length ∧ ∀ (j : Nat) (p : Nat × Nat), caps[j]? = some p → ∃ u', us[j]? = some u' ∧ denP E p.1 p.2 u'
  | .cel i e sz o, u => ((E i).live ∧ (E i).rd) ∧ u.oneCell' = true ∧ ∃ g n cap, (E i).u = .slice (some ⟨g, 0, none⟩) n cap ∧ (E i).F g ∧ w.cell? ⟨g, e * sz + o, none⟩ = some u
  | .vw i off n sz, u => (E i).live ∧ ∃ g m cap cap', (E i).u = .slice (some ⟨g, 0, none⟩) m cap ∧ u = .slice (some ⟨g, off * sz, none⟩) n cap' ∧ off + cap' = cap
  | .fv f cs, u => ∃ us : List Value, u = .func (.func f) #[] us.toArray ∧ us.length = cs.length ∧ ∀ (j : Nat) (p : (Nat → T) × Nat), cs[j]? = some p → ∃ ad : Addr, us[j]? = some (.pointer (some ad)) ∧ S ad.block ∧ ∀ q, q < p.2 → ∃ u', w.cell? (ad.add q) = some u' ∧ Rd w S (p.1 q) u'
def denL (E : Nat → EE) (S : Nat → Prop) (w : World) (cs : List AC) (us : List Value) : Prop :=
  us.length = cs.length ∧ ∀ (j : Nat) (c : AC), cs[j]? = some c → ∃ u', us[j]? = some u' ∧ denC E S w c u'
def denB (E : Nat → EE) (S : Nat → Prop) (w : World) (b : Bool) (cs : List AC) (u : Value) : Prop :=
  if b = true then ∃ us : List Value, u = .agg us.toArray ∧ denL E S w cs us else denL E S w cs [u]
def denV (E : Nat → EE) (S : Nat → Prop) (w : World) : AV → Value → Prop
  | .c a, u => denC E S w a u
  | .agg cs, u => ∃ us : List Value, u = .agg us.toArray ∧ denL E S w cs us
  | .tup vs, u => ∃ us : List Value, u = .tuple us.toArray ∧ us.length = vs.length ∧ ∀ (j : Nat) (b : Bool) (cs : List AC), vs[j]? = some (b, cs) → ∃ u', us[j]? = some u' ∧ denB E S w b cs u'

theorem denC.one {E : Nat → EE} {S : Nat → Prop} {w : World} {a : AC} {u : Value} (h : denC E S w a u) : u.oneCell' = true := by
  cases a with
  | top => exact h
  | t r x => exact Rd.one h.2
  | ptr i o => obtain ⟨_, g, _, rfl⟩ := h; rfl
  | own i => exact h.2.2
  | bsl i n => obtain ⟨_, g, _, rfl⟩ := h; rfl
  | pel r c m => obtain ⟨_, ad, rfl, _⟩ := h; rfl
  | poe i e sz o => obtain ⟨_, g, n, cap, _, rfl⟩ := h; rfl
  | clo f caps => obtain ⟨us, rfl, _⟩ := h; rfl
  | fv f cs => obtain ⟨us, rfl, _⟩ := h; rfl
  | cel i e sz o => exact h.2.1
  | vw i off n sz => obtain ⟨_, g, m, cap, cap', _, rfl, _⟩ := h; rfl

/-- Which objects' reading a value leans on; which objects' place. -/
def AC.reads (i : Nat) : AC → Bool
  | .t (some k) _ | .pel (some k) _ _ | .cel k _ _ _ => Nat.beq k i
  | _ => false
def AC.names (i : Nat) : AC → Bool
  | .ptr k _ | .own k | .bsl k _ | .poe k _ _ _ | .cel k _ _ _ | .vw k _ _ _ | .t (some k) _ | .pel (some k) _ _ => Nat.beq k i
  | .clo _ caps => caps.any fun p => Nat.beq p.1 i
  | _ => false
def AC.lt (n : Nat) : AC → Bool
  | .ptr k _ | .own k | .bsl k _ | .poe k _ _ _ | .cel k _ _ _ | .vw k _ _ _ | .t (some k) _ | .pel (some k) _ _ => Nat.blt k n
  | .clo _ caps => caps.all fun p => Nat.blt p.1 n
  | _ => true
def AC.cut (p : AC → Bool) (a : AC) : AC := cond (p a) .top a
def AV.cut (p : AC → Bool) : AV → AV
  | .c a => .c (a.cut p)
  | .agg cs => .agg (cs.map (AC.cut p))
  | .tup vs => .tup (vs.map fun x => (x.1, x.2.map (AC.cut p)))
def AV.all (p : AC → Bool) : AV → Bool
  | .c a => p a
  | .agg cs => cs.all p
  | .tup vs => vs.all fun x => x.2.all p
def Ob.cut (p : AC → Bool) : Ob → Ob
  | .box cs => .box (cs.map (AC.cut p))
  | o => o
def Ob.all (p : AC → Bool) : Ob → Bool
  | .box cs => cs.all p
  | _ => true

/-- What carries every reading over: another environment, other blocks that may be read, another world. -/
structure Carry (E E' : Nat → EE) (S S' : Nat → Prop) (w w' : World) (p : AC → Bool) : Prop where
  sub : ∀ k, S k → S' k
  keep : ∀ k, S k → w'.heap[k]? = w.heap[k]?
  place : ∀ a, p a = false → ∀ i, a.names i = true → (E i).live → (E' i).live ∧ (E' i).u = (E i).u
  reads : ∀ a, p a = false → ∀ i, a.reads i = true → (E i).live ∧ (E i).rd → ((E' i).live ∧ (E' i).rd) ∧ (∀ k, (E i).F k → (E' i).F k) ∧ ∀ k, (E i).F k → w'.heap[k]? = w.heap[k]?

theorem Carry.c {E E' : Nat → EE} {S S' : Nat → Prop} {w w' : World} {p : AC → Bool} (h : Carry E E' S S' w w' p) {a : AC} {u : Value} (hd : denC E S w a u) : denC E' S' w' (a.cut p) u := by
  unfold AC.cut
  cases hp : p a
  · have hpl := h.place a hp
    have hrd := h.reads a hp
    cases a with
    | top => exact hd
    | t r x =>
      obtain ⟨hl, hd⟩ := hd
      cases r with
      | none => exact ⟨trivial, Rd.move h.sub h.keep _ _ hd⟩
      | some i =>
        obtain ⟨h1, h2, h3⟩ := hrd i (by simp [AC.reads]) hl
        exact ⟨h1, Rd.move h2 h3 _ _ hd⟩
    | ptr i o =>
      obtain ⟨hl, g, h1, rfl⟩ := hd
      obtain ⟨q1, q2⟩ := hpl i (by simp [AC.names]) hl
      exact ⟨q1, g, q2.trans h1, rfl⟩
    | own i =>
      obtain ⟨q1, q2⟩ := hpl i (by simp [AC.names]) hd.1
      exact ⟨q1, hd.2.1.trans q2.symm, hd.2.2⟩
    | bsl i n =>
      obtain ⟨hl, g, h1, rfl⟩ := hd
      obtain ⟨q1, q2⟩ := hpl i (by simp [AC.names]) hl
      exact ⟨q1, g, q2.trans h1, rfl⟩
    | pel r c m =>
      obtain ⟨hl, ad, rfl, hs, hd⟩ := hd
      cases r with
      | none =>
        refine ⟨trivial, ad, rfl, h.sub _ hs, fun j hj => ?_⟩
        obtain ⟨u', h1, h2⟩ := hd j hj
        exact ⟨u', by rw [cell_same (h.keep _ (by rw [add_block]; exact hs))]; exact h1, Rd.move h.sub h.keep _ _ h2⟩
      | some i =>
        obtain ⟨q1, q2, q3⟩ := hrd i (by simp [AC.reads]) hl
        refine ⟨q1, ad, rfl, q2 _ hs, fun j hj => ?_⟩
        obtain ⟨u', h1, h2⟩ := hd j hj
        exact ⟨u', by rw [cell_same (q3 _ (by rw [add_block]; exact hs))]; exact h1, Rd.move q2 q3 _ _ h2⟩
    | poe i e sz o =>
      obtain ⟨hl, g, n, cap, h1, rfl⟩ := hd
      obtain ⟨q1, q2⟩ := hpl i (by simp [AC.names]) hl
      exact ⟨q1, g, n, cap, q2.trans h1, rfl⟩
    | vw i off n sz =>
      obtain ⟨hl, g, m, cap, cap', h1, h2, h3⟩ := hd
      obtain ⟨q1, q2⟩ := hpl i (by simp [AC.names]) hl
      exact ⟨q1, g, m, cap, cap', q2.trans h1, h2, h3⟩
    | cel i e sz o =>
      obtain ⟨hl, h1, g, n, cap, h2, h3, h4⟩ := hd
      obtain ⟨q1, q2, q3⟩ := hrd i (by simp [AC.reads]) hl
      obtain ⟨_, q5⟩ := hpl i (by simp [AC.names]) hl.1
      exact ⟨q1, h1, g, n, cap, q5.trans h2, q2 _ h3, by rw [cell_same (q3 _ h3)]; exact h4⟩
    | fv f cs =>
      obtain ⟨us, rfl, hl, hd⟩ := hd
      refine ⟨us, rfl, hl, fun j q hq => ?_⟩
      obtain ⟨ad, h1, h2, h3⟩ := hd j q hq
      refine ⟨ad, h1, h.sub _ h2, fun i hi => ?_⟩
      obtain ⟨u', e1, e2⟩ := h3 i hi
      exact ⟨u', by rw [cell_same (h.keep _ (by rw [add_block]; exact h2))]; exact e1, Rd.move h.sub h.keep _ _ e2⟩
    | clo f caps =>
      obtain ⟨us, rfl, hl, hd⟩ := hd
      refine ⟨us, rfl, hl, fun j q hq => ?_⟩
      obtain ⟨u', h1, hlv, g, h2, h3⟩ := hd j q hq
      have hn : (AC.clo f caps).names q.1 = true := by
        simp only [AC.names, List.any_eq_true]
        exact ⟨q, List.mem_of_getElem? hq, by simp⟩
      obtain ⟨q1, q2⟩ := hpl q.1 hn hlv
      exact ⟨u', h1, q1, g, q2.trans h2, h3⟩
  · exact hd.one
theorem Carry.l {E E' : Nat → EE} {S S' : Nat → Prop} {w w' : World} {p : AC → Bool} (h : Carry E E' S S' w w' p) {cs : List AC} {us : List Value} (hd : denL E S w cs us) : denL E' S' w' (cs.map (AC.cut p)) us := by
  refine ⟨by rw [hd.1, List.length_map], fun j c hc => ?_⟩
  rw [List.getElem?_map] at hc
  obtain ⟨c0, h0, rfl⟩ := Option.map_eq_some_iff.mp hc
  obtain ⟨u', h1, h2⟩ := hd.2 j c0 h0
  exact ⟨u', h1, h.c h2⟩
theorem Carry.v {E E' : Nat → EE} {S S' : Nat → Prop} {w w' : World} {p : AC → Bool} (h : Carry E E' S S' w w' p) {a : AV} {u : Value} (hd : denV E S w a u) : denV E' S' w' (a.cut p) u := by
  cases a with
  | c a => exact h.c hd
  | agg cs => obtain ⟨us, rfl, hd⟩ := hd; exact ⟨us, rfl, h.l hd⟩
  | tup vs =>
    obtain ⟨us, rfl, hl, hd⟩ := hd
    refine ⟨us, rfl, by rw [hl, List.length_map], fun j b cs hc => ?_⟩
    rw [List.getElem?_map] at hc
    obtain ⟨⟨b0, c0⟩, h0, hc⟩ := Option.map_eq_some_iff.mp hc
    cases hc
    obtain ⟨u', h1, h2⟩ := hd j b0 c0 h0
    refine ⟨u', h1, ?_⟩
    unfold denB at *
    split
    · rename_i hb
      rw [if_pos hb] at h2
      obtain ⟨us, rfl, h2⟩ := h2
      exact ⟨us, rfl, h.l h2⟩
    · rename_i hb
      rw [if_neg hb] at h2
      exact h.l h2
theorem AC.cut_none (a : AC) : a.cut (fun _ => false) = a := rfl
theorem map_cut_none (cs : List AC) : cs.map (AC.cut fun _ => false) = cs := by
  rw [show (AC.cut fun _ => false) = id from rfl, List.map_id]
theorem AV.cut_none (a : AV) : a.cut (fun _ => false) = a := by
  cases a with
  | c a => rfl
  | agg cs => simp [AV.cut, map_cut_none]
  | tup vs => simp [AV.cut, map_cut_none]

end Go.Eng
