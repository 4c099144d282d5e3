/- The engine, part Z: parts of slices. -/
import Derived.Test.YtbbpoegdcecopaaGreatEngY
import Derived.Laws.Slices
import Derived.Lib.SliceRun
set_option linter.unusedVariables false
set_option linter.unusedSimpArgs false
namespace Go.Eng
open Go Go.RowKit
theorem elem_of {P : Program} {t e : TypeId} (h : P.underlying t = some (.slice e)) : P.underlying t = some (.slice (P.elem t)) := by
  rw [h]; simp [Program.elem, h]
theorem elemSz_run {P : Program} {t : TypeId} {sz : Nat} (h : elemSz P t = some sz) (w : World) : P.underlying t = some (.slice (P.elem t)) ∧ (sizeOf (P.elem t)).run P w = .ok sz w := by
  unfold elemSz at h
  split at h
  · rename_i e he
    refine ⟨elem_of he, ?_⟩
    have : P.elem t = e := by simp [Program.elem, he]
    rw [this]
    exact run_szOf h w
  · cases h
/-- The bounds of a part, from the operands' values: low, high, max. -/
inductive Bd : Option Value → Option Value → Option Value → Nat → Nat → Nat → Nat → Nat → Prop
  | l {k : IntKind} {n : Int} {len cap : Nat} (h0 : 0 ≤ n) (h1 : n ≤ len) (h2 : len ≤ cap) : Bd (some (.int k n)) none none len cap n.toNat len cap
  | h {k : IntKind} {n : Int} {len cap : Nat} (h0 : 0 ≤ n) (h1 : n ≤ len) (h2 : len ≤ cap) : Bd none (some (.int k n)) none len cap 0 n.toNat cap
  | lh {k k' : IntKind} {n n' : Int} {len cap : Nat} (h0 : 0 ≤ n) (h1 : n ≤ n') (h2 : n' ≤ len) (h3 : len ≤ cap) : Bd (some (.int k n)) (some (.int k' n')) none len cap n.toNat n'.toNat cap
  | hm {k k' : IntKind} {n n' : Int} {len cap : Nat} (h0 : 0 ≤ n) (h1 : n ≤ n') (h2 : n' ≤ len) (h3 : len ≤ cap) : Bd none (some (.int k n)) (some (.int k' n')) len cap 0 n.toNat n'.toNat
theorem Bd.run {lo hi mx : Option Value} {len cap l h m : Nat} (b : Bd lo hi mx len cap l h m) {P : Program} {t : TypeId} {sz : Nat} (hs : elemSz P t = some sz) (A : Option Addr) (w : World) :
    (Instr.sliceAt t (.slice A len cap) lo hi mx).run P w = .ok (sliced A l h m sz) w ∧ l ≤ h ∧ h ≤ m := by
  obtain ⟨ht, hz⟩ := elemSz_run hs w
  rw [run_sliceAt_slice w t _ _ _ _ ht]
  cases b with
  | l h0 h1 h2 => rw [run_slice_l w t A len cap ht _ _ h0 h1, hz]; exact ⟨rfl, by omega, h2⟩
  | h h0 h1 h2 => rw [run_slice_h w t A len cap ht _ _ h0 (by omega), hz]; exact ⟨rfl, by omega, by omega⟩
  | lh h0 h1 h2 h3 => rw [run_slice_lh w t A len cap ht _ _ _ _ h0 h1 (by omega), hz]; exact ⟨rfl, by omega, by omega⟩
  | hm h0 h1 h2 h3 => rw [run_slice_hm w t A len cap ht _ _ _ _ h0 h1 (by omega), hz]; exact ⟨rfl, by omega, by omega⟩
theorem sub_rd {w : World} {S : Nat → Prop} {α : Type} {sz : Nat} {enc : α → Nat → T} {xs : List α} {A : Option Addr} {cap l h m : Nat} (hr : Rd w S (.sl sz enc xs) (.slice A xs.length cap)) (h1 : l ≤ h) (h2 : h ≤ xs.length) (h3 : h ≤ m) :
    Rd w S (.sl sz enc ((xs.take h).drop l)) (sliced A l h m sz) := by
  obtain ⟨A', cap', he, hc, hr⟩ := hr
  cases he
  have hlen : ((xs.take h).drop l).length = h - l := by simp; omega
  unfold sliced
  refine ⟨_, _, by rw [hlen], by omega, fun i x hx => ?_⟩
  rw [List.getElem?_drop, List.getElem?_take] at hx
  split at hx
  · rename_i hi
    obtain ⟨ad, rfl, hs, hc⟩ := hr _ x hx
    refine ⟨ad.add (l * sz), ?_, by rw [add_block]; exact hs, fun j hj => ?_⟩
    · rw [if_neg (by omega)]; rfl
    · obtain ⟨u', e1, e2⟩ := hc j hj
      refine ⟨u', ?_, e2⟩
      rw [add_add, show l * sz + (i * sz + j) = (l + i) * sz + j by rw [Nat.add_mul]; omega]
      exact e1
  · cases hx
section rules
variable {cx : Cx} {s : St} {dst : Option Nat} {ty : TypeId} {pos : String} {aft : Array Edge}
/-- Operands that give the bounds. -/
inductive Bo (s : St) (len : Nat) : Option Operand → Option Operand → Option Operand → Nat → Nat → Prop
  | l {x : Operand} {k : IntKind} {n : Int} (hx : s.ev x = some (sc (.int k n))) (h0 : 0 ≤ n) (h1 : n ≤ len) : Bo s len (some x) none none n.toNat len
  | h {x : Operand} {k : IntKind} {n : Int} (hx : s.ev x = some (sc (.int k n))) (h0 : 0 ≤ n) (h1 : n ≤ len) : Bo s len none (some x) none 0 n.toNat
  | lh {x y : Operand} {k k' : IntKind} {n n' : Int} (hx : s.ev x = some (sc (.int k n))) (hy : s.ev y = some (sc (.int k' n'))) (h0 : 0 ≤ n) (h1 : n ≤ n') (h2 : n' ≤ len) : Bo s len (some x) (some y) none n.toNat n'.toNat
  | hm {x y : Operand} {k k' : IntKind} {n n' : Int} (hx : s.ev x = some (sc (.int k n))) (hy : s.ev y = some (sc (.int k' n'))) (h0 : 0 ≤ n) (h1 : n ≤ n') (h2 : n' ≤ len) : Bo s len none (some x) (some y) 0 n.toNat
theorem Bo.bd {len : Nat} {lo hi mx : Option Operand} {l h : Nat} (b : Bo s len lo hi mx l h) {a : Act} {E : Nat → EE} {S : Nat → Prop} {w : World} (hT : denT E S w s.tm a.tmps) {cap : Nat} (hc : len ≤ cap) :
    h ≤ len ∧ ∃ m, Bd (lo.map a.eval) (hi.map a.eval) (mx.map a.eval) len cap l h m := by
  cases b with
  | l hx h0 h1 => exact ⟨Nat.le_refl _, cap, by simp only [Option.map_some, Option.map_none]; rw [sc_den (ev_den hT hx)]; exact .l h0 h1 hc⟩
  | h hx h0 h1 => exact ⟨by omega, cap, by simp only [Option.map_some, Option.map_none]; rw [sc_den (ev_den hT hx)]; exact .h h0 h1 hc⟩
  | lh hx hy h0 h1 h2 => exact ⟨by omega, cap, by simp only [Option.map_some, Option.map_none]; rw [sc_den (ev_den hT hx), sc_den (ev_den hT hy)]; exact .lh h0 h1 h2 hc⟩
  | @hm x y k k' n n' hx hy h0 h1 h2 => exact ⟨by omega, n'.toNat, by simp only [Option.map_some, Option.map_none]; rw [sc_den (ev_den hT hx), sc_den (ev_den hT hy)]; exact .hm h0 h1 h2 hc⟩
/-- A part of what is read. -/
theorem p_sub {t : TypeId} {x : Operand} {lo hi mx : Option Operand} {r : Option Nat} {α : Type} {sz : Nat} {enc : α → Nat → T} {xs : List α} {l h : Nat} (hs : elemSz cx.P t = some sz) (hx : s.ev x = some (.c (.t r (.sl sz enc xs)))) (hb : Bo s xs.length lo hi mx l h) :
    Ps cx s (.slice t x lo hi mx) (.c (.t r (.sl sz enc ((xs.take h).drop l)))) :=
  fun A w E S hI hT => by
    obtain ⟨hlv, hr⟩ := ev_den hT hx
    obtain ⟨A', cap, hu, hc, hr'⟩ := hr
    obtain ⟨hl, m, hbd⟩ := hb.bd hT hc
    have hrun := fun w' => (hbd.run hs A' w').1
    obtain ⟨_, h1, h2⟩ := hbd.run hs A' w
    refine ⟨sliced A' l h m sz, fun w' hW _ _ _ _ _ => ?_, hlv, sub_rd (w := w) (cap := cap) ⟨A', cap, rfl, hc, hr'⟩ h1 hl h2⟩
    simp only [execOp, hu]
    rw [Sem.run_bind, hrun w']
    rfl
theorem o_sub {t : TypeId} {x : Operand} {lo hi mx : Option Operand} {r : Option Nat} {α : Type} {sz : Nat} {enc : α → Nat → T} {xs : List α} {l h : Nat} (hd : okd dst cx.n = true) (hs : elemSz cx.P t = some sz) (hx : s.ev x = some (.c (.t r (.sl sz enc xs)))) (hb : Bo s xs.length lo hi mx l h) :
    Os cx s ⟨dst, .slice t x lo hi mx, ty, pos, aft, none⟩ (s.sets dst (some (.c (.t r (.sl sz enc ((xs.take h).drop l)))))) true := o_value hd (p_sub hs hx hb)
end rules
end Go.Eng
namespace Go.Eng
open Go Go.RowKit
/-! ### comparisons of lists -/
def cmpL : List Int → List Int → Int
  | [], [] => 0
  | [], _ :: _ => -1
  | _ :: _, [] => 1
  | x :: a, y :: b => if x < y then -1 else if y < x then 1 else cmpL a b
theorem cmpL_zero : ∀ a b : List Int, cmpL a b = 0 ↔ a = b
  | [], [] => by simp [cmpL]
  | [], _ :: _ => by simp [cmpL]
  | _ :: _, [] => by simp [cmpL]
  | x :: a, y :: b => by
    unfold cmpL
    split
    · constructor
      · intro h; omega
      · intro h; cases h; omega
    · split
      · constructor
        · intro h; omega
        · intro h; cases h; omega
      · rw [cmpL_zero a b]
        constructor
        · rintro rfl
          rw [show x = y by omega]
        · intro h; cases h; rfl
theorem cmpL_drop : ∀ (a b : List Int) (m : Nat), a.take m = b.take m → m ≤ a.length → m ≤ b.length → cmpL a b = cmpL (a.drop m) (b.drop m)
  | a, b, 0, _, _, _ => rfl
  | [], b, m + 1, _, h, _ => by simp at h
  | x :: a, [], m + 1, _, _, h => by simp at h
  | x :: a, y :: b, m + 1, h, h1, h2 => by
    simp only [List.take_succ_cons, List.cons.injEq] at h
    obtain ⟨rfl, h⟩ := h
    rw [cmpL, if_neg (by omega), if_neg (by omega), cmpL_drop a b m h (by simpa using h1) (by simpa using h2)]
    rfl
theorem cmpL_at {a b : List Int} {m : Nat} {x y : Int} (h : a.take m = b.take m) (hx : a[m]? = some x) (hy : b[m]? = some y) : (x < y → cmpL a b = -1) ∧ (y < x → cmpL a b = 1) := by
  obtain ⟨h1, rfl⟩ := List.getElem?_eq_some_iff.1 hx
  obtain ⟨h2, rfl⟩ := List.getElem?_eq_some_iff.1 hy
  rw [cmpL_drop a b m h (by omega) (by omega), List.drop_eq_getElem_cons h1, List.drop_eq_getElem_cons h2, cmpL]
  exact ⟨fun h => if_pos h, fun h => by rw [if_neg (by omega), if_pos h]⟩
theorem cmpL_end {a b : List Int} {m : Nat} (h : a.take m = b.take m) (h1 : m ≤ a.length) (h2 : m ≤ b.length) : (m = a.length → m < b.length → cmpL a b = -1) ∧ (m < a.length → m = b.length → cmpL a b = 1) ∧ (m = a.length → m = b.length → cmpL a b = 0) := by
  rw [cmpL_drop a b m h h1 h2]
  refine ⟨fun e1 e2 => ?_, fun e1 e2 => ?_, fun e1 e2 => ?_⟩
  · rw [e1, List.drop_length, List.drop_eq_getElem_cons (by omega)]; rfl
  · rw [e2, List.drop_length, List.drop_eq_getElem_cons (by omega)]; rfl
  · rw [e1, List.drop_length, ← e1, e2, List.drop_length]; rfl
/-- Elementwise. -/
def allEq {α : Type} (p : α → α → Bool) (a b : List α) : Bool := decide (a.length = b.length) && (a.zip b).all fun x => p x.1 x.2
section
variable {α : Type} {p : α → α → Bool} {a b : List α} {m : Nat}
theorem allEq_len (h : a.length ≠ b.length) : allEq p a b = false := by unfold allEq; rw [decide_eq_false h]; rfl
theorem allEq_bad {x y : α} (hx : a[m]? = some x) (hy : b[m]? = some y) (h : p x y = false) : allEq p a b = false := by
  have hm : (a.zip b)[m]? = some (x, y) := by rw [List.getElem?_zip_eq_some]; exact ⟨hx, hy⟩
  unfold allEq
  rw [Bool.and_eq_false_iff]
  right
  rw [List.all_eq_false]
  exact ⟨(x, y), List.mem_of_getElem? hm, by simp [h]⟩
theorem allEq_good (h : ∀ j x y, j < m → a[j]? = some x → b[j]? = some y → p x y = true) (hl : a.length = b.length) (hm : a.length ≤ m) : allEq p a b = true := by
  unfold allEq
  rw [decide_eq_true hl, Bool.true_and, List.all_eq_true]
  intro z hz
  obtain ⟨j, hj⟩ := List.getElem?_of_mem hz
  rw [List.getElem?_zip_eq_some] at hj
  exact h j _ _ (by have := (List.getElem?_eq_some_iff.1 hj.1).1; omega) hj.1 hj.2
theorem allEq_dec [DecidableEq α] (h : ∀ x y, p x y = decide (x = y)) : allEq p a b = decide (a = b) := by
  induction a generalizing b with
  | nil => cases b <;> simp [allEq]
  | cons x a ih =>
    cases b with
    | nil => simp [allEq]
    | cons y b =>
      have := ih (b := b)
      unfold allEq at this ⊢
      simp only [List.length_cons, Nat.add_right_cancel_iff, List.zip_cons_cons, List.all_cons, h, List.cons.injEq, Bool.decide_and] at this ⊢
      rw [← this]
      cases decide (a.length = b.length) <;> cases decide (x = y) <;> rfl
theorem pair_step (h : ∀ j x y, j < m → a[j]? = some x → b[j]? = some y → p x y = true) {n : Nat} {x y : α} (hx : a[n]? = some x) (hy : b[n]? = some y) (e : n = m) (hp : p x y = true) : ∀ j x y, j < m + 1 → a[j]? = some x → b[j]? = some y → p x y = true := by
  intro j x' y' hj hx' hy'
  by_cases q : j < m
  · exact h j x' y' q hx' hy'
  · obtain rfl : j = m := by omega
    subst e
    rw [hx] at hx'
    rw [hy] at hy'
    cases hx'
    cases hy'
    exact hp
end
end Go.Eng
