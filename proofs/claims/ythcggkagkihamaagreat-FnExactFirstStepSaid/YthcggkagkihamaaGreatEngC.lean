import Derived.Test.YthcggkagkihamaaGreatEngB
import Derived.Deep.Fields
import Derived.ChangeArms
import Derived.WideShapes
import Derived.Laws.Strings
import Derived.Laws.Cover1
set_option linter.unusedVariables false
set_option linter.unusedSimpArgs false
namespace Go.Eng
open Go Go.RowKit

def okI (x : Int) : Prop := -9223372036854775808 ≤ x ∧ x ≤ 9223372036854775807
def inst1 (b : List Int) (t : Int) : Option Int :=
 (if 0 ≤ t then b[t.toNat]? else some (-1 - t)).bind fun v => if -40 ≤ v ∧ v ≤ 9 then some v else none
def instV (b : List Int) : List Int → Option (List Int)
 | [] => some []
 | t :: r => (inst1 b t).bind fun v => (instV b r).map (v :: ·)
theorem instV_append (b : List Int) (x y : List Int) : instV b (x ++ y) = (instV b x).bind fun u => (instV b y).map (u ++ ·) := by
 induction x with
 | nil => simp [instV]
 | cons t x ih =>
  simp only [List.cons_append, instV, ih]
  cases inst1 b t with
  | none => rfl
  | some v =>
   simp only [Option.bind_some]
   cases instV b x with
   | none => rfl
   | some u => cases instV b y <;> rfl
theorem instV_len {b x u : List Int} (h : instV b x = some u) : u.length = x.length := by
 induction x generalizing u with
 | nil => cases h; rfl
 | cons t x ih =>
  simp only [instV] at h
  obtain ⟨v, _, h⟩ := Option.bind_eq_some_iff.mp h
  obtain ⟨u', h1, rfl⟩ := Option.map_eq_some_iff.mp h
  simp [ih h1]
theorem inst_step {b ts acc : List Int} {t v : Int} {m n : Nat} (h : instV b (ts.take m) = some acc) (ht : ts[n]? = some t) (e : n = m) (hv : inst1 b t = some v) : instV b (ts.take (m + 1)) = some (acc ++ [v]) := by
 subst e
 rw [List.take_add_one, ht, instV_append, h]
 simp [instV, hv]
theorem inst_none {b ts acc : List Int} {t : Int} {m n : Nat} (h : instV b (ts.take m) = some acc) (ht : ts[n]? = some t) (e : n = m) (hv : inst1 b t = none) : instV b ts = none := by
 subst e
 have hn := (List.getElem?_eq_some_iff.1 ht).1
 rw [← List.take_append_drop n ts, instV_append, h, List.drop_eq_getElem_cons hn]
 have : ts[n] = t := (List.getElem?_eq_some_iff.1 ht).2
 simp [instV, this, hv]
theorem inst_far {b : List Int} {t : Int} (h0 : 0 ≤ t) (h : (b.length : Int) ≤ t) : inst1 b t = none := by
 unfold inst1
 rw [if_pos h0, List.getElem?_eq_none (by omega)]
 rfl
theorem inst_bad {b : List Int} {t v : Int} (h0 : 0 ≤ t) (h : b[t.toNat]? = some v) (hv : ¬ (-40 ≤ v ∧ v ≤ 9)) : inst1 b t = none := by
 unfold inst1
 rw [if_pos h0, h, Option.bind_some, if_neg hv]
theorem inst_good {b : List Int} {t v : Int} (h0 : 0 ≤ t) (h : b[t.toNat]? = some v) (hv : -40 ≤ v ∧ v ≤ 9) : inst1 b t = some v := by
 unfold inst1
 rw [if_pos h0, h, Option.bind_some, if_pos hv]
theorem inst_badn {b : List Int} {t : Int} (h0 : ¬ 0 ≤ t) (ht : -9223372036854775808 ≤ t) (hv : ¬ (-40 ≤ IntKind.i64.wrap (-1 - t) ∧ IntKind.i64.wrap (-1 - t) ≤ 9)) : inst1 b t = none := by
 rw [wr64 (by omega) (by omega)] at hv
 unfold inst1
 rw [if_neg h0, Option.bind_some, if_neg hv]
theorem inst_goodn {b : List Int} {t : Int} (h0 : ¬ 0 ≤ t) (ht : -9223372036854775808 ≤ t) (hv : -40 ≤ IntKind.i64.wrap (-1 - t) ∧ IntKind.i64.wrap (-1 - t) ≤ 9) : inst1 b t = some (IntKind.i64.wrap (-1 - t)) := by
 have e : IntKind.i64.wrap (-1 - t) = -1 - t := wr64 (by omega) (by omega)
 rw [e] at hv ⊢
 unfold inst1
 rw [if_neg h0, Option.bind_some, if_pos hv]
end Go.Eng

set_option linter.unusedVariables false
set_option linter.unusedSimpArgs false
namespace Go.Eng
open Go Go.RowKit Go.ChangeShapes Go.WideShapes Go.Deep

def Op {α : Type} (P : Program) (t : TypeId) (sz : Nat) (enc : α → Nat → T) (ok : α → Prop) : Prop :=
 ∀ (H : Type) (en : TypeId × Value → H) (w : World) (base : Nat) (spare : Nat → Bool) (held : Bool) (fuel : Nat) (cs : List Value) (x : DataW H × List MemPlace),
  DataW.trod en P w base spare held fuel t cs = some x → ∃ a, cs.length = sz ∧ (∀ j, j < sz → ∃ u, cs[j]? = some u ∧ Rd w (fun k => k < w.heap.size) (enc a j) u) ∧ ok a
def okB (_ : Bool) : Prop := True
def okS (s : List UInt8) : Prop := s.length ≤ 9223372036854775807
def okL {α : Type} (ok : α → Prop) (l : List α) : Prop := l.length ≤ 9223372036854775807 ∧ ∀ a ∈ l, ok a
theorem okI_wf {x : Int} (h : (Lit.int .i64 x).wf = true) : okI x := by
 simp [Lit.wf, IntKind.min, IntKind.max, IntKind.bits, IntKind.signed] at h
 unfold okI
 omega
theorem okS_len {s : ByteArray} (h : s.size ≤ maxLen) : okS s.data.toList := by
 simp [maxLen] at h
 unfold okS
 rw [Array.length_toList]
 exact h
abbrev mkS (l : List UInt8) : ByteArray := ⟨l.toArray⟩
def encS : List UInt8 → Nat → T := fun s _ => .v (.string (mkS s))
def enS1 {α : Type} (e0 : α → Nat → T) : α → Nat → T := fun x j => match j with | _ => e0 x 0
def enS2 {α β : Type} (e0 : α → Nat → T) (e1 : β → Nat → T) : α × β → Nat → T := fun x j => match j with | 0 => e0 x.1 0 | _ => e1 x.2 0
def enS3 {α β γ : Type} (e0 : α → Nat → T) (e1 : β → Nat → T) (e2 : γ → Nat → T) : α × β × γ → Nat → T := fun x j => match j with | 0 => e0 x.1 0 | 1 => e1 x.2.1 0 | _ => e2 x.2.2 0
def enS4 {α β γ δ : Type} (e0 : α → Nat → T) (e1 : β → Nat → T) (e2 : γ → Nat → T) (e3 : δ → Nat → T) : α × β × γ × δ → Nat → T := fun x j => match j with | 0 => e0 x.1 0 | 1 => e1 x.2.1 0 | 2 => e2 x.2.2.1 0 | _ => e3 x.2.2.2 0
def enS5 {α β γ δ ε : Type} (e0 : α → Nat → T) (e1 : β → Nat → T) (e2 : γ → Nat → T) (e3 : δ → Nat → T) (e4 : ε → Nat → T) : α × β × γ × δ × ε → Nat → T := fun x j => match j with | 0 => e0 x.1 0 | 1 => e1 x.2.1 0 | 2 => e2 x.2.2.1 0 | 3 => e3 x.2.2.2.1 0 | _ => e4 x.2.2.2.2 0
def enSl {α : Type} (sz : Nat) (e : α → Nat → T) : List α → Nat → T := fun l _ => .sl sz e l
def encB : Bool → Nat → T := fun b _ => .v (.bool b)
section
variable {P : Program} {t e : TypeId}
theorem op_int (ht : P.underlying t = some (.int .i64)) : Op P t 1 encI okI := by
 intro H en w base spare held fuel cs x h
 obtain ⟨n, rfl, _, hw⟩ := DataW.trod_int ht h
 exact ⟨n, rfl, fun j hj => ⟨_, by rw [show j = 0 by omega]; rfl, rfl, rfl⟩, okI_wf hw⟩
theorem op_bool (ht : P.underlying t = some .bool) : Op P t 1 encB okB := by
 intro H en w base spare held fuel cs x h
 obtain ⟨b, rfl, _⟩ := DataW.trod_bool ht h
 exact ⟨b, rfl, fun j hj => ⟨_, by rw [show j = 0 by omega]; rfl, rfl, rfl⟩, trivial⟩
theorem op_string (ht : P.underlying t = some .string) : Op P t 1 encS okS := by
 intro H en w base spare held fuel cs x h
 obtain ⟨s, rfl, _, hs⟩ := DataW.trod_string ht h
 exact ⟨s.data.toList, rfl, fun j hj => ⟨.string s, by rw [show j = 0 by omega]; rfl, rfl, rfl⟩, okS_len hs⟩
theorem list_of {α : Type} {p : Nat → α → Prop} (n : Nat) (h : ∀ i, i < n → ∃ x, p i x) : ∃ l : List α, l.length = n ∧ ∀ i x, l[i]? = some x → p i x := by
 induction n with
 | zero => exact ⟨[], rfl, fun i x hx => by simp at hx⟩
 | succ n ih =>
  obtain ⟨l, hl, hp⟩ := ih (fun i hi => h i (by omega))
  obtain ⟨y, hy⟩ := h n (by omega)
  refine ⟨l ++ [y], by simp [hl], fun i x hx => ?_⟩
  by_cases hi : i < l.length
  ·rw [List.getElem?_append_left hi] at hx
   exact hp i x hx
  ·rw [List.getElem?_append_right (by omega)] at hx
   have hi2 : i - l.length = 0 := by
    have := (List.getElem?_eq_some_iff.1 hx).1
    simp at this
    omega
   rw [hi2] at hx
   simp at hx
   rw [← hx, show i = n by omega]
   exact hy
theorem op_slice {α : Type} {sz : Nat} {enc : α → Nat → T} {ok : α → Prop} (ht : P.underlying t = some (.slice e)) (hc : P.cellsOf e = sz) (hz : 0 < sz) (ho : Op P e sz enc ok) : Op P t 1 (enSl sz enc) (okL ok) := by
 intro H en w base spare held fuel cs x h
 rcases DataW.trod_slice ht h with ⟨rfl, _⟩ | ⟨a, len, cap, elems, rest, n, _, rfl, _, hb, hl, hm, hlen, hel, _, _⟩
 ·exact ⟨[], rfl, fun j hj => by (obtain rfl : j = 0 := by omega); exact ⟨_, rfl, nil_rd⟩, by simp, fun a ha => by simp at ha⟩
 ·have each : ∀ i, i < len → ∃ y : α, (∀ j, j < sz → ∃ u, w.cell? (a.add (i * sz + j)) = some u ∧ Rd w (fun k => k < w.heap.size) (enc y j) u) ∧ ok y := by
   intro i hi
   have h1 := hel i hi
   rw [List.getElem?_eq_getElem (by omega), Option.bind_eq_some_iff] at h1
   obtain ⟨cs', h2, h3⟩ := h1
   obtain ⟨y, hK1, hK, hok⟩ := ho H en w base spare held n cs' _ h3
   obtain ⟨_, hsz, hcell⟩ := World.cells?_some h2
   refine ⟨y, fun j hj => ?_, hok⟩
   obtain ⟨u, hu, hr⟩ := hK j hj
   have h4 := hcell j (by omega)
   rw [hu, hc, Deep.add_add] at h4
   exact ⟨u, h4, hr⟩
  obtain ⟨l, hll, hp⟩ := list_of len each
  have hmx : maxLen = 9223372036854775807 := by decide
  subst hll
  have hR : Rd w (fun k => k < w.heap.size) (.sl sz enc l) (.slice (some a) l.length cap) := by
   refine ⟨some a, cap, rfl, hl, fun i y hy => ⟨a, rfl, ?_, fun j hj => (hp i y hy).1 j hj⟩⟩
   obtain ⟨u, hu, _⟩ := (hp i y hy).1 0 hz
   have := World.block_lt_of_cell? w _ hu
   rwa [add_block] at this
  refine ⟨l, rfl, fun j hj => by (obtain rfl : j = 0 := by omega); exact ⟨_, rfl, hR⟩, by omega, fun y hy => ?_⟩
  obtain ⟨i, hi⟩ := List.getElem?_of_mem hy
  exact (hp i y hi).2
theorem trod_cells {H : Type} {enc : TypeId × Value → H} {w : World} {base : Nat} {spare : Nat → Bool} {held : Bool} {fuel : Nat} {cs : List Value} {x : DataW H × List MemPlace} {fs : Array Field}
  (ht : P.underlying t = some (.struct fs)) (hone : oneCellFields P fs = true) (hC : P.cellsOf t = fs.size) (h : DataW.trod enc P w base spare held fuel t cs = some x) :
  cs.length = fs.size ∧ ∃ n, ∀ (i : Nat) (f : Field) (c : Value), fs[i]? = some f → cs[i]? = some c → ∃ y, DataW.trod enc P w base spare held n f.type [c] = some y := by
 obtain ⟨xs, n, _, _, hl, hn, hf⟩ := DataW.trod_struct ht h
 refine ⟨hl.trans hC, n, fun i f c hi hc => ?_⟩
 have h1 := hf i f hi
 obtain ⟨ho, hs⟩ := hone_of hone i f hi
 have hlt : i < fs.size := (Array.getElem?_eq_some_iff.1 hi).1
 have hlc : i < cs.length := (List.getElem?_eq_some_iff.1 hc).1
 rw [ho, hs, take1_drop cs i c hlc, List.getElem?_eq_getElem (by omega)] at h1
 rw [List.getD_eq_getElem?_getD, hc] at h1
 exact ⟨_, h1⟩
theorem op_struct2 {α β : Type} {e0 : α → Nat → T} {e1 : β → Nat → T} {ok0 : α → Prop} {ok1 : β → Prop} {f0 f1 : Field} (ht : P.underlying t = some (.struct #[f0, f1])) (hone : oneCellFields P #[f0, f1] = true) (hC : P.cellsOf t = 2) (h0 : Op P f0.type 1 e0 ok0) (h1 : Op P f1.type 1 e1 ok1) :
  Op P t 2 (enS2 e0 e1) (fun x => ok0 x.1 ∧ ok1 x.2) := by
 intro H en w base spare held fuel cs x h
 obtain ⟨hl, n, hf⟩ := trod_cells ht hone hC h
 match cs, hl with
 | [c0, c1], _ =>
  obtain ⟨y0, g0⟩ := hf 0 _ c0 rfl rfl
  obtain ⟨y1, g1⟩ := hf 1 _ c1 rfl rfl
  obtain ⟨a0, _, K0, o0⟩ := h0 H en w base spare held n _ _ g0
  obtain ⟨a1, _, K1, o1⟩ := h1 H en w base spare held n _ _ g1
  refine ⟨(a0, a1), rfl, fun j hj => ?_, o0, o1⟩
  match j, hj with
  | 0, _ =>
   obtain ⟨u, hu, hr⟩ := K0 0 (by omega)
   exact ⟨u, hu, hr⟩
  | 1, _ =>
   obtain ⟨u, hu, hr⟩ := K1 0 (by omega)
   exact ⟨u, hu, hr⟩
theorem op_struct3 {α β γ : Type} {e0 : α → Nat → T} {e1 : β → Nat → T} {e2 : γ → Nat → T} {ok0 : α → Prop} {ok1 : β → Prop} {ok2 : γ → Prop} {f0 f1 f2 : Field} (ht : P.underlying t = some (.struct #[f0, f1, f2])) (hone : oneCellFields P #[f0, f1, f2] = true) (hC : P.cellsOf t = 3) (h0 : Op P f0.type 1 e0 ok0) (h1 : Op P f1.type 1 e1 ok1) (h2 : Op P f2.type 1 e2 ok2) :
  Op P t 3 (enS3 e0 e1 e2) (fun x => ok0 x.1 ∧ ok1 x.2.1 ∧ ok2 x.2.2) := by
 intro H en w base spare held fuel cs x h
 obtain ⟨hl, n, hf⟩ := trod_cells ht hone hC h
 match cs, hl with
 | [c0, c1, c2], _ =>
  obtain ⟨y0, g0⟩ := hf 0 _ c0 rfl rfl
  obtain ⟨y1, g1⟩ := hf 1 _ c1 rfl rfl
  obtain ⟨y2, g2⟩ := hf 2 _ c2 rfl rfl
  obtain ⟨a0, _, K0, o0⟩ := h0 H en w base spare held n _ _ g0
  obtain ⟨a1, _, K1, o1⟩ := h1 H en w base spare held n _ _ g1
  obtain ⟨a2, _, K2, o2⟩ := h2 H en w base spare held n _ _ g2
  refine ⟨(a0, a1, a2), rfl, fun j hj => ?_, o0, o1, o2⟩
  match j, hj with
  | 0, _ =>
   obtain ⟨u, hu, hr⟩ := K0 0 (by omega)
   exact ⟨u, hu, hr⟩
  | 1, _ =>
   obtain ⟨u, hu, hr⟩ := K1 0 (by omega)
   exact ⟨u, hu, hr⟩
  | 2, _ =>
   obtain ⟨u, hu, hr⟩ := K2 0 (by omega)
   exact ⟨u, hu, hr⟩
theorem op_struct5 {α β γ δ ε : Type} {e0 : α → Nat → T} {e1 : β → Nat → T} {e2 : γ → Nat → T} {e3 : δ → Nat → T} {e4 : ε → Nat → T} {ok0 : α → Prop} {ok1 : β → Prop} {ok2 : γ → Prop} {ok3 : δ → Prop} {ok4 : ε → Prop} {f0 f1 f2 f3 f4 : Field} (ht : P.underlying t = some (.struct #[f0, f1, f2, f3, f4])) (hone : oneCellFields P #[f0, f1, f2, f3, f4] = true) (hC : P.cellsOf t = 5) (h0 : Op P f0.type 1 e0 ok0) (h1 : Op P f1.type 1 e1 ok1) (h2 : Op P f2.type 1 e2 ok2) (h3 : Op P f3.type 1 e3 ok3) (h4 : Op P f4.type 1 e4 ok4) :
  Op P t 5 (enS5 e0 e1 e2 e3 e4) (fun x => ok0 x.1 ∧ ok1 x.2.1 ∧ ok2 x.2.2.1 ∧ ok3 x.2.2.2.1 ∧ ok4 x.2.2.2.2) := by
 intro H en w base spare held fuel cs x h
 obtain ⟨hl, n, hf⟩ := trod_cells ht hone hC h
 match cs, hl with
 | [c0, c1, c2, c3, c4], _ =>
  obtain ⟨y0, g0⟩ := hf 0 _ c0 rfl rfl
  obtain ⟨y1, g1⟩ := hf 1 _ c1 rfl rfl
  obtain ⟨y2, g2⟩ := hf 2 _ c2 rfl rfl
  obtain ⟨y3, g3⟩ := hf 3 _ c3 rfl rfl
  obtain ⟨y4, g4⟩ := hf 4 _ c4 rfl rfl
  obtain ⟨a0, _, K0, o0⟩ := h0 H en w base spare held n _ _ g0
  obtain ⟨a1, _, K1, o1⟩ := h1 H en w base spare held n _ _ g1
  obtain ⟨a2, _, K2, o2⟩ := h2 H en w base spare held n _ _ g2
  obtain ⟨a3, _, K3, o3⟩ := h3 H en w base spare held n _ _ g3
  obtain ⟨a4, _, K4, o4⟩ := h4 H en w base spare held n _ _ g4
  refine ⟨(a0, a1, a2, a3, a4), rfl, fun j hj => ?_, o0, o1, o2, o3, o4⟩
  match j, hj with
  | 0, _ =>
   obtain ⟨u, hu, hr⟩ := K0 0 (by omega)
   exact ⟨u, hu, hr⟩
  | 1, _ =>
   obtain ⟨u, hu, hr⟩ := K1 0 (by omega)
   exact ⟨u, hu, hr⟩
  | 2, _ =>
   obtain ⟨u, hu, hr⟩ := K2 0 (by omega)
   exact ⟨u, hu, hr⟩
  | 3, _ =>
   obtain ⟨u, hu, hr⟩ := K3 0 (by omega)
   exact ⟨u, hu, hr⟩
  | 4, _ =>
   obtain ⟨u, hu, hr⟩ := K4 0 (by omega)
   exact ⟨u, hu, hr⟩
end
theorem arg_agg {H : Type} {en : TypeId × Value → H} {P : Program} {t : TypeId} {fs : Array Field} {w : World} {base : Nat} {spare : Nat → Bool} {held : Bool} {r : Reach} {b0 : Nat} {v : Value} {d : DataW H} {p : List MemPlace} {α : Type} {sz : Nat} {enc : α → Nat → T} {ok : α → Prop}
  (ht : P.underlying t = some (.struct fs)) (ho : Op P t sz enc ok) (hv : Value.okWide P w r b0 t v) (h : DataW.Trod en P w base spare held t v d p) : ∃ a cs, v = .agg (List.toArray cs) ∧ cs.length = sz ∧ (∀ j, j < sz → ∃ u, cs[j]? = some u ∧ Rd w (fun k => k < w.heap.size) (enc a j) u) ∧ ok a := by
 obtain ⟨cs, rfl, _⟩ := okWide_struct ht hv
 obtain ⟨fuel, hf⟩ := h
 obtain ⟨a, hl, hK, hok⟩ := ho H en w base spare held fuel _ _ hf
 exact ⟨a, cs.toList, by simp, by simpa [Value.cells] using hl, by simpa [Value.cells] using hK, hok⟩
theorem arg_one {H : Type} {en : TypeId × Value → H} {P : Program} {t : TypeId} {w : World} {base : Nat} {spare : Nat → Bool} {held : Bool} {v : Value} {d : DataW H} {p : List MemPlace} {α : Type} {enc : α → Nat → T} {ok : α → Prop}
  (ho : Op P t 1 enc ok) (hc : v.cells.toList = [v]) (h : DataW.Trod en P w base spare held t v d p) : ∃ a, Rd w (fun k => k < w.heap.size) (enc a 0) v ∧ ok a := by
 obtain ⟨fuel, hf⟩ := h
 obtain ⟨a, hl, hK, hok⟩ := ho H en w base spare held fuel _ _ hf
 obtain ⟨u, hu, hr⟩ := hK 0 (by omega)
 rw [hc] at hu
 cases hu
 exact ⟨a, hr, hok⟩
end Go.Eng
namespace Go.Eng
open Go Go.RowKit
theorem den_cells {c : Nat → T} {w : World} {E : Nat → EE} {S : Nat → Prop} {n : Nat} {cs : List Value} (hl : cs.length = n) (h : ∀ j, j < n → ∃ u, cs[j]? = some u ∧ Rd w S (c j) u) : denV E S w (.agg ((List.range n).map fun j => .t none (c j))) (.agg cs.toArray) := by
 refine ⟨cs, rfl, by simp [hl], fun j c hj => ?_⟩
 rw [List.getElem?_map] at hj
 obtain ⟨q, h1, rfl⟩ := Option.map_eq_some_iff.mp hj
 have hq : j < n := by have := (List.getElem?_eq_some_iff.1 h1).1; simpa using this
 rw [List.getElem?_range hq] at h1
 cases h1
 obtain ⟨u, h2, h3⟩ := h j hq
 exact ⟨u, h2, trivial, h3⟩
theorem denA_nil {E : Nat → EE} {S : Nat → Prop} {w : World} : denA E S w [] [] := ⟨rfl, fun j v h => by simp at h⟩
theorem denA_cons {E : Nat → EE} {S : Nat → Prop} {w : World} {a : AV} {u : Value} {al : List AV} {us : List Value} (h : denV E S w a u) (hr : denA E S w al us) : denA E S w (a :: al) (u :: us) := by
 refine ⟨by simp [hr.1], fun j v hj => ?_⟩
 match j with
 | 0 => cases hj; exact ⟨u, rfl, h⟩
 | j + 1 => exact hr.2 j v hj
theorem below_kept {w w' : World} (h : Kept (fun _ => False) w w') : Below w.heap.size w w' := ⟨h.os, h.tape, h.output, h.size, fun k hk => h.block k hk (fun h => h)⟩
end Go.Eng

set_option linter.unusedVariables false
set_option linter.unusedSimpArgs false
namespace Go.Eng
open Go Go.RowKit

def pels (cs : List ((Nat → T) × Nat)) : List AV := cs.map fun c => .c (.pel none c.1 c.2)
def Fu (P : Program) (f : FuncId) (args : List AV) (res : AV) : Prop := Go.Proofs.Enters P f ∧ Pu P f args [] 0 res
theorem denA_app {E : Nat → EE} {S : Nat → Prop} {w : World} {bs0 bs : List AV} {us vs : List Value} (h : denA E S w bs0 us) (k : denA E S w bs vs) : denA E S w (bs0 ++ bs) (us ++ vs) := by
 refine ⟨by simp [h.1, k.1], fun j v hj => ?_⟩
 rw [List.getElem?_append] at hj
 split at hj
 ·rename_i hl
  obtain ⟨u, h1, h2⟩ := h.2 j v hj
  exact ⟨u, by rw [List.getElem?_append_left (by rw [h.1]; exact hl)]; exact h1, h2⟩
 ·rename_i hl
  obtain ⟨u, h1, h2⟩ := k.2 _ v hj
  exact ⟨u, by rw [List.getElem?_append_right (by rw [h.1]; omega), h.1]; exact h1, h2⟩
section rules
variable {cx : Cx} {s : St} {dst : Option Nat} {ty : TypeId} {pos : String} {aft : Array Edge}
inductive CapX (s : St) : List Operand → List (Nat × Nat) → Prop
 | nil : CapX s [] []
 | cons {x : Operand} {i o : Nat} {xs : List Operand} {ps : List (Nat × Nat)} (hx : s.ev x = some (.c (.ptr i o))) (hr : CapX s xs ps) : CapX s (x :: xs) ((i, o) :: ps)
theorem CapX.den {xs : List Operand} {ps : List (Nat × Nat)} {a : Act} {E : Nat → EE} {S : Nat → Prop} {w : World} (h : CapX s xs ps) (hT : denT E S w s.tm a.tmps) :
  (xs.map a.eval).length = ps.length ∧ ∀ (j : Nat) (p : Nat × Nat), ps[j]? = some p → ∃ u', (xs.map a.eval)[j]? = some u' ∧ denP E p.1 p.2 u' := by
 induction h with
 | nil => exact ⟨rfl, fun j p hj => by simp at hj⟩
 | cons hx hr ih =>
  refine ⟨by simp at ih ⊢; exact ih.1, fun j p hj => ?_⟩
  match j with
  | 0 => cases hj; exact ⟨_, rfl, ev_den hT hx⟩
  | j + 1 => exact ih.2 j p hj
theorem p_makeFunc {f : Nat} {xs : Array Operand} {ps : List (Nat × Nat)} (hx : CapX s xs.toList ps) : Ps cx s (.makeFunc (.func f) #[] xs) (.c (.clo f ps)) := by
 intro a w E S hI hT
 obtain ⟨h1, h2⟩ := hx.den hT
 refine ⟨.func (.func f) #[] (xs.map a.eval), fun _ _ _ _ _ _ _ => ?_, xs.toList.map a.eval, ?_, h1, h2⟩
 ·simp [execOp, Instr.makeFunc]
 ·congr 1
  apply Array.ext'
  simp
theorem o_makeFunc {f : Nat} {xs : Array Operand} {ps : List (Nat × Nat)} (hd : okd dst cx.n = true) (hx : CapX s xs.toList ps) :
  Os cx s ⟨dst, .makeFunc (.func f) #[] xs, ty, pos, aft, none⟩ (s.sets dst (some (.c (.clo f ps)))) true := o_value hd (p_makeFunc hx)
theorem pels_den {E : Nat → EE} {S : Nat → Prop} {w : World} {cs : List ((Nat → T) × Nat)} {us : List Value} (hl : us.length = cs.length)
  (h : ∀ (j : Nat) (p : (Nat → T) × Nat), cs[j]? = some p → ∃ ad : Addr, us[j]? = some (.pointer (some ad)) ∧ S ad.block ∧ ∀ q, q < p.2 → ∃ u', w.cell? (ad.add q) = some u' ∧ Rd w S (p.1 q) u') : denA E S w (pels cs) us := by
 refine ⟨by simp [pels, hl], fun j v hj => ?_⟩
 unfold pels at hj
 rw [List.getElem?_map] at hj
 obtain ⟨p, hp, rfl⟩ := Option.map_eq_some_iff.mp hj
 obtain ⟨ad, h1, h2, h3⟩ := h j p hp
 exact ⟨_, h1, trivial, ad, rfl, h2, h3⟩
theorem o_callv (d m : Nat) (sh : Bool) {t : Nat} {f : Nat} {cs : List ((Nat → T) × Nat)} {v : AV} {xs : Array Operand} {ats : Array TypeId} {cargs : List AV} {ob' : List (Nat × Option Ob)} {nx' : Nat} {res : AV} (hE : Go.Proofs.Enters cx.P f) (hC : Pu cx.P f (cargs ++ pels cs) ob' nx' res) (hd : okd dst cx.n = true) (hv : s.ev (.tmp t) = some v) (hf : ArgV s sh v (.c (.fv f cs))) (ha : Args s sh xs.toList cargs) (hns : (sh || (nsO ob' && res.all AC.ns)) = true) (hdx : s.nx = d) (hm : d + nx' = m) :
  Os cx s ⟨dst, .call { callee := .value (.tmp t), args := xs, argTypes := ats }, ty, pos, aft, none⟩ ((⟨s.tm, upO d ob' s.ob, m⟩ : St).sets dst (some (res.up d))) true := by
 subst hdx hm
 intro Q a w hg
 obtain ⟨E, S, hI, hT, hn, hdf⟩ := hg
 obtain ⟨us, hu, hl, hcap⟩ := hf.den hI (ev_den hT hv)
 have hrun : execOp a.eval ⟨dst, .call { callee := .value (.tmp t), args := xs, argTypes := ats }, ty, pos, aft, none⟩ = callFunc f (#[] ++ Array.map a.eval xs ++ us.toArray) := by
  simp [execOp, resolve, Deferred.ofValue, invoke, hu]
 unfold Oper.wp
 rw [hrun, hE]
 have hargs : #[] ++ Array.map a.eval xs ++ us.toArray = (xs.toList.map a.eval ++ us).toArray := by
  apply Array.ext'
  simp
 rw [hargs, Oper.upon_enter]
 refine (hC 0 w (Sc sh S w) (xs.toList.map a.eval ++ us) (fun k hk => ?_) (denA_app (ha.den hI hT) (pels_den hl hcap))).mono ?_
 ·unfold Sc at hk
  split at hk
  ·exact hI.slt k hk
  ·exact hk
 ·rintro e w' ⟨u, E', S', rfl, hI', hu⟩
  obtain ⟨h1, h2⟩ := hI.join hI' (by cases sh <;> simp_all)
  refine ⟨⟨_, _, by rw [sets_ob, sets_nx]; exact h1, denT_puts (s := ⟨s.tm, upO s.nx ob' s.ob, s.nx + nx'⟩) hd hn (denT.carry h2 hT) (fun v' e => ?_), by rw [put_size]; exact hn, by rw [put_defers]; exact hdf⟩, fun _ => ⟨hI'.kept.size, fun k hk => hI'.kept.block k hk (fun h => h)⟩⟩
  cases e
  cases hsh : sh
  ·have hres : res.all AC.ns = true := by rw [hsh] at hns; simp_all
   exact up_v (S' := fun k => S k ∨ (false = true ∧ S' k)) (fun k hk => hk) (ns_v hres hu)
  ·exact up_v (fun k hk => .inr ⟨rfl, hk⟩) hu
end rules
end Go.Eng

set_option linter.unusedVariables false
set_option linter.unusedSimpArgs false
namespace Go.Eng
open Go Go.RowKit

theorem bl_irrefl : ∀ x : List UInt8, Op.bytesLess x x = false
 | [] => rfl
 | a :: x => by simp [Op.bytesLess, bl_irrefl x]
theorem bl_asymm : ∀ x y : List UInt8, Op.bytesLess x y = true → Op.bytesLess y x = false
 | x, [] => fun h => by cases x <;> simp [Op.bytesLess] at h
 | [], b :: y => fun _ => rfl
 | a :: x, b :: y => fun h => by
  simp only [Op.bytesLess, Bool.or_eq_true, Bool.and_eq_true, decide_eq_true_eq, beq_iff_eq] at h
  rcases h with h | ⟨rfl, h⟩
  ·have h1 : ¬ b < a := by simp only [UInt8.lt_iff_toNat_lt] at h ⊢; omega
   have h2 : ¬ b = a := by rintro rfl; simp [UInt8.lt_iff_toNat_lt] at h
   simp [Op.bytesLess, h1, h2]
  ·simp [Op.bytesLess, bl_asymm x y h, UInt8.lt_iff_toNat_lt]
theorem bl_total : ∀ x y : List UInt8, Op.bytesLess y x = false → Op.bytesLess x y = true ∨ x = y
 | [], [] => fun _ => .inr rfl
 | [], _ :: _ => fun _ => .inl rfl
 | a :: x, [] => fun h => by simp [Op.bytesLess] at h
 | a :: x, b :: y => fun h => by
  simp only [Op.bytesLess, Bool.or_eq_false_iff, decide_eq_false_iff_not] at h
  by_cases he : a = b
  ·subst he
   have h2 : Op.bytesLess y x = false := by simpa using h.2
   rcases bl_total x y h2 with h3 | rfl
   ·exact .inl (by simp [Op.bytesLess, h3])
   ·exact .inr rfl
  ·have h1 : a < b := by
    have h3 := h.1
    have h4 : a.toNat ≠ b.toNat := fun z => he (UInt8.toNat_inj.1 z)
    simp only [UInt8.lt_iff_toNat_lt] at h3 ⊢
    omega
   exact .inl (by simp [Op.bytesLess, h1])
theorem bl_leq (x y : List UInt8) : (Op.bytesLess x y || x == y) = !Op.bytesLess y x := by
 cases h : Op.bytesLess y x
 ·rcases bl_total x y h with h | h <;> simp [h]
 ·have h1 := bl_asymm _ _ h
  have h2 : ¬ x = y := by rintro rfl; rw [bl_irrefl] at h; cases h
  simp [h1, h2]

theorem mkS_toList (l : List UInt8) : (mkS l).toList = l := ByteArray.toList_mk l
theorem mkS_app (a b : List UInt8) : mkS a ++ mkS b = mkS (a ++ b) := by
 show ByteArray.append _ _ = _
 apply ByteArray.ext
 simp [mkS]
def strV (op : BinOp) (a b : List UInt8) : Option Value :=
 match op with
 | .eql => some (.bool (decide (a = b)))
 | .neq => some (.bool (decide (a ≠ b)))
 | .lss => some (.bool (Op.bytesLess a b))
 | .leq => some (.bool (!(Op.bytesLess b a)))
 | .gtr => some (.bool (Op.bytesLess b a))
 | .geq => some (.bool (!(Op.bytesLess a b)))
 | _ => none
theorem beq_decL (a b : List UInt8) : (a == b) = decide (a = b) := by
 by_cases h : a = b <;> simp [h]
theorem run_str {P : Program} {op : BinOp} {a b : List UInt8} {v : Value} (h : strV op a b = some v) (t : TypeId) (x y : Operand) (w : World) : (do eqGuard op t x y (.string (mkS a)) (.string (mkS b)); binOp op t (.string (mkS a)) (.string (mkS b)) : Sem Value).run P w = .ok v w ∧ v.oneCell' = true := by
 cases op <;> simp only [strV] at h <;> first | (cases h; done) | (cases h; refine ⟨?_, rfl⟩; simp [eqGuard, binOp_string_eql, binOp_string_neq, binOp_string_lss, binOp_string_leq, binOp_string_gtr, binOp_string_geq, mkS_toList, beq_decL, bl_leq]; done) | (cases h; refine ⟨?_, rfl⟩; simp only [eqGuard, binOp_string_eql, binOp_string_neq, binOp_string_lss, binOp_string_leq, binOp_string_gtr, binOp_string_geq, mkS_toList, bl_leq, Bool.not_not]; simp [beq_decL]; done)
section rules
variable {cx : Cx} {s : St} {dst : Option Nat} {ty : TypeId} {pos : String} {aft : Array Edge}
theorem p_str {op : BinOp} {t yt : TypeId} {x y : Operand} {a b : List UInt8} {v : Value} (hx : s.ev x = some (sc (.string (mkS a)))) (hy : s.ev y = some (sc (.string (mkS b)))) (hv : strV op a b = some v) :
  Ps cx s (.binOp op t x y yt) (sc v) :=
 fun A w E S hI hT => by
  have h1 := sc_den (ev_den hT hx)
  have h2 := sc_den (ev_den hT hy)
  have h3 := fun w' => (run_str (P := cx.P) hv t x y w').1
  have h4 := (run_str (P := cx.P) hv t x y w).2
  refine ⟨v, fun w' hW _ _ _ _ _ => ?_, sc_mk h4⟩
  simp only [execOp, h1, h2]
  rw [Sem.run_bind, h3]
  rfl
theorem o_str {op : BinOp} {t yt : TypeId} {x y : Operand} {a b : List UInt8} {v : Value} (hd : okd dst cx.n = true) (hx : s.ev x = some (sc (.string (mkS a)))) (hy : s.ev y = some (sc (.string (mkS b)))) (hv : strV op a b = some v) :
  Os cx s ⟨dst, .binOp op t x y yt, ty, pos, aft, none⟩ (s.sets dst (some (sc v))) true := o_value hd (p_str hx hy hv)
theorem p_cat {t yt : TypeId} {x y : Operand} {a b : List UInt8} (hx : s.ev x = some (sc (.string (mkS a)))) (hy : s.ev y = some (sc (.string (mkS b)))) (hn : a.length + b.length ≤ 9223372036854775807) :
  Ps cx s (.binOp .add t x y yt) (sc (.string (mkS (a ++ b)))) :=
 fun A w E S hI hT => by
  have h1 := sc_den (ev_den hT hx)
  have h2 := sc_den (ev_den hT hy)
  refine ⟨.string (mkS (a ++ b)), fun w' hW _ _ _ _ _ => ?_, sc_mk rfl⟩
  simp only [execOp, h1, h2]
  have e : ¬ (((mkS a).size + (mkS b).size : Nat) : Int) > IntKind.i64.max := by
   show ¬ ((a.length + b.length : Nat) : Int) > _
   rw [show IntKind.i64.max = (9223372036854775807 : Int) from rfl]
   omega
  simp only [eqGuard, binOp_string_add, Op.stringOp, e, if_false]
  rw [← mkS_app]
  rfl
theorem o_cat {t yt : TypeId} {x y : Operand} {a b : List UInt8} (hd : okd dst cx.n = true) (hx : s.ev x = some (sc (.string (mkS a)))) (hy : s.ev y = some (sc (.string (mkS b)))) (hn : a.length + b.length ≤ 9223372036854775807) :
  Os cx s ⟨dst, .binOp .add t x y yt, ty, pos, aft, none⟩ (s.sets dst (some (sc (.string (mkS (a ++ b)))))) true := o_value hd (p_cat hx hy hn)
theorem p_lenS {t : TypeId} {x : Operand} {b : List UInt8} (ht : cx.P.underlying t = some .string) (hx : s.ev x = some (sc (.string (mkS b)))) :
  Ps cx s (.call { callee := .builtin .len, args := #[x], argTypes := #[t] }) ((sc (.int .i64 (b.length : Int)))) := p_lens ht hx
theorem o_lenS {t : TypeId} {x : Operand} {b : List UInt8} (hd : okd dst cx.n = true) (ht : cx.P.underlying t = some .string) (hx : s.ev x = some (sc (.string (mkS b)))) :
  Os cx s ⟨dst, .call { callee := .builtin .len, args := #[x], argTypes := #[t] }, ty, pos, aft, none⟩ (s.sets dst (some (sc (.int .i64 (b.length : Int))))) true := o_value hd (p_lenS ht hx)
theorem p_indexS {t : TypeId} {x y : Operand} {b : List UInt8} {kk : IntKind} {n : Int} {z : UInt8} (ht : cx.P.underlying t = some .string) (hx : s.ev x = some (sc (.string (mkS b)))) (hy : s.ev y = some (sc (.int kk n))) (h0 : 0 ≤ n) (hz : b[n.toNat]? = some z) :
  Ps cx s (.index t x y) (sc (.int .u8 (z.toNat : Int))) :=
 fun A w E S hI hT => by
  refine ⟨_, fun w' hW _ _ _ _ _ => ?_, sc_mk rfl⟩
  simp only [execOp, sc_den (ev_den hT hx), sc_den (ev_den hT hy)]
  obtain ⟨hl, hz⟩ := List.getElem?_eq_some_iff.1 hz
  rw [Sem.run_bind, run_index_string w' t _ kk n ht, dif_pos (by constructor; exact h0; show n < ((b.length : Nat) : Int); omega)]
  subst hz
  rfl
theorem o_indexS {t : TypeId} {x y : Operand} {b : List UInt8} {kk : IntKind} {n : Int} {z : UInt8} (hd : okd dst cx.n = true) (ht : cx.P.underlying t = some .string) (hx : s.ev x = some (sc (.string (mkS b)))) (hy : s.ev y = some (sc (.int kk n))) (h0 : 0 ≤ n) (hz : b[n.toNat]? = some z) :
  Os cx s ⟨dst, .index t x y, ty, pos, aft, none⟩ (s.sets dst (some (sc (.int .u8 (z.toNat : Int))))) true := o_value hd (p_indexS ht hx hy h0 hz)
end rules
end Go.Eng
