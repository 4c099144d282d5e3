/- The engine, part R: how a law's arguments read. -/
import Derived.Test.YtbbpoegdcecopaaGreatEngO
import Derived.Deep.Fields
import Derived.ChangeArms
import Derived.WideShapes
set_option linter.unusedVariables false
set_option linter.unusedSimpArgs false
namespace Go.Eng
open Go Go.RowKit Go.ChangeShapes Go.WideShapes Go.Deep

/-- What reads at type t reads as the cells that enc tells, of which ok holds. -/
def Op {α : Type} (P : Program) (t : TypeId) (sz : Nat) (enc : α → Nat → T) (ok : α → Prop) : Prop :=
  ∀ (H : Type) (en : TypeId × Value → H) (w : World) (base : Nat) (spare : Nat → Bool) (held : Bool) (fuel : Nat) (cs : List Value) (x : DataW H × List MemPlace),
    DataW.trod en P w base spare held fuel t cs = some x → ∃ a, cs.length = sz ∧ (∀ j, j < sz → ∃ u, cs[j]? = some u ∧ Rd w (fun k => k < w.heap.size) (enc a j) u) ∧ ok a
def okB (_ : Bool) : Prop := True
def okS (s : List UInt8) : Prop := s.length ≤ 9223372036854775807
def okL {α : Type} (ok : α → Prop) (l : List α) : Prop := l.length ≤ 9223372036854775807 ∧ ∀ a ∈ l, ok a
theorem okI_wf {x : Int} (h : (Lit.int .i64 x).wf = true) : okI x := by
  simp [Lit.wf, IntKind.min, IntKind.max, IntKind.bits, IntKind.signed] at h
  unfold okI
  omega
theorem okS_len {s : ByteArray} (h : s.size ≤ maxLen) : okS s.data.toList := by
  simp [maxLen] at h
  unfold okS
  rw [Array.length_toList]
  exact h
abbrev mkS (l : List UInt8) : ByteArray := ⟨l.toArray⟩
def encS : List UInt8 → Nat → T := fun s _ => .v (.string (mkS s))
/-- The cells of a struct of so many fields of one cell each; of a slice. -/
def enS1 {α : Type} (e0 : α → Nat → T) : α → Nat → T := fun x j => match j with | _ => e0 x 0
def enS2 {α β : Type} (e0 : α → Nat → T) (e1 : β → Nat → T) : α × β → Nat → T := fun x j => match j with | 0 => e0 x.1 0 | _ => e1 x.2 0
def enS3 {α β γ : Type} (e0 : α → Nat → T) (e1 : β → Nat → T) (e2 : γ → Nat → T) : α × β × γ → Nat → T := fun x j => match j with | 0 => e0 x.1 0 | 1 => e1 x.2.1 0 | _ => e2 x.2.2 0
def enS4 {α β γ δ : Type} (e0 : α → Nat → T) (e1 : β → Nat → T) (e2 : γ → Nat → T) (e3 : δ → Nat → T) : α × β × γ × δ → Nat → T := fun x j => match j with | 0 => e0 x.1 0 | 1 => e1 x.2.1 0 | 2 => e2 x.2.2.1 0 | _ => e3 x.2.2.2 0
def enS5 {α β γ δ ε : Type} (e0 : α → Nat → T) (e1 : β → Nat → T) (e2 : γ → Nat → T) (e3 : δ → Nat → T) (e4 : ε → Nat → T) : α × β × γ × δ × ε → Nat → T := fun x j => match j with | 0 => e0 x.1 0 | 1 => e1 x.2.1 0 | 2 => e2 x.2.2.1 0 | 3 => e3 x.2.2.2.1 0 | _ => e4 x.2.2.2.2 0
def enSl {α : Type} (sz : Nat) (e : α → Nat → T) : List α → Nat → T := fun l _ => .sl sz e l
def encB : Bool → Nat → T := fun b _ => .v (.bool b)
section
variable {P : Program} {t e : TypeId}
theorem op_int (ht : P.underlying t = some (.int .i64)) : Op P t 1 encI okI := by
  intro H en w base spare held fuel cs x h
  obtain ⟨n, rfl, _, hw⟩ := DataW.trod_int ht h
  exact ⟨n, rfl, fun j hj => ⟨_, by rw [show j = 0 by omega]; rfl, rfl, rfl⟩, okI_wf hw⟩
theorem op_bool (ht : P.underlying t = some .bool) : Op P t 1 encB okB := by
  intro H en w base spare held fuel cs x h
  obtain ⟨b, rfl, _⟩ := DataW.trod_bool ht h
  exact ⟨b, rfl, fun j hj => ⟨_, by rw [show j = 0 by omega]; rfl, rfl, rfl⟩, trivial⟩
theorem op_string (ht : P.underlying t = some .string) : Op P t 1 encS okS := by
  intro H en w base spare held fuel cs x h
  obtain ⟨s, rfl, _, hs⟩ := DataW.trod_string ht h
  exact ⟨s.data.toList, rfl, fun j hj => ⟨.string s, by rw [show j = 0 by omega]; rfl, rfl, rfl⟩, okS_len hs⟩
theorem list_of {α : Type} {p : Nat → α → Prop} (n : Nat) (h : ∀ i, i < n → ∃ x, p i x) : ∃ l : List α, l.length = n ∧ ∀ i x, l[i]? = some x → p i x := by
  induction n with
  | zero => exact ⟨[], rfl, fun i x hx => by simp at hx⟩
  | succ n ih =>
    obtain ⟨l, hl, hp⟩ := ih (fun i hi => h i (by omega))
    obtain ⟨y, hy⟩ := h n (by omega)
    refine ⟨l ++ [y], by simp [hl], fun i x hx => ?_⟩
    by_cases hi : i < l.length
    · rw [List.getElem?_append_left hi] at hx
      exact hp i x hx
    · rw [List.getElem?_append_right (by omega)] at hx
      have hi2 : i - l.length = 0 := by
        have := (List.getElem?_eq_some_iff.1 hx).1
        simp at this
        omega
      rw [hi2] at hx
      simp at hx
      rw [← hx, show i = n by omega]
      exact hy
theorem op_slice {α : Type} {sz : Nat} {enc : α → Nat → T} {ok : α → Prop} (ht : P.underlying t = some (.slice e)) (hc : P.cellsOf e = sz) (hz : 0 < sz) (ho : Op P e sz enc ok) : Op P t 1 (enSl sz enc) (okL ok) := by
  intro H en w base spare held fuel cs x h
  rcases DataW.trod_slice ht h with ⟨rfl, _⟩ | ⟨a, len, cap, elems, rest, n, _, rfl, _, hb, hl, hm, hlen, hel, _, _⟩
  · exact ⟨[], rfl, fun j hj => by (obtain rfl : j = 0 := by omega); exact ⟨_, rfl, nil_rd⟩, by simp, fun a ha => by simp at ha⟩
  · have each : ∀ i, i < len → ∃ y : α, (∀ j, j < sz → ∃ u, w.cell? (a.add (i * sz + j)) = some u ∧ Rd w (fun k => k < w.heap.size) (enc y j) u) ∧ ok y := by
      intro i hi
      have h1 := hel i hi
      rw [List.getElem?_eq_getElem (by omega), Option.bind_eq_some_iff] at h1
      obtain ⟨cs', h2, h3⟩ := h1
      obtain ⟨y, hK1, hK, hok⟩ := ho H en w base spare held n cs' _ h3
      obtain ⟨_, hsz, hcell⟩ := World.cells?_some h2
      refine ⟨y, fun j hj => ?_, hok⟩
      obtain ⟨u, hu, hr⟩ := hK j hj
      have h4 := hcell j (by omega)
      rw [hu, hc, Deep.add_add] at h4
      exact ⟨u, h4, hr⟩
    obtain ⟨l, hll, hp⟩ := list_of len each
    have hmx : maxLen = 9223372036854775807 := by decide
    subst hll
    have hR : Rd w (fun k => k < w.heap.size) (.sl sz enc l) (.slice (some a) l.length cap) := by
      refine ⟨some a, cap, rfl, hl, fun i y hy => ⟨a, rfl, ?_, fun j hj => (hp i y hy).1 j hj⟩⟩
      obtain ⟨u, hu, _⟩ := (hp i y hy).1 0 hz
      have := World.block_lt_of_cell? w _ hu
      rwa [add_block] at this
    refine ⟨l, rfl, fun j hj => by (obtain rfl : j = 0 := by omega); exact ⟨_, rfl, hR⟩, by omega, fun y hy => ?_⟩
    obtain ⟨i, hi⟩ := List.getElem?_of_mem hy
    exact (hp i y hi).2
theorem trod_cells {H : Type} {enc : TypeId × Value → H} {w : World} {base : Nat} {spare : Nat → Bool} {held : Bool} {fuel : Nat} {cs : List Value} {x : DataW H × List MemPlace} {fs : Array Field}
    (ht : P.underlying t = some (.struct fs)) (hone : oneCellFields P fs = true) (hC : P.cellsOf t = fs.size) (h : DataW.trod enc P w base spare held fuel t cs = some x) :
    cs.length = fs.size ∧ ∃ n, ∀ (i : Nat) (f : Field) (c : Value), fs[i]? = some f → cs[i]? = some c → ∃ y, DataW.trod enc P w base spare held n f.type [c] = some y := by
  obtain ⟨xs, n, _, _, hl, hn, hf⟩ := DataW.trod_struct ht h
  refine ⟨hl.trans hC, n, fun i f c hi hc => ?_⟩
  have h1 := hf i f hi
  obtain ⟨ho, hs⟩ := hone_of hone i f hi
  have hlt : i < fs.size := (Array.getElem?_eq_some_iff.1 hi).1
  have hlc : i < cs.length := (List.getElem?_eq_some_iff.1 hc).1
  rw [ho, hs, take1_drop cs i c hlc, List.getElem?_eq_getElem (by omega)] at h1
  rw [List.getD_eq_getElem?_getD, hc] at h1
  exact ⟨_, h1⟩
/-- A struct of 1 field(s). -/
theorem op_struct1 {α : Type} {e0 : α → Nat → T} {ok0 : α → Prop} {f0 : Field} (ht : P.underlying t = some (.struct #[f0])) (hone : oneCellFields P #[f0] = true) (hC : P.cellsOf t = 1) (h0 : Op P f0.type 1 e0 ok0) :
    Op P t 1 (enS1 e0) (fun x => ok0 x) := by
  intro H en w base spare held fuel cs x h
  obtain ⟨hl, n, hf⟩ := trod_cells ht hone hC h
  match cs, hl with
  | [c0], _ =>
    obtain ⟨y0, g0⟩ := hf 0 _ c0 rfl rfl
    obtain ⟨a0, _, K0, o0⟩ := h0 H en w base spare held n _ _ g0
    refine ⟨a0, rfl, fun j hj => ?_, o0⟩
    match j, hj with
    | 0, _ =>
      obtain ⟨u, hu, hr⟩ := K0 0 (by omega)
      exact ⟨u, hu, hr⟩
/-- A struct of 2 field(s). -/
theorem op_struct2 {α β : Type} {e0 : α → Nat → T} {e1 : β → Nat → T} {ok0 : α → Prop} {ok1 : β → Prop} {f0 f1 : Field} (ht : P.underlying t = some (.struct #[f0, f1])) (hone : oneCellFields P #[f0, f1] = true) (hC : P.cellsOf t = 2) (h0 : Op P f0.type 1 e0 ok0) (h1 : Op P f1.type 1 e1 ok1) :
    Op P t 2 (enS2 e0 e1) (fun x => ok0 x.1 ∧ ok1 x.2) := by
  intro H en w base spare held fuel cs x h
  obtain ⟨hl, n, hf⟩ := trod_cells ht hone hC h
  match cs, hl with
  | [c0, c1], _ =>
    obtain ⟨y0, g0⟩ := hf 0 _ c0 rfl rfl
    obtain ⟨y1, g1⟩ := hf 1 _ c1 rfl rfl
    obtain ⟨a0, _, K0, o0⟩ := h0 H en w base spare held n _ _ g0
    obtain ⟨a1, _, K1, o1⟩ := h1 H en w base spare held n _ _ g1
    refine ⟨(a0, a1), rfl, fun j hj => ?_, o0, o1⟩
    match j, hj with
    | 0, _ =>
      obtain ⟨u, hu, hr⟩ := K0 0 (by omega)
      exact ⟨u, hu, hr⟩
    | 1, _ =>
      obtain ⟨u, hu, hr⟩ := K1 0 (by omega)
      exact ⟨u, hu, hr⟩
/-- A struct of 3 field(s). -/
theorem op_struct3 {α β γ : Type} {e0 : α → Nat → T} {e1 : β → Nat → T} {e2 : γ → Nat → T} {ok0 : α → Prop} {ok1 : β → Prop} {ok2 : γ → Prop} {f0 f1 f2 : Field} (ht : P.underlying t = some (.struct #[f0, f1, f2])) (hone : oneCellFields P #[f0, f1, f2] = true) (hC : P.cellsOf t = 3) (h0 : Op P f0.type 1 e0 ok0) (h1 : Op P f1.type 1 e1 ok1) (h2 : Op P f2.type 1 e2 ok2) :
    Op P t 3 (enS3 e0 e1 e2) (fun x => ok0 x.1 ∧ ok1 x.2.1 ∧ ok2 x.2.2) := by
  intro H en w base spare held fuel cs x h
  obtain ⟨hl, n, hf⟩ := trod_cells ht hone hC h
  match cs, hl with
  | [c0, c1, c2], _ =>
    obtain ⟨y0, g0⟩ := hf 0 _ c0 rfl rfl
    obtain ⟨y1, g1⟩ := hf 1 _ c1 rfl rfl
    obtain ⟨y2, g2⟩ := hf 2 _ c2 rfl rfl
    obtain ⟨a0, _, K0, o0⟩ := h0 H en w base spare held n _ _ g0
    obtain ⟨a1, _, K1, o1⟩ := h1 H en w base spare held n _ _ g1
    obtain ⟨a2, _, K2, o2⟩ := h2 H en w base spare held n _ _ g2
    refine ⟨(a0, a1, a2), rfl, fun j hj => ?_, o0, o1, o2⟩
    match j, hj with
    | 0, _ =>
      obtain ⟨u, hu, hr⟩ := K0 0 (by omega)
      exact ⟨u, hu, hr⟩
    | 1, _ =>
      obtain ⟨u, hu, hr⟩ := K1 0 (by omega)
      exact ⟨u, hu, hr⟩
    | 2, _ =>
      obtain ⟨u, hu, hr⟩ := K2 0 (by omega)
      exact ⟨u, hu, hr⟩
/-- A struct of 4 field(s). -/
theorem op_struct4 {α β γ δ : Type} {e0 : α → Nat → T} {e1 : β → Nat → T} {e2 : γ → Nat → T} {e3 : δ → Nat → T} {ok0 : α → Prop} {ok1 : β → Prop} {ok2 : γ → Prop} {ok3 : δ → Prop} {f0 f1 f2 f3 : Field} (ht : P.underlying t = some (.struct #[f0, f1, f2, f3])) (hone : oneCellFields P #[f0, f1, f2, f3] = true) (hC : P.cellsOf t = 4) (h0 : Op P f0.type 1 e0 ok0) (h1 : Op P f1.type 1 e1 ok1) (h2 : Op P f2.type 1 e2 ok2) (h3 : Op P f3.type 1 e3 ok3) :
    Op P t 4 (enS4 e0 e1 e2 e3) (fun x => ok0 x.1 ∧ ok1 x.2.1 ∧ ok2 x.2.2.1 ∧ ok3 x.2.2.2) := by
  intro H en w base spare held fuel cs x h
  obtain ⟨hl, n, hf⟩ := trod_cells ht hone hC h
  match cs, hl with
  | [c0, c1, c2, c3], _ =>
    obtain ⟨y0, g0⟩ := hf 0 _ c0 rfl rfl
    obtain ⟨y1, g1⟩ := hf 1 _ c1 rfl rfl
    obtain ⟨y2, g2⟩ := hf 2 _ c2 rfl rfl
    obtain ⟨y3, g3⟩ := hf 3 _ c3 rfl rfl
    obtain ⟨a0, _, K0, o0⟩ := h0 H en w base spare held n _ _ g0
    obtain ⟨a1, _, K1, o1⟩ := h1 H en w base spare held n _ _ g1
    obtain ⟨a2, _, K2, o2⟩ := h2 H en w base spare held n _ _ g2
    obtain ⟨a3, _, K3, o3⟩ := h3 H en w base spare held n _ _ g3
    refine ⟨(a0, a1, a2, a3), rfl, fun j hj => ?_, o0, o1, o2, o3⟩
    match j, hj with
    | 0, _ =>
      obtain ⟨u, hu, hr⟩ := K0 0 (by omega)
      exact ⟨u, hu, hr⟩
    | 1, _ =>
      obtain ⟨u, hu, hr⟩ := K1 0 (by omega)
      exact ⟨u, hu, hr⟩
    | 2, _ =>
      obtain ⟨u, hu, hr⟩ := K2 0 (by omega)
      exact ⟨u, hu, hr⟩
    | 3, _ =>
      obtain ⟨u, hu, hr⟩ := K3 0 (by omega)
      exact ⟨u, hu, hr⟩
/-- A struct of 5 field(s). -/
theorem op_struct5 {α β γ δ ε : Type} {e0 : α → Nat → T} {e1 : β → Nat → T} {e2 : γ → Nat → T} {e3 : δ → Nat → T} {e4 : ε → Nat → T} {ok0 : α → Prop} {ok1 : β → Prop} {ok2 : γ → Prop} {ok3 : δ → Prop} {ok4 : ε → Prop} {f0 f1 f2 f3 f4 : Field} (ht : P.underlying t = some (.struct #[f0, f1, f2, f3, f4])) (hone : oneCellFields P #[f0, f1, f2, f3, f4] = true) (hC : P.cellsOf t = 5) (h0 : Op P f0.type 1 e0 ok0) (h1 : Op P f1.type 1 e1 ok1) (h2 : Op P f2.type 1 e2 ok2) (h3 : Op P f3.type 1 e3 ok3) (h4 : Op P f4.type 1 e4 ok4) :
    Op P t 5 (enS5 e0 e1 e2 e3 e4) (fun x => ok0 x.1 ∧ ok1 x.2.1 ∧ ok2 x.2.2.1 ∧ ok3 x.2.2.2.1 ∧ ok4 x.2.2.2.2) := by
  intro H en w base spare held fuel cs x h
  obtain ⟨hl, n, hf⟩ := trod_cells ht hone hC h
  match cs, hl with
  | [c0, c1, c2, c3, c4], _ =>
    obtain ⟨y0, g0⟩ := hf 0 _ c0 rfl rfl
    obtain ⟨y1, g1⟩ := hf 1 _ c1 rfl rfl
    obtain ⟨y2, g2⟩ := hf 2 _ c2 rfl rfl
    obtain ⟨y3, g3⟩ := hf 3 _ c3 rfl rfl
    obtain ⟨y4, g4⟩ := hf 4 _ c4 rfl rfl
    obtain ⟨a0, _, K0, o0⟩ := h0 H en w base spare held n _ _ g0
    obtain ⟨a1, _, K1, o1⟩ := h1 H en w base spare held n _ _ g1
    obtain ⟨a2, _, K2, o2⟩ := h2 H en w base spare held n _ _ g2
    obtain ⟨a3, _, K3, o3⟩ := h3 H en w base spare held n _ _ g3
    obtain ⟨a4, _, K4, o4⟩ := h4 H en w base spare held n _ _ g4
    refine ⟨(a0, a1, a2, a3, a4), rfl, fun j hj => ?_, o0, o1, o2, o3, o4⟩
    match j, hj with
    | 0, _ =>
      obtain ⟨u, hu, hr⟩ := K0 0 (by omega)
      exact ⟨u, hu, hr⟩
    | 1, _ =>
      obtain ⟨u, hu, hr⟩ := K1 0 (by omega)
      exact ⟨u, hu, hr⟩
    | 2, _ =>
      obtain ⟨u, hu, hr⟩ := K2 0 (by omega)
      exact ⟨u, hu, hr⟩
    | 3, _ =>
      obtain ⟨u, hu, hr⟩ := K3 0 (by omega)
      exact ⟨u, hu, hr⟩
    | 4, _ =>
      obtain ⟨u, hu, hr⟩ := K4 0 (by omega)
      exact ⟨u, hu, hr⟩
end
/-- An argument of a struct's type. -/
theorem arg_agg {H : Type} {en : TypeId × Value → H} {P : Program} {t : TypeId} {fs : Array Field} {w : World} {base : Nat} {spare : Nat → Bool} {held : Bool} {r : Reach} {b0 : Nat} {v : Value} {d : DataW H} {p : List MemPlace} {α : Type} {sz : Nat} {enc : α → Nat → T} {ok : α → Prop}
    (ht : P.underlying t = some (.struct fs)) (ho : Op P t sz enc ok) (hv : Value.okWide P w r b0 t v) (h : DataW.Trod en P w base spare held t v d p) : ∃ a cs, v = .agg (List.toArray cs) ∧ cs.length = sz ∧ (∀ j, j < sz → ∃ u, cs[j]? = some u ∧ Rd w (fun k => k < w.heap.size) (enc a j) u) ∧ ok a := by
  obtain ⟨cs, rfl, _⟩ := okWide_struct ht hv
  obtain ⟨fuel, hf⟩ := h
  obtain ⟨a, hl, hK, hok⟩ := ho H en w base spare held fuel _ _ hf
  exact ⟨a, cs.toList, by simp, by simpa [Value.cells] using hl, by simpa [Value.cells] using hK, hok⟩
/-- An argument of one cell. -/
theorem arg_one {H : Type} {en : TypeId × Value → H} {P : Program} {t : TypeId} {w : World} {base : Nat} {spare : Nat → Bool} {held : Bool} {v : Value} {d : DataW H} {p : List MemPlace} {α : Type} {enc : α → Nat → T} {ok : α → Prop}
    (ho : Op P t 1 enc ok) (hc : v.cells.toList = [v]) (h : DataW.Trod en P w base spare held t v d p) : ∃ a, Rd w (fun k => k < w.heap.size) (enc a 0) v ∧ ok a := by
  obtain ⟨fuel, hf⟩ := h
  obtain ⟨a, hl, hK, hok⟩ := ho H en w base spare held fuel _ _ hf
  obtain ⟨u, hu, hr⟩ := hK 0 (by omega)
  rw [hc] at hu
  cases hu
  exact ⟨a, hr, hok⟩
end Go.Eng
namespace Go.Eng
open Go Go.RowKit
theorem den_cells {c : Nat → T} {w : World} {E : Nat → EE} {S : Nat → Prop} {n : Nat} {cs : List Value} (hl : cs.length = n) (h : ∀ j, j < n → ∃ u, cs[j]? = some u ∧ Rd w S (c j) u) : denV E S w (.agg ((List.range n).map fun j => .t none (c j))) (.agg cs.toArray) := by
  refine ⟨cs, rfl, by simp [hl], fun j c hj => ?_⟩
  rw [List.getElem?_map] at hj
  obtain ⟨q, h1, rfl⟩ := Option.map_eq_some_iff.mp hj
  have hq : j < n := by have := (List.getElem?_eq_some_iff.1 h1).1; simpa using this
  rw [List.getElem?_range hq] at h1
  cases h1
  obtain ⟨u, h2, h3⟩ := h j hq
  exact ⟨u, h2, trivial, h3⟩
theorem denA_nil {E : Nat → EE} {S : Nat → Prop} {w : World} : denA E S w [] [] := ⟨rfl, fun j v h => by simp at h⟩
theorem denA_cons {E : Nat → EE} {S : Nat → Prop} {w : World} {a : AV} {u : Value} {al : List AV} {us : List Value} (h : denV E S w a u) (hr : denA E S w al us) : denA E S w (a :: al) (u :: us) := by
  refine ⟨by simp [hr.1], fun j v hj => ?_⟩
  match j with
  | 0 => cases hj; exact ⟨u, rfl, h⟩
  | j + 1 => exact hr.2 j v hj
theorem below_kept {w w' : World} (h : Kept (fun _ => False) w w') : Below w.heap.size w w' := ⟨h.os, h.tape, h.output, h.size, fun k hk => h.block k hk (fun h => h)⟩
end Go.Eng
