/- The engine, part D: reading memory; conditions; returns. -/
import Derived.Test.YtbbpoegdcecopaaGreatEngC
set_option linter.unusedVariables false
set_option linter.unusedSimpArgs false
namespace Go.Eng
open Go Go.RowKit

/-- A scalar needs no place. -/
def tv (r : Option Nat) : T → AC
  | .v x => .t none (.v x)
  | .sl sz enc xs => .t r (.sl sz enc xs)
theorem tv_den {E : Nat → EE} {S : Nat → Prop} {w : World} {r : Option Nat} {t : T} {u : Value} (hl : lives E r) (h : Rd w (place E S r) t u) : denC E S w (tv r t) u := by
  cases t with
  | v x => exact ⟨trivial, h⟩
  | sl sz enc xs => exact ⟨hl, h⟩
def tvs (r : Option Nat) (c : Nat → T) : Nat → Nat → List AC
  | _, 0 => []
  | i, m + 1 => tv r (c i) :: tvs r c (i + 1) m
theorem tvs_len (r : Option Nat) (c : Nat → T) : ∀ m i, (tvs r c i m).length = m
  | 0, i => rfl
  | m + 1, i => by simp [tvs, tvs_len r c m]
theorem tvs_get (r : Option Nat) (c : Nat → T) : ∀ m i j, j < m → (tvs r c i m)[j]? = some (tv r (c (i + j)))
  | 0, i, j, h => by omega
  | m + 1, i, 0, h => rfl
  | m + 1, i, j + 1, h => by
    simp only [tvs, List.getElem?_cons_succ]
    rw [tvs_get r c m (i + 1) j (by omega), Nat.add_right_comm, Nat.add_assoc]
theorem add_add (a : Addr) (n m : Nat) : (a.add n).add m = a.add (n + m) := by
  unfold Addr.add
  by_cases h1 : n = 0 <;> by_cases h2 : m = 0 <;> simp [h1, h2, Nat.add_assoc]
theorem add_flat (g o n : Nat) : (⟨g, o, none⟩ : Addr).add n = ⟨g, o + n, none⟩ := by
  unfold Addr.add
  by_cases h : n = 0 <;> simp [h]
/-- Values for what cells are. -/
theorem pickL {p : Nat → Value → Prop} : ∀ m, (∀ j, j < m → ∃ u, p j u) → ∃ us : List Value, us.length = m ∧ ∀ j u, us[j]? = some u → p j u
  | 0, h => ⟨[], rfl, fun j u h => by simp at h⟩
  | m + 1, h => by
    obtain ⟨us, hl, hu⟩ := pickL m (fun j hj => h j (by omega))
    obtain ⟨u, hp⟩ := h m (by omega)
    refine ⟨us ++ [u], by simp [hl], fun j v hv => ?_⟩
    by_cases hj : j < m
    · rw [List.getElem?_append_left (by omega)] at hv
      exact hu j v hv
    · have : j = m := by
        have := (List.getElem?_eq_some_iff.1 hv).1
        simp at this
        omega
      subst this
      rw [List.getElem?_append_right (by omega), hl] at hv
      simp at hv
      exact hv ▸ hp
def elemSz (P : Program) (t : TypeId) : Option Nat := match P.underlying t with | some (.slice e) => szOf P e | _ => none
def fieldOff (P : Program) (t : TypeId) (f : Nat) : Option Nat := match P.underlying t with | some (.struct fs) => (match fs[f]? with | some fl => (match szOf P fl.type with | some (_ + 1) => some fl.offset | _ => none) | none => none) | _ => none
theorem run_fieldAt {P : Program} {t : TypeId} {f off : Nat} (h : fieldOff P t f = some off) (w : World) (ad : Addr) : (Instr.fieldAt t (.pointer (some ad)) f).run P w = .ok (.pointer (some (ad.add off))) w := by
  unfold fieldOff at h
  split at h
  · rename_i fs hu
    split at h
    · rename_i fl hf
      split at h
      · rename_i n hs
        cases h
        simp [Instr.fieldAt, Sem.run_bind, run_underlying hu, hf, Instr.sureAddr, fieldPlace, run_szOf hs]
      · cases h
    · cases h
  · cases h
theorem run_indexAt {P : Program} {t : TypeId} {sz : Nat} (h : elemSz P t = some sz) (w : World) (ad : Addr) (len cap : Nat) (k : IntKind) (i : Int) (h0 : 0 ≤ i) (h1 : i < len) :
    (Instr.indexAt t (.slice (some ad) len cap) (.int k i)).run P w = .ok (.pointer (some (ad.add (i.toNat * sz)))) w := by
  unfold elemSz at h
  split at h
  · rename_i e hu
    simp [Instr.indexAt, asIntOf, Sem.run_bind, run_underlying hu, h0, h1, run_szOf h]
  · cases h

section rules
variable {cx : Cx} {s : St} {k : List Item} {R : Ending → World → Prop} {ops : Array Oper} {rest : List Oper} {dst : Option Nat} {ty : TypeId} {pos : String} {aft : Array Edge}
theorem p_load1 {t : TypeId} {x : Operand} {r : Option Nat} {c : Nat → T} {m : Nat} (ha : aggOf cx.P t = some false) (hx : s.ev x = some (.c (.pel r c m))) (hm : Nat.blt 0 m = true) :
    Ps cx s (.load t x) ((.c (tv r (c 0)))) :=
  fun A w E S hI hT => by
    obtain ⟨hl, ad, hu, hp, hc⟩ := ev_den hT hx
    obtain ⟨u, h1, h2⟩ := hc 0 (by simpa using hm)
    refine ⟨u, fun w' hW _ _ _ _ _ => ?_, tv_den hl h2⟩
    simp only [execOp, hu]
    rw [Sem.run_bind, run_load1 ha (hW.cell (show w.cell? ad = some u from h1))]
    rfl
theorem o_load1 {t : TypeId} {x : Operand} {r : Option Nat} {c : Nat → T} {m : Nat} (hd : okd dst cx.n = true) (ha : aggOf cx.P t = some false) (hx : s.ev x = some (.c (.pel r c m))) (hm : Nat.blt 0 m = true) :
    Os cx s ⟨dst, .load t x, ty, pos, aft, none⟩ (s.sets dst (some (.c (tv r (c 0))))) true := o_value hd (p_load1 ha hx hm)
theorem p_loadA {t : TypeId} {x : Operand} {r : Option Nat} {c : Nat → T} {m n : Nat} (ha : aggOf cx.P t = some true) (hn : szOf cx.P t = some n) (hx : s.ev x = some (.c (.pel r c m))) (hm : Nat.ble n m = true) :
    Ps cx s (.load t x) ((.agg (tvs r c 0 n))) :=
  fun A w E S hI hT => by
    have hm : n ≤ m := by simpa using hm
    obtain ⟨hl, ad, hu, hp, hc⟩ := ev_den hT hx
    obtain ⟨us, hul, hus⟩ := pickL n (fun j hj => hc j (by omega))
    refine ⟨.agg us.toArray, fun w' hW _ _ _ _ _ => ?_, us, rfl, by rw [hul, tvs_len], fun j c' hc' => ?_⟩
    · simp only [execOp, hu]
      rw [Sem.run_bind, run_loadA ha hn hul (fun j v hv => hW.cell (hus j v hv).1)]
      rfl
    · have hj : j < n := by have := (List.getElem?_eq_some_iff.1 hc').1; rwa [tvs_len] at this
      rw [tvs_get _ _ _ _ _ hj, Nat.zero_add] at hc'
      cases hc'
      have hj2 : us[j]? = some us[j] := List.getElem?_eq_getElem (by omega)
      exact ⟨_, hj2, tv_den hl (hus j _ hj2).2⟩
theorem o_loadA {t : TypeId} {x : Operand} {r : Option Nat} {c : Nat → T} {m n : Nat} (hd : okd dst cx.n = true) (ha : aggOf cx.P t = some true) (hn : szOf cx.P t = some n) (hx : s.ev x = some (.c (.pel r c m))) (hm : Nat.ble n m = true) :
    Os cx s ⟨dst, .load t x, ty, pos, aft, none⟩ (s.sets dst (some (.agg (tvs r c 0 n)))) true := o_value hd (p_loadA ha hn hx hm)
theorem p_load1b {t : TypeId} {x : Operand} {i o : Nat} {cells : List AC} {c : AC} (ha : aggOf cx.P t = some false) (hx : s.ev x = some (.c (.ptr i o))) (hb : alook s.ob i = some (.box cells)) (hc : cells[o]? = some c) :
    Ps cx s (.load t x) ((.c c)) :=
  fun A w E S hI hT => by
    obtain ⟨hlv, g, h1, h2⟩ := ev_den hT hx
    obtain ⟨_, _, g', e, cs, h3, _, h4, h5⟩ := hI.obs _ _ hb
    rw [h3] at h1
    cases h1
    obtain ⟨u, h6, h7⟩ := h5.2 _ _ hc
    refine ⟨u, fun w' hW _ _ _ _ _ => ?_, h7⟩
    simp only [execOp, h2]
    rw [Sem.run_bind, run_load1 ha (hW.cell ((cell_of_row w g o _ e _ h4).trans (by simpa using h6)))]
    rfl
theorem o_load1b {t : TypeId} {x : Operand} {i o : Nat} {cells : List AC} {c : AC} (hd : okd dst cx.n = true) (ha : aggOf cx.P t = some false) (hx : s.ev x = some (.c (.ptr i o))) (hb : alook s.ob i = some (.box cells)) (hc : cells[o]? = some c) :
    Os cx s ⟨dst, .load t x, ty, pos, aft, none⟩ (s.sets dst (some (.c c))) true := o_value hd (p_load1b ha hx hb hc)
theorem p_loadAb {t : TypeId} {x : Operand} {i o n : Nat} {cells : List AC} (ha : aggOf cx.P t = some true) (hn : szOf cx.P t = some n) (hx : s.ev x = some (.c (.ptr i o))) (hb : alook s.ob i = some (.box cells)) (hm : Nat.ble (o + n) cells.length = true) :
    Ps cx s (.load t x) ((.agg ((cells.drop o).take n))) :=
  fun A w E S hI hT => by
    have hm : o + n ≤ cells.length := by simpa using hm
    obtain ⟨hlv, g, h1, h2⟩ := ev_den hT hx
    obtain ⟨_, _, g', e, cs, h3, _, h4, h5⟩ := hI.obs _ _ hb
    rw [h3] at h1
    cases h1
    refine ⟨.agg ((cs.drop o).take n).toArray, fun w' hW _ _ _ _ _ => ?_, _, rfl, by simp [h5.1], fun j c' hc' => ?_⟩
    · simp only [execOp, h2]
      rw [Sem.run_bind, run_loadA (cs := (cs.drop o).take n) ha hn (by simp [h5.1]; omega) (fun j v hv => ?_)]
      · rfl
      · refine hW.cell ?_
        rw [add_flat, cell_of_row w g _ _ e _ h4]
        rw [List.getElem?_take] at hv
        split at hv
        · rw [List.getElem?_drop] at hv
          simpa using hv
        · cases hv
    · rw [List.getElem?_take] at hc'
      split at hc'
      · rename_i hj
        rw [List.getElem?_drop] at hc'
        obtain ⟨u, h6, h7⟩ := h5.2 _ _ hc'
        exact ⟨u, by rw [List.getElem?_take, if_pos hj, List.getElem?_drop]; exact h6, h7⟩
      · cases hc'
theorem o_loadAb {t : TypeId} {x : Operand} {i o n : Nat} {cells : List AC} (hd : okd dst cx.n = true) (ha : aggOf cx.P t = some true) (hn : szOf cx.P t = some n) (hx : s.ev x = some (.c (.ptr i o))) (hb : alook s.ob i = some (.box cells)) (hm : Nat.ble (o + n) cells.length = true) :
    Os cx s ⟨dst, .load t x, ty, pos, aft, none⟩ (s.sets dst (some (.agg ((cells.drop o).take n)))) true := o_value hd (p_loadAb ha hn hx hb hm)
/-- What an own row's element reads as. -/
theorem row_read {E : Nat → EE} {S : Nat → Prop} {w : World} {i e0 : Nat} {pn : Option Value} {deep : Bool} {α : Type} {sz : Nat} {enc : α → Nat → T} {xs : List α} (hl : (E i).live) (h : okOb E S w i (.row pn e0 deep sz enc xs)) :
    ∃ A cap, (E i).u = .slice A xs.length cap ∧ xs.length ≤ cap ∧ (xs ≠ [] → ∃ g, A = some ⟨g, 0, none⟩) ∧ ∀ g, A = some ⟨g, 0, none⟩ → ∀ e y, xs[e]? = some y → ∀ o, o < sz → ∃ u, w.cell? ⟨g, e * sz + o, none⟩ = some u ∧ denC E S w (tv (if deep = true then some i else none) (enc y o)) u := by
  have key : ∀ (e : TypeId) (cells : List Value), w.ownsRow 0 e sz (E i).u xs.length cells → (∀ e y, xs[e]? = some y → ∀ o, o < sz → ∃ u, cells[e * sz + o]? = some u ∧ denC E S w (tv (if deep = true then some i else none) (enc y o)) u) →
      ∃ A cap, (E i).u = .slice A xs.length cap ∧ xs.length ≤ cap ∧ (xs ≠ [] → ∃ g, A = some ⟨g, 0, none⟩) ∧ ∀ g, A = some ⟨g, 0, none⟩ → ∀ e y, xs[e]? = some y → ∀ o, o < sz → ∃ u, w.cell? ⟨g, e * sz + o, none⟩ = some u ∧ denC E S w (tv (if deep = true then some i else none) (enc y o)) u := by
    intro e cells ho hc
    have ho' := ho
    obtain ⟨h1, h2⟩ := ho
    rcases h2 with ⟨h2, h3⟩ | ⟨g, cap, cur, h2, _, h4, h5, _, h6, h7⟩
    · refine ⟨none, 0, by rw [h2, h3], by omega, fun hx => ?_, fun g hg => by cases hg⟩
      exact absurd (List.eq_nil_of_length_eq_zero h3) hx
    · refine ⟨some ⟨g, 0, none⟩, cap, h2, h5, fun _ => ⟨g, rfl⟩, fun g' hg e' y hy o ho => ?_⟩
      cases hg
      obtain ⟨u, h8, h9⟩ := hc e' y hy o ho
      refine ⟨u, ?_, h9⟩
      have := World.ownsRow.cells ho' (g := g) (by rw [h2]; rfl) _ _ h8
      rwa [add_flat, Nat.zero_add] at this
  unfold okOb at h
  obtain ⟨hrd, _, h⟩ := h
  cases deep
  · simp only [Bool.false_eq_true, if_false] at h
    obtain ⟨cells, ho, _, hc⟩ := h
    exact key e0 cells ho fun e y hy o hj => by
      obtain ⟨u, h1, h2⟩ := hc e y hy o hj
      exact ⟨u, h1, tv_den trivial h2⟩
  · simp only [if_true] at h
    obtain ⟨cells, G, ho, hf, hg, _, hc⟩ := h
    exact key e0 cells ho fun e y hy o hj => by
      obtain ⟨u, h1, h2⟩ := hc e y hy o hj
      refine ⟨u, h1, tv_den ⟨hl, hrd⟩ ?_⟩
      exact Rd.move (fun k q => (hg e o k q).1) (fun _ _ => rfl) _ _ (Ow.rd _ _ h2)
theorem p_load1o {t : TypeId} {x : Operand} {i e sz o e0 : Nat} {pn : Option Value} {deep : Bool} {α : Type} {enc : α → Nat → T} {xs : List α} {y : α} (ha : aggOf cx.P t = some false) (hx : s.ev x = some (.c (.poe i e sz o))) (hb : alook s.ob i = some (.row pn e0 deep sz enc xs)) (ho : Nat.blt o sz = true) (hy : xs[e]? = some y) :
    Ps cx s (.load t x) ((.c (tv (if deep = true then some i else none) (enc y o)))) :=
  fun A w E S hI hT => by
    obtain ⟨hlv, g, n, cap, h1, h2⟩ := ev_den hT hx
    obtain ⟨hl, hb⟩ := hI.obs _ _ hb
    obtain ⟨A', cap', h3, _, _, h5⟩ := row_read hl hb
    rw [h1] at h3
    cases h3
    obtain ⟨u, h6, h7⟩ := h5 g rfl e y hy o (by simpa using ho)
    refine ⟨u, fun w' hW _ _ _ _ _ => ?_, h7⟩
    simp only [execOp, h2]
    rw [Sem.run_bind, run_load1 ha (hW.cell h6)]
    rfl
theorem o_load1o {t : TypeId} {x : Operand} {i e sz o e0 : Nat} {pn : Option Value} {deep : Bool} {α : Type} {enc : α → Nat → T} {xs : List α} {y : α} (hd : okd dst cx.n = true) (ha : aggOf cx.P t = some false) (hx : s.ev x = some (.c (.poe i e sz o))) (hb : alook s.ob i = some (.row pn e0 deep sz enc xs)) (ho : Nat.blt o sz = true) (hy : xs[e]? = some y) :
    Os cx s ⟨dst, .load t x, ty, pos, aft, none⟩ (s.sets dst (some (.c (tv (if deep = true then some i else none) (enc y o))))) true := o_value hd (p_load1o ha hx hb ho hy)
theorem p_loadAo {t : TypeId} {x : Operand} {i e sz e0 : Nat} {pn : Option Value} {deep : Bool} {α : Type} {enc : α → Nat → T} {xs : List α} {y : α} (ha : aggOf cx.P t = some true) (hn : szOf cx.P t = some sz) (hx : s.ev x = some (.c (.poe i e sz 0))) (hb : alook s.ob i = some (.row pn e0 deep sz enc xs)) (hy : xs[e]? = some y) :
    Ps cx s (.load t x) ((.agg (tvs (if deep = true then some i else none) (enc y) 0 sz))) :=
  fun A w E S hI hT => by
    obtain ⟨hlv, g, n, cap, h1, h2⟩ := ev_den hT hx
    obtain ⟨hl, hb⟩ := hI.obs _ _ hb
    obtain ⟨A', cap', h3, _, _, h5⟩ := row_read hl hb
    rw [h1] at h3
    cases h3
    obtain ⟨us, hul, hus⟩ := pickL sz (fun j hj => h5 g rfl e y hy j hj)
    refine ⟨.agg us.toArray, fun w' hW _ _ _ _ _ => ?_, us, rfl, by rw [hul, tvs_len], fun j c' hc' => ?_⟩
    · simp only [execOp, h2]
      rw [Sem.run_bind, run_loadA ha hn hul (fun j v hv => hW.cell (by rw [add_flat]; exact (hus j v hv).1))]
      rfl
    · have hj : j < sz := by have := (List.getElem?_eq_some_iff.1 hc').1; rwa [tvs_len] at this
      rw [tvs_get _ _ _ _ _ hj, Nat.zero_add] at hc'
      cases hc'
      have hj2 : us[j]? = some us[j] := List.getElem?_eq_getElem (by omega)
      exact ⟨_, hj2, (hus j _ hj2).2⟩
theorem o_loadAo {t : TypeId} {x : Operand} {i e sz e0 : Nat} {pn : Option Value} {deep : Bool} {α : Type} {enc : α → Nat → T} {xs : List α} {y : α} (hd : okd dst cx.n = true) (ha : aggOf cx.P t = some true) (hn : szOf cx.P t = some sz) (hx : s.ev x = some (.c (.poe i e sz 0))) (hb : alook s.ob i = some (.row pn e0 deep sz enc xs)) (hy : xs[e]? = some y) :
    Os cx s ⟨dst, .load t x, ty, pos, aft, none⟩ (s.sets dst (some (.agg (tvs (if deep = true then some i else none) (enc y) 0 sz)))) true := o_value hd (p_loadAo ha hn hx hb hy)
theorem p_field {t : TypeId} {x : Operand} {f off : Nat} {r : Option Nat} {c : Nat → T} {m : Nat} (hf : fieldOff cx.P t f = some off) (hx : s.ev x = some (.c (.pel r c m))) :
    Ps cx s (.fieldAddr t x f) ((.c (.pel r (fun j => c (off + j)) (m - off)))) :=
  fun A w E S hI hT => by
    obtain ⟨hl, ad, hu, hp, hc⟩ := ev_den hT hx
    refine ⟨.pointer (some (ad.add off)), fun w' hW _ _ _ _ _ => ?_, hl, _, rfl, by rw [add_block]; exact hp, fun j hj => ?_⟩
    · simp only [execOp, hu]
      rw [Sem.run_bind, run_fieldAt hf]
      rfl
    · rw [add_add]
      exact hc _ (by omega)
theorem o_field {t : TypeId} {x : Operand} {f off : Nat} {r : Option Nat} {c : Nat → T} {m : Nat} (hd : okd dst cx.n = true) (hf : fieldOff cx.P t f = some off) (hx : s.ev x = some (.c (.pel r c m))) :
    Os cx s ⟨dst, .fieldAddr t x f, ty, pos, aft, none⟩ (s.sets dst (some (.c (.pel r (fun j => c (off + j)) (m - off))))) true := o_value hd (p_field hf hx)
theorem p_fieldb {t : TypeId} {x : Operand} {f off i o : Nat} (hf : fieldOff cx.P t f = some off) (hx : s.ev x = some (.c (.ptr i o))) :
    Ps cx s (.fieldAddr t x f) ((.c (.ptr i (o + off)))) :=
  fun A w E S hI hT => by
    obtain ⟨hlv, g, h1, h2⟩ := ev_den hT hx
    refine ⟨.pointer (some ⟨g, o + off, none⟩), fun w' hW _ _ _ _ _ => ?_, hlv, g, h1, rfl⟩
    simp only [execOp, h2]
    rw [Sem.run_bind, run_fieldAt hf, add_flat]
    rfl
theorem o_fieldb {t : TypeId} {x : Operand} {f off i o : Nat} (hd : okd dst cx.n = true) (hf : fieldOff cx.P t f = some off) (hx : s.ev x = some (.c (.ptr i o))) :
    Os cx s ⟨dst, .fieldAddr t x f, ty, pos, aft, none⟩ (s.sets dst (some (.c (.ptr i (o + off))))) true := o_value hd (p_fieldb hf hx)
theorem p_fieldo {t : TypeId} {x : Operand} {f off i e sz o : Nat} (hf : fieldOff cx.P t f = some off) (hx : s.ev x = some (.c (.poe i e sz o))) :
    Ps cx s (.fieldAddr t x f) ((.c (.poe i e sz (o + off)))) :=
  fun A w E S hI hT => by
    obtain ⟨hlv, g, n, cap, h1, h2⟩ := ev_den hT hx
    refine ⟨.pointer (some ⟨g, e * sz + (o + off), none⟩), fun w' hW _ _ _ _ _ => ?_, hlv, g, n, cap, h1, rfl⟩
    simp only [execOp, h2]
    rw [Sem.run_bind, run_fieldAt hf, add_flat, Nat.add_assoc]
    rfl
theorem o_fieldo {t : TypeId} {x : Operand} {f off i e sz o : Nat} (hd : okd dst cx.n = true) (hf : fieldOff cx.P t f = some off) (hx : s.ev x = some (.c (.poe i e sz o))) :
    Os cx s ⟨dst, .fieldAddr t x f, ty, pos, aft, none⟩ (s.sets dst (some (.c (.poe i e sz (o + off))))) true := o_value hd (p_fieldo hf hx)
theorem p_index {t : TypeId} {x y : Operand} {r : Option Nat} {α : Type} {sz : Nat} {enc : α → Nat → T} {xs : List α} {kk : IntKind} {n : Int} {z : α} (hs : elemSz cx.P t = some sz) (hx : s.ev x = some (.c (.t r (.sl sz enc xs)))) (hy : s.ev y = some (sc (.int kk n))) (h0 : 0 ≤ n) (hz : xs[n.toNat]? = some z) :
    Ps cx s (.indexAddr t x y) ((.c (.pel r (enc z) sz))) := by
  have h1 : n < xs.length := by have := (List.getElem?_eq_some_iff.1 hz).1; omega
  refine fun A w E S hI hT => ?_
  obtain ⟨hl, A', cap, hu, hcap, hc⟩ := ev_den hT hx
  have h2 := sc_den (ev_den hT hy)
  obtain ⟨ad, rfl, hp, hc⟩ := hc _ _ hz
  refine ⟨.pointer (some (ad.add (n.toNat * sz))), fun w' hW _ _ _ _ _ => ?_, hl, _, rfl, by rw [add_block]; exact hp, fun j hj => ?_⟩
  · simp only [execOp, hu, h2]
    rw [Sem.run_bind, run_indexAt hs w' ad _ _ _ _ h0 h1]
    rfl
  · rw [add_add]
    exact hc j hj
theorem o_index {t : TypeId} {x y : Operand} {r : Option Nat} {α : Type} {sz : Nat} {enc : α → Nat → T} {xs : List α} {kk : IntKind} {n : Int} {z : α} (hd : okd dst cx.n = true) (hs : elemSz cx.P t = some sz) (hx : s.ev x = some (.c (.t r (.sl sz enc xs)))) (hy : s.ev y = some (sc (.int kk n))) (h0 : 0 ≤ n) (hz : xs[n.toNat]? = some z) :
    Os cx s ⟨dst, .indexAddr t x y, ty, pos, aft, none⟩ (s.sets dst (some (.c (.pel r (enc z) sz)))) true := o_value hd (p_index hs hx hy h0 hz)
theorem p_indexo {t : TypeId} {x y : Operand} {i e0 : Nat} {pn : Option Value} {deep : Bool} {α : Type} {sz : Nat} {enc : α → Nat → T} {xs : List α} {kk : IntKind} {n : Int} (hs : elemSz cx.P t = some sz) (hx : s.ev x = some (.c (.own i))) (hb : alook s.ob i = some (.row pn e0 deep sz enc xs)) (hy : s.ev y = some (sc (.int kk n))) (h0 : 0 ≤ n) (h1 : n < xs.length) :
    Ps cx s (.indexAddr t x y) ((.c (.poe i n.toNat sz 0))) := by
  refine fun A w E S hI hT => ?_
  obtain ⟨hlv, hu, _⟩ := ev_den hT hx
  have h2 := sc_den (ev_den hT hy)
  obtain ⟨hl, hb⟩ := hI.obs _ _ hb
  obtain ⟨A', cap', h3, _, hne, h5⟩ := row_read hl hb
  obtain ⟨g, rfl⟩ := hne (by intro e; subst e; simp at h1; omega)
  refine ⟨.pointer (some ⟨g, n.toNat * sz + 0, none⟩), fun w' hW _ _ _ _ _ => ?_, hlv, g, _, _, h3, rfl⟩
  simp only [execOp, hu, h2, h3]
  rw [Sem.run_bind, run_indexAt hs w' _ _ _ _ _ h0 h1, add_flat, Nat.zero_add]
  rfl
theorem o_indexo {t : TypeId} {x y : Operand} {i e0 : Nat} {pn : Option Value} {deep : Bool} {α : Type} {sz : Nat} {enc : α → Nat → T} {xs : List α} {kk : IntKind} {n : Int} (hd : okd dst cx.n = true) (hs : elemSz cx.P t = some sz) (hx : s.ev x = some (.c (.own i))) (hb : alook s.ob i = some (.row pn e0 deep sz enc xs)) (hy : s.ev y = some (sc (.int kk n))) (h0 : 0 ≤ n) (h1 : n < xs.length) :
    Os cx s ⟨dst, .indexAddr t x y, ty, pos, aft, none⟩ (s.sets dst (some (.c (.poe i n.toNat sz 0)))) true := o_value hd (p_indexo hs hx hb hy h0 h1)
theorem run_lenS {P : Program} {t e : TypeId} (h : P.underlying t = some (.slice e)) (w : World) (ty : TypeId) (A : Option Addr) (n c : Nat) : (Builtin.len_ #[t] ty #[.slice A n c]).run P w = .ok (.int .i64 n) w := by
  simp [Builtin.len_, run_underlying h, goInt]
def isSl (P : Program) (t : TypeId) : Bool := match P.underlying t with | some (.slice _) => true | _ => false
theorem isSl_iff {P : Program} {t : TypeId} (h : isSl P t = true) : ∃ e, P.underlying t = some (.slice e) := by
  unfold isSl at h
  split at h
  · exact ⟨_, ‹_›⟩
  · cases h
theorem len_exec {gd : Option (Nat × Bool)} {P : Program} {t : TypeId} (h : isSl P t = true) {A : Option Addr} {n c : Nat} {a : Act} {x : Operand} (hx : a.eval x = .slice A n c) (w : World) :
    (execOp a.eval ⟨dst, .call { callee := .builtin .len, args := #[x], argTypes := #[t] }, ty, pos, aft, gd⟩).run P w = .ok (.value (.int .i64 n)) w := by
  obtain ⟨e, he⟩ := isSl_iff h
  simp [execOp, resolve, invoke, builtin, hx, run_lenS he]
theorem p_len {t : TypeId} {x : Operand} {r : Option Nat} {α : Type} {sz : Nat} {enc : α → Nat → T} {xs : List α} (ht : isSl cx.P t = true) (hx : s.ev x = some (.c (.t r (.sl sz enc xs)))) :
    Ps cx s (.call { callee := .builtin .len, args := #[x], argTypes := #[t] }) ((sc (.int .i64 xs.length))) :=
  fun A w E S hI hT => by
    obtain ⟨hl, A', cap, hu, _⟩ := ev_den hT hx
    exact ⟨_, fun w' hW _ _ _ _ _ => len_exec ht hu w', sc_mk rfl⟩
theorem o_len {t : TypeId} {x : Operand} {r : Option Nat} {α : Type} {sz : Nat} {enc : α → Nat → T} {xs : List α} (hd : okd dst cx.n = true) (ht : isSl cx.P t = true) (hx : s.ev x = some (.c (.t r (.sl sz enc xs)))) :
    Os cx s ⟨dst, .call { callee := .builtin .len, args := #[x], argTypes := #[t] }, ty, pos, aft, none⟩ (s.sets dst (some (sc (.int .i64 xs.length)))) true := o_value hd (p_len ht hx)
theorem p_leno {t : TypeId} {x : Operand} {i e0 : Nat} {pn : Option Value} {deep : Bool} {α : Type} {sz : Nat} {enc : α → Nat → T} {xs : List α} (ht : isSl cx.P t = true) (hx : s.ev x = some (.c (.own i))) (hb : alook s.ob i = some (.row pn e0 deep sz enc xs)) :
    Ps cx s (.call { callee := .builtin .len, args := #[x], argTypes := #[t] }) ((sc (.int .i64 xs.length))) :=
  fun A w E S hI hT => by
    obtain ⟨hlv, hu, _⟩ := ev_den hT hx
    obtain ⟨hl, hb⟩ := hI.obs _ _ hb
    obtain ⟨A', cap', h3, _⟩ := row_read hl hb
    exact ⟨_, fun w' hW _ _ _ _ _ => len_exec ht (hu.trans h3) w', sc_mk rfl⟩
theorem o_leno {t : TypeId} {x : Operand} {i e0 : Nat} {pn : Option Value} {deep : Bool} {α : Type} {sz : Nat} {enc : α → Nat → T} {xs : List α} (hd : okd dst cx.n = true) (ht : isSl cx.P t = true) (hx : s.ev x = some (.c (.own i))) (hb : alook s.ob i = some (.row pn e0 deep sz enc xs)) :
    Os cx s ⟨dst, .call { callee := .builtin .len, args := #[x], argTypes := #[t] }, ty, pos, aft, none⟩ (s.sets dst (some (sc (.int .i64 xs.length)))) true := o_value hd (p_leno ht hx hb)
theorem p_lenc {t : TypeId} {x : Operand} {A : Option Addr} {n c : Nat} (ht : isSl cx.P t = true) (hx : s.ev x = some (sc (.slice A n c))) :
    Ps cx s (.call { callee := .builtin .len, args := #[x], argTypes := #[t] }) ((sc (.int .i64 n))) :=
  fun A w E S hI hT => ⟨_, fun w' hW _ _ _ _ _ => len_exec ht (sc_den (ev_den hT hx)) w', sc_mk rfl⟩
theorem o_lenc {t : TypeId} {x : Operand} {A : Option Addr} {n c : Nat} (hd : okd dst cx.n = true) (ht : isSl cx.P t = true) (hx : s.ev x = some (sc (.slice A n c))) :
    Os cx s ⟨dst, .call { callee := .builtin .len, args := #[x], argTypes := #[t] }, ty, pos, aft, none⟩ (s.sets dst (some (sc (.int .i64 n)))) true := o_value hd (p_lenc ht hx)
theorem p_lens {t : TypeId} {x : Operand} {b : ByteArray} (ht : cx.P.underlying t = some .string) (hx : s.ev x = some (sc (.string b))) :
    Ps cx s (.call { callee := .builtin .len, args := #[x], argTypes := #[t] }) ((sc (.int .i64 b.size))) :=
  fun A w E S hI hT => by
    refine ⟨_, fun w' hW _ _ _ _ _ => ?_, sc_mk rfl⟩
    simp [execOp, resolve, invoke, builtin, sc_den (ev_den hT hx), Builtin.len_, run_underlying ht, goInt]
theorem o_lens {t : TypeId} {x : Operand} {b : ByteArray} (hd : okd dst cx.n = true) (ht : cx.P.underlying t = some .string) (hx : s.ev x = some (sc (.string b))) :
    Os cx s ⟨dst, .call { callee := .builtin .len, args := #[x], argTypes := #[t] }, ty, pos, aft, none⟩ (s.sets dst (some (sc (.int .i64 b.size)))) true := o_value hd (p_lens ht hx)
def exV : Bool × List AC → Option AV
  | (true, cs) => some (.agg cs)
  | (false, [c]) => some (.c c)
  | _ => none
theorem exV_den {E : Nat → EE} {S : Nat → Prop} {w : World} {b : Bool} {cs : List AC} {v : AV} {u : Value} (h : exV (b, cs) = some v) (hd : denB E S w b cs u) : denV E S w v u := by
  unfold denB at hd
  cases b with
  | true => cases h; exact hd
  | false =>
    match cs, h with
    | [c], h =>
      cases h
      obtain ⟨_, hd⟩ := hd
      obtain ⟨u', h1, h2⟩ := hd 0 c rfl
      simp at h1
      exact h1 ▸ h2
theorem p_extract {x : Operand} {j : Nat} {vs : List (Bool × List AC)} {y : Bool × List AC} {v : AV} (hx : s.ev x = some (.tup vs)) (hy : vs[j]? = some y) (hv : exV y = some v) :
    Ps cx s (.extract x j) (v) :=
  fun A w E S hI hT => by
    obtain ⟨us, hu, hl, hus⟩ := ev_den hT hx
    obtain ⟨b, cs⟩ := y
    obtain ⟨u', h1, h2⟩ := hus _ _ _ hy
    refine ⟨u', fun w' hW _ _ _ _ _ => ?_, exV_den hv h2⟩
    simp [execOp, hu, Instr.extract, h1]
theorem o_extract {x : Operand} {j : Nat} {vs : List (Bool × List AC)} {y : Bool × List AC} {v : AV} (hd : okd dst cx.n = true) (hx : s.ev x = some (.tup vs)) (hy : vs[j]? = some y) (hv : exV y = some v) :
    Os cx s ⟨dst, .extract x j, ty, pos, aft, none⟩ (s.sets dst (some v)) true := o_value hd (p_extract hx hy hv)
theorem t_cond {c : Operand} {x y : Code} {b : Bool} (hc : s.ev c = some (sc (.bool b))) (h1 : b = true → Wt cx s (.code x :: k) R) (h2 : b = false → Wt cx s (.code y :: k) R) : Wt cx s (.code (.cond c x y) :: k) R := by
  intro a w hg
  have hg0 := hg
  obtain ⟨E, S, hI, hT, _⟩ := hg
  have hb := sc_den (ev_den hT hc)
  intro fr cs hf hk
  have : Wt cx s (.code (if b = true then x else y) :: k) R := by
    cases b
    · exact h2 rfl
    · exact h1 rfl
  obtain ⟨e, w', fr', hR, hcm, hfr, hl⟩ := this a w hg0 fr cs hf hk
  exact ⟨e, w', fr', hR, Comes.of_steps (.one (step_cond hb)) hcm, hfr, hl⟩
end rules
end Go.Eng
