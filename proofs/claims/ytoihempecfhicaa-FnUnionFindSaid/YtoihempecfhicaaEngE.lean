/- The engine: the parts Za, Zb, Zc, Zd, Ze, Zf, Zg, Zh, Zi, Zj. -/
import Derived.Test.YtoihempecfhicaaEngD
import Derived.Laws.Small
/- The engine, part Za: views of a row of the call's own; a row handed over for good. -/
set_option linter.unusedVariables false
set_option linter.unusedSimpArgs false
namespace Go.Eng
open Go Go.RowKit
section rules
variable {cx : Cx} {s : St} {k : List Item} {R : Ending → World → Prop} {dst : Option Nat} {ty : TypeId} {pos : String} {aft : Array Edge}
end rules
end Go.Eng

/- Models: sorted lists without repetitions. -/
set_option linter.unusedVariables false
set_option linter.unusedSimpArgs false
namespace Go.Eng
open Go Go.RowKit
/-! ### neighbours that are equal, once each -/
def compactI : List Int → List Int
  | [] => []
  | [x] => [x]
  | x :: y :: l => if x = y then compactI (y :: l) else x :: compactI (y :: l)
/-! ### put in its place, unless it is there -/
def putI : List Int → Int → List Int
  | [], x => [x]
  | y :: l, x => if y < x then y :: putI l x else if y = x then y :: l else x :: y :: l
/-- A list's numbers in ascending order, each once. -/
def setI (l : List Int) : List Int := l.foldl putI []
/-! ### sorted -/
def sortI (l : List Int) : List Int := l.mergeSort (fun a b => decide (a ≤ b))
end Go.Eng

/- The engine, part Zc: whole numbers converted, a view cleared. -/
set_option linter.unusedVariables false
set_option linter.unusedSimpArgs false
namespace Go.Eng
open Go Go.RowKit
section rules
variable {cx : Cx} {s : St} {dst : Option Nat} {ty : TypeId} {pos : String} {aft : Array Edge}
theorem p_conv {t t' : TypeId} {d : TypeDesc} {x : Operand} {k k' : IntKind} {n : Int} (hs : cx.P.underlying t = some d) (hd : cx.P.underlying t' = some (.int k')) (hx : s.ev x = some (sc (.int k n))) :
    Ps cx s (.convert t t' x) (sc (.int k' (k'.wrap n))) :=
  fun A w E S hI hT => by
    refine ⟨_, fun w' hW _ _ _ _ _ => ?_, sc_mk rfl⟩
    simp only [execOp, sc_den (ev_den hT hx)]
    have : (convert t t' (.int k n)).run cx.P w' = .ok (.int k' (k'.wrap n)) w' := by simp [convert, run_underlying hs, run_underlying hd, Conv.intToInt]
    rw [Sem.run_bind, this]
    rfl
theorem o_conv {t t' : TypeId} {d : TypeDesc} {x : Operand} {k k' : IntKind} {n : Int} (hd0 : okd dst cx.n = true) (hs : cx.P.underlying t = some d) (hd : cx.P.underlying t' = some (.int k')) (hx : s.ev x = some (sc (.int k n))) :
    Os cx s ⟨dst, .convert t t' x, ty, pos, aft, none⟩ (s.sets dst (some (sc (.int k' (k'.wrap n))))) true := o_value hd0 (p_conv hs hd hx)
end rules
end Go.Eng

/- The engine, part Zd: a pinned row whose pin is forgotten. -/
set_option linter.unusedVariables false
set_option linter.unusedSimpArgs false
namespace Go.Eng
open Go Go.RowKit
end Go.Eng

/- Models: insertion sort, and neighbours that are equal taken out. -/
set_option linter.unusedVariables false
set_option linter.unusedSimpArgs false
namespace Go.Eng
open Go Go.RowKit
def srtI (l q : List Int) (m : Nat) : Prop := q.Perm l ∧ q.length = l.length ∧ ∀ (p s : Nat) (x y : Int), p < s → s < m → q[p]? = some x → q[s]? = some y → x ≤ y
def insI (l r : List Int) (j m : Nat) : Prop := r.Perm l ∧ r.length = l.length ∧ j ≤ m ∧ ∀ (p s : Nat) (x y : Int), p < s → s ≤ m → s ≠ j → r[p]? = some x → r[s]? = some y → x ≤ y
/-- Behind the k elements that are kept the list is as it was. -/
def cmpK (l c : List Int) (k j : Nat) : Prop := c.length = l.length ∧ k < j ∧ j ≤ l.length ∧ c.take k = compactI (l.take j) ∧ c.drop k = l.drop k
end Go.Eng

/- The engine, part Zf: a slice of one element written out, a slice appended, an object renamed. -/
set_option linter.unusedVariables false
set_option linter.unusedSimpArgs false
namespace Go.Eng
open Go Go.RowKit
section rules
variable {cx : Cx} {s : St} {dst : Option Nat} {ty : TypeId} {pos : String} {aft : Array Edge}
theorem run_append_none {P : Program} {t e ty : TypeId} {i : TypeInfo} (ht : P.underlying t = some (.slice e)) (hi : P.info? e = some i) (b : Option Addr) (n c cc : Nat) (h : n ≤ c) (w : World) :
    (Builtin.append_ #[t, t] ty #[.slice b n c, .slice none 0 cc]).run P w = .ok (.slice b n c) w := by
  cases b <;> simp [Builtin.append_, run_underlying ht, sizeOf, typeInfo, hi, Builtin.lenOf, Builtin.firstCells, h, storeCells]
/-- What reads as scalars alone, appended. -/
theorem o_appendG (i : Nat) {pn : Option Value} {t e : TypeId} {sz by' : Nat} {x y : Operand} {α : Type} {enc : α → Nat → T} {xs ys : List α} (hd : okd dst cx.n = true) (he : elemI cx.P t = some (e, sz, by')) (hpos : Nat.blt 0 sz = true)
    (hx : s.ev x = some (.c (.own i))) (hb : alook s.ob i = some (.row pn e true sz enc xs)) (hyd : ∀ (a : Act) (E : Nat → EE) (S : Nat → Prop) (w : World), Inv cx s.ob s.nx E S w → denT E S w s.tm a.tmps → ∃ S', Rd w S' (.sl sz enc ys) (a.eval y)) (hsc : ∀ y j, ∃ v, enc y j = .v v) (hlen : (xs.length + ys.length) * by' ≤ 140737488355328) (hl63 : xs.length + ys.length ≤ 9223372036854775807) :
    Os cx s ⟨dst, .call { callee := .builtin .append, args := #[x, y], argTypes := #[t, t] }, ty, pos, aft, none⟩ ((⟨cutT (cutP i []) s.tm, (i, some (.row none e true sz enc (xs ++ ys))) :: dels [] (cutO (cutP i []) s.ob), s.nx⟩ : St).sets dst (some (.c (.own i)))) false := by
  refine o_gen fun a w hg => ?_
  obtain ⟨E, S, hI, hT, hn, hdf⟩ := hg
  have hpos : 0 < sz := by simpa using hpos
  obtain ⟨ti, tz, t1, t2, t3, t4, t5, t6⟩ := elemI_get he
  obtain ⟨hli, hux, _⟩ := ev_den hT hx
  obtain ⟨_, A, cap, huy, hcap, hrd'⟩ := hyd a E S w hI hT
  obtain ⟨_, hrd, _, ho⟩ := hI.obs _ _ hb
  simp only [if_true] at ho
  obtain ⟨cells, G, h1, h2, h3, h4, h5⟩ := ho
  have hexec : ∀ (v1 : Value) (w1 : World), (Builtin.append_ #[t, t] ty #[(E i).u, .slice A ys.length cap]).run cx.P w = .ok v1 w1 → (execOp a.eval ⟨dst, .call { callee := .builtin .append, args := #[x, y], argTypes := #[t, t] }, ty, pos, aft, none⟩).run cx.P w = .ok (.value v1) w1 := fun v1 w1 hr => by
    have hm : Array.map a.eval #[x, y] = #[(E i).u, .slice A ys.length cap] := by simp [hux, huy]
    simp only [execOp, resolve, invoke, builtin, hm, Sem.run_bind, Sem.run_pure, Result.andThen_ok]
    rw [hr]
    rfl
  have fin : ∀ (v1 : Value) (w1 : World) (news : List Value), w1.ownsRow 0 e sz v1 (xs.length + ys.length) (cells ++ news) → (∀ b y', ys[b]? = some y' → ∀ c, c < sz → ∃ u', news[b * sz + c]? = some u' ∧ Ow w1 (enc y' c) u' (fun _ => False)) → w.heap.size ≤ w1.heap.size → w1.os = w.os → w1.tape = w.tape → w1.output = w.output → (∀ q, q < w.heap.size → some q ≠ (E i).u.ownBlock → w1.heap[q]? = w.heap[q]?) → (v1.ownBlock = (E i).u.ownBlock ∨ v1.ownBlock = some w.heap.size) → v1.oneCell' = true →
      Gm cx ((⟨cutT (cutP i []) s.tm, (i, some (.row none e true sz enc (xs ++ ys))) :: dels [] (cutO (cutP i []) s.ob), s.nx⟩ : St).sets dst (some (.c (.own i)))) (a.put dst v1) w1 := fun v1 w1 news r2 hnw r3 ros rt rop rb r5 hone => by
    have hkeep : ∀ q, q < w.heap.size → ¬ (E i).F q → w1.heap[q]? = w.heap[q]? := fun q hq hf => rb q hq fun hb' => hf (h2 q hb'.symm)
    have hne1 : ∀ q, q < w.heap.size → some q ≠ (E i).u.ownBlock → v1.ownBlock ≠ some q := fun q hq hn' hv => by
      rcases r5 with h5 | h5
      · rw [h5] at hv; exact hn' hv.symm
      · rw [h5] at hv; cases hv; omega
    have hfresh : v1.ownBlock = some w.heap.size → w.heap.size < w1.heap.size := fun hv => by
      rcases r2.2 with ⟨e1, _⟩ | ⟨g, cap, cur, e1, _, e2, _⟩
      · rw [e1] at hv; simp [Value.ownBlock] at hv
      · rw [e1] at hv
        simp [Value.ownBlock] at hv
        subst hv
        exact (Array.getElem?_eq_some_iff.1 e2).1
    have hlen' : (xs ++ ys).length = xs.length + ys.length := by simp
    have hobj : okOb (takeE E i [] ⟨v1, fun k => (E i).F k ∨ v1.ownBlock = some k, True, True⟩) S w1 i (.row none e true sz enc (xs ++ ys)) := by
      refine ⟨by rw [takeE_at]; trivial, fun v hv => (by cases hv), ?_⟩
      rw [takeE_at]
      simp only [if_true]
      refine ⟨cells ++ news, fun b c k => if b < xs.length then G b c k else False, by rw [hlen']; exact r2, fun g hg => .inr hg, fun b c k hk => ?_, fun b c b' c' k hk hk' => ?_, fun b x' hx' c hc => ?_⟩
      · dsimp only at hk
        split at hk
        · obtain ⟨e1, e2⟩ := h3 b c k hk
          exact ⟨.inl e1, hne1 k (hI.fp i hli k e1).1 (fun e => e2 e.symm)⟩
        · exact hk.elim
      · dsimp only at hk hk'
        split at hk <;> split at hk'
        · exact h4 b c b' c' k hk hk'
        · exact hk'.elim
        · exact hk.elim
        · exact hk.elim
      · by_cases hb1 : b < xs.length
        · rw [List.getElem?_append_left hb1] at hx'
          obtain ⟨u', e1, e2⟩ := h5 b x' hx' c hc
          refine ⟨u', ?_, Ow.move _ _ (fun k hk => by dsimp only; rw [if_pos hb1]; exact hk) (fun k hk => ?_) e2⟩
          · rw [List.getElem?_append_left (by rw [h1.1]; exact mulLt hb1 hc)]
            exact e1
          · obtain ⟨e3, e4⟩ := h3 b c k hk
            exact rb k (hI.fp i hli k e3).1 (fun e => e4 e.symm)
        · rw [List.getElem?_append_right (by omega)] at hx'
          obtain ⟨u', e1, e2⟩ := hnw _ x' hx' c hc
          refine ⟨u', ?_, Ow.move _ _ (fun _ q => q.elim) (fun _ q => q.elim) e2⟩
          have hle : xs.length * sz ≤ b * sz := Nat.mul_le_mul_right _ (by omega)
          rw [List.getElem?_append_right (by rw [h1.1]; omega), h1.1, show b * sz + c - xs.length * sz = (b - xs.length) * sz + c by rw [Nat.sub_mul]; omega]
          exact e1
    have hW := hI.write (w' := w1) (i := i) (is := []) (x := ⟨v1, fun k => (E i).F k ∨ v1.ownBlock = some k, True, True⟩) (cutP i []) hli (fun q hq => by simp at hq) trivial (fun a' ha' => by
        simp only [cutP, List.any_nil, Bool.or_false] at ha'
        exact ⟨fun q hq => by simp at hq, fun hn' => (by rw [ha'] at hn'; cases hn'), fun hr _ => by (rw [reads_names hr] at ha'; cases ha')⟩)
      (fun k hk => by
        rcases hk with hk | hk
        · exact .inl hk
        · rcases r5 with h5 | h5
          · rw [h5] at hk; exact .inl (h2 k hk)
          · have h6 := hfresh h5
            rw [h5] at hk
            cases hk
            exact .inr (.inr ⟨Nat.le_refl _, h6⟩))
      r3 ros rt rop hkeep hobj
    refine ⟨_, S, ?_, denT_puts (s := ⟨cutT (cutP i []) s.tm, (i, some (.row none e true sz enc (xs ++ ys))) :: dels [] (cutO (cutP i []) s.ob), s.nx⟩) hd hn (denT.cut hW.2 hT) (fun v' e' => ?_), by rw [put_size]; exact hn, by rw [put_defers]; exact hdf⟩
    · rw [sets_ob, sets_nx]; exact hW.1
    · cases e'
      exact ⟨by rw [takeE_at]; trivial, by rw [takeE_at], hone⟩
  cases A with
  | none =>
    have hy0 : ys = [] := by
      cases ys with
      | nil => rfl
      | cons y0 ys =>
        obtain ⟨ad, h, _⟩ := hrd' 0 y0 rfl
        cases h
    subst hy0
    obtain ⟨A', c', hu, hc⟩ := own_slice' h1
    refine ⟨.value (E i).u, w, hexec _ _ ?_, .inl ⟨_, rfl, ?_⟩, fun h => by (cases h)⟩
    · rw [hu]
      exact run_append_none t1 t2 A' _ c' cap hc w
    · exact fin _ w [] (by simpa using h1) (fun b y' hb' => by simp at hb') (Nat.le_refl _) rfl rfl rfl (fun _ _ _ => rfl) (.inl rfl) (by rw [hu]; rfl)
  | some ad =>
    have each : ∀ q, q < ys.length * sz → ∃ u, w.cell? (ad.add q) = some u ∧ u.oneCell' = true ∧ ∃ y', ys[q / sz]? = some y' ∧ Ow w (enc y' (q % sz)) u (fun _ => False) := fun q hq => by
      have hqs : q / sz < ys.length := by rw [Nat.div_lt_iff_lt_mul hpos]; exact hq
      have hqm : q % sz < sz := Nat.mod_lt _ hpos
      obtain ⟨ad', e0, _, hc⟩ := hrd' (q / sz) _ (List.getElem?_eq_getElem hqs)
      cases e0
      obtain ⟨u', e1, e2⟩ := hc (q % sz) hqm
      rw [show q / sz * sz + q % sz = q by rw [Nat.mul_comm]; exact Nat.div_add_mod q sz] at e1
      refine ⟨u', e1, e2.one, _, List.getElem?_eq_getElem hqs, ?_⟩
      obtain ⟨v, hv⟩ := hsc ys[q / sz] (q % sz)
      rw [hv] at e2 ⊢
      exact e2
    obtain ⟨news, hnl, hnw⟩ := pickL _ each
    obtain ⟨v1, w1, r1, r2, r3, _, r5⟩ := run_append_own_at (P := cx.P) w 0 t ty e ti tz sz by' t1 t2 t3 t4 t5 t6 hpos (E i).u xs.length cells h1 ad ys.length cap news hnl (fun j u hu => (hnw j u hu).1) (fun u hu => by
      obtain ⟨j, hj⟩ := List.getElem?_of_mem hu
      exact (hnw j u hj).2.1) (by simp only [maxLen]; omega) hlen (Nat.zero_le _)
    refine ⟨.value v1, w1, hexec _ _ r1, .inl ⟨_, rfl, ?_⟩, fun h => by (cases h)⟩
    refine fin v1 w1 news r2 (fun b y' hb' c hc => ?_) r3.size r3.os r3.tape r3.output r3.block r5 ?_
    · have hbl := (List.getElem?_eq_some_iff.1 hb').1
      have hq : b * sz + c < ys.length * sz := mulLt hbl hc
      have hj : news[b * sz + c]? = some (news[b * sz + c]'(by omega)) := List.getElem?_eq_getElem (by omega)
      obtain ⟨_, _, y2, e1, e2⟩ := hnw _ _ hj
      rw [show (b * sz + c) / sz = b by rw [Nat.mul_comm, Nat.mul_add_div hpos, Nat.div_eq_of_lt hc, Nat.add_zero], hb'] at e1
      cases e1
      rw [show (b * sz + c) % sz = c by rw [Nat.mul_comm, Nat.mul_add_mod]; exact Nat.mod_eq_of_lt hc] at e2
      obtain ⟨v, hv⟩ := hsc y' c
      rw [hv] at e2 ⊢
      exact ⟨_, hj, e2⟩
    · obtain ⟨A', c', hu, _⟩ := own_slice' r2
      rw [hu]; rfl
/-- What is read, appended. -/
theorem o_appendS (i : Nat) {pn : Option Value} {t e : TypeId} {sz by' : Nat} {x y : Operand} {r : Option Nat} {α : Type} {enc : α → Nat → T} {xs ys : List α} (hd : okd dst cx.n = true) (he : elemI cx.P t = some (e, sz, by')) (hpos : Nat.blt 0 sz = true)
    (hx : s.ev x = some (.c (.own i))) (hb : alook s.ob i = some (.row pn e true sz enc xs)) (hy : s.ev y = some (.c (.t r (.sl sz enc ys)))) (hsc : ∀ y j, ∃ v, enc y j = .v v) (hlen : (xs.length + ys.length) * by' ≤ 140737488355328) (hl63 : xs.length + ys.length ≤ 9223372036854775807) :
    Os cx s ⟨dst, .call { callee := .builtin .append, args := #[x, y], argTypes := #[t, t] }, ty, pos, aft, none⟩ ((⟨cutT (cutP i []) s.tm, (i, some (.row none e true sz enc (xs ++ ys))) :: dels [] (cutO (cutP i []) s.ob), s.nx⟩ : St).sets dst (some (.c (.own i)))) false := by
  exact o_appendG i hd he hpos hx hb (fun a E S w hI hT => ⟨_, (ev_den hT hy).2⟩) hsc hlen hl63
end rules
end Go.Eng

/- Models: the variables of atoms; a number put in its place. -/
set_option linter.unusedVariables false
set_option linter.unusedSimpArgs false
namespace Go.Eng
open Go Go.RowKit
def nonneg (l : List Int) : List Int := l.filter fun t => decide (0 ≤ t)
def varsL (l : List (Int × List Int)) : List Int := l.flatMap fun a => nonneg a.2
def hasI (l : List Int) (x : Int) : Bool := l.any fun y => decide (y = x)
end Go.Eng

/- Models: dependencies. -/
set_option linter.unusedVariables false
set_option linter.unusedSimpArgs false
namespace Go.Eng
open Go Go.RowKit
abbrev Rels := List (List UInt8 × Int × Bool)
abbrev Atoms := List (Int × List Int)
def badA (rs : Rels) : Int × List Int → Bool := fun x => !atomOk rs x.1 x.2
def srcA (rs : Rels) : Int × List Int → Bool := fun x => match rs[x.1.toNat]? with | some y => y.2.2 | none => false
def atomsOk (rs : Rels) (l : Atoms) (most : Int) : Bool := decide (1 ≤ (l.length : Int) ∧ (l.length : Int) ≤ most) && !l.any (badA rs)
def depOk (rs : Rels) (b h : Atoms) (e : Bool) (lv rv : Int) : Bool :=
  atomsOk rs b 2 && (if e = true then decide (h.length = 0) && (decide (lv < rv) && (hasI (setI (varsL b)) lv && hasI (setI (varsL b)) rv))
    else atomsOk rs h 2 && (decide (lv = 0) && (decide (rv = 0) && !h.any (srcA rs))))
end Go.Eng

/- Models: lists of dependencies. -/
set_option linter.unusedVariables false
set_option linter.unusedSimpArgs false
namespace Go.Eng
open Go Go.RowKit
abbrev Dep := Atoms × Atoms × Bool × Int × Int
def badD (rs : Rels) : Dep → Bool := fun x => !depOk rs x.1 x.2.1 x.2.2.1 x.2.2.2.1 x.2.2.2.2
def depsOk (rs : Rels) (l : List Dep) : Bool := relsOk rs && (decide (l.length ≤ 5) && !l.any (badD rs))
end Go.Eng

/- The engine, part Zj: a slice against nil, least and greatest of two; models of the union. -/
set_option linter.unusedVariables false
set_option linter.unusedSimpArgs false
namespace Go.Eng
open Go Go.RowKit
section rules
variable {cx : Cx} {s : St} {k : List Item} {R : Ending → World → Prop} {ops : Array Oper} {rest : List Oper} {dst : Option Nat} {ty : TypeId} {pos : String} {aft : Array Edge}
theorem r_eqnil {t yt : TypeId} {x : Operand} {r : Option Nat} {α : Type} {sz : Nat} {enc : α → Nat → T} {xs : List α} (hd : okd dst cx.n = true) (ht : isSl cx.P t = true) (hx : s.ev x = some (.c (.t r (.sl sz enc xs))))
    (h1 : xs = [] → Wr cx (s.sets dst (some (sc (.bool true)))) ops rest k R) (h2 : Wr cx (s.sets dst (some (sc (.bool false)))) ops rest k R) :
    Wr cx s ops (⟨dst, .binOp .eql t x (.const (.slice none 0 0)) yt, ty, pos, aft, none⟩ :: rest) k R := by
  intro a w hg
  refine wpList_plain rfl fun K hK => ?_
  obtain ⟨E, S, hI, hT, hn, hdf⟩ := hg
  obtain ⟨e, he⟩ := isSl_iff ht
  obtain ⟨_, A, cap, hu, hc, hr⟩ := ev_den hT hx
  have hrun : (execOp a.eval ⟨dst, .binOp .eql t x (.const (.slice none 0 0)) yt, ty, pos, aft, none⟩).run cx.P w = .ok (.value (.bool A.isNone)) w := by
    simp only [execOp, hu]
    have e1 : (eqGuard .eql t x (.const (.slice none 0 0)) (.slice A xs.length cap) (a.eval (.const (.slice none 0 0)))).run cx.P w = .ok () w := rfl
    have e2 : (binOp .eql t (.slice A xs.length cap) (a.eval (.const (.slice none 0 0)))).run cx.P w = .ok (.bool A.isNone) w := Go.Lib.run_eql_slice_nil w t e A _ _ 0 0 he
    rw [Sem.run_bind, Sem.run_bind, e1, Result.andThen_ok, e2]
    rfl
  have fin : ∀ b : Bool, Gm cx (s.sets dst (some (sc (.bool b)))) (a.put dst (.bool b)) w := fun b =>
    ⟨E, S, by rw [sets_ob, sets_nx]; exact hI, denT_puts hd hn hT (fun v' e => by cases e; exact sc_mk rfl), by rw [put_size]; exact hn, by rw [put_defers]; exact hdf⟩
  unfold Oper.wp
  rw [hrun]
  cases A with
  | none =>
    have : xs = [] := by
      cases xs with
      | nil => rfl
      | cons y ys =>
        obtain ⟨ad, h, _⟩ := hr 0 y rfl
        cases h
    exact hK _ _ (h1 this _ _ (fin true))
  | some ad => exact hK _ _ (h2 _ _ (fin false))
theorem p_min {t t' : TypeId} {x y : Operand} {kk : IntKind} {a b : Int} (hx : s.ev x = some (sc (.int kk a))) (hy : s.ev y = some (sc (.int kk b))) :
    Ps cx s (.call { callee := .builtin .min, args := #[x, y], argTypes := #[t, t'] }) (sc (.int kk (if b < a then b else a))) :=
  fun A w E S hI hT => by
    refine ⟨_, fun w' hW _ _ _ _ _ => ?_, sc_mk rfl⟩
    have hm : Array.map A.eval #[x, y] = #[.int kk a, .int kk b] := by simp [sc_den (ev_den hT hx), sc_den (ev_den hT hy)]
    simp only [execOp, resolve, invoke, builtin, hm, Sem.run_bind, Sem.run_pure, Result.andThen_ok]
    rw [run_min_int2]
    rfl
theorem o_min {t t' : TypeId} {x y : Operand} {kk : IntKind} {a b : Int} (hd : okd dst cx.n = true) (hx : s.ev x = some (sc (.int kk a))) (hy : s.ev y = some (sc (.int kk b))) :
    Os cx s ⟨dst, .call { callee := .builtin .min, args := #[x, y], argTypes := #[t, t'] }, ty, pos, aft, none⟩ (s.sets dst (some (sc (.int kk (if b < a then b else a))))) true := o_value hd (p_min hx hy)
theorem p_max {t t' : TypeId} {x y : Operand} {kk : IntKind} {a b : Int} (hx : s.ev x = some (sc (.int kk a))) (hy : s.ev y = some (sc (.int kk b))) :
    Ps cx s (.call { callee := .builtin .max, args := #[x, y], argTypes := #[t, t'] }) (sc (.int kk (if a < b then b else a))) :=
  fun A w E S hI hT => by
    refine ⟨_, fun w' hW _ _ _ _ _ => ?_, sc_mk rfl⟩
    have hm : Array.map A.eval #[x, y] = #[.int kk a, .int kk b] := by simp [sc_den (ev_den hT hx), sc_den (ev_den hT hy)]
    simp only [execOp, resolve, invoke, builtin, hm, Sem.run_bind, Sem.run_pure, Result.andThen_ok]
    rw [run_max_int2]
    rfl
theorem o_max {t t' : TypeId} {x y : Operand} {kk : IntKind} {a b : Int} (hd : okd dst cx.n = true) (hx : s.ev x = some (sc (.int kk a))) (hy : s.ev y = some (sc (.int kk b))) :
    Os cx s ⟨dst, .call { callee := .builtin .max, args := #[x, y], argTypes := #[t, t'] }, ty, pos, aft, none⟩ (s.sets dst (some (sc (.int kk (if a < b then b else a))))) true := o_value hd (p_max hx hy)
end rules
def memU (l : List Int) (v : Int) : Bool := decide (-40 ≤ v ∧ v ≤ 9) && (decide (0 ≤ v) || decide (-1 - v < l.length))
def findU (l : List Int) (v : Int) : Int := if (-40 ≤ v ∧ v ≤ -1) ∧ -1 - v < l.length ∧ ufOk l = true then l.getD (-1 - v).toNat 0 else v
def uniC (l : List Int) (a b : Int) : Int := if ufOk l = false ∨ memU l a = false ∨ memU l b = false then 2 else if findU l a = findU l b then 0 else if 0 ≤ findU l a ∧ 0 ≤ findU l b then 2 else 1
def repU (x y : Int) : Int → Int := fun v => if v = (if y < x then y else x) then (if x < y then y else x) else v
def uniL (l : List Int) (a b : Int) : List Int := if uniC l a b = 1 then l.map (repU (findU l a) (findU l b)) else l
theorem findU_at {l : List Int} {v n y : Int} (h1 : -40 ≤ v ∧ v ≤ -1) (h2 : -1 - v < l.length) (h3 : ufOk l = true) (hn : n = -1 - v) (hy : l[n.toNat]? = some y) : findU l v = y := by
  subst hn
  unfold findU
  rw [if_pos ⟨h1, h2, h3⟩]
  simp [List.getD, hy]
theorem findU_no {l : List Int} {v : Int} (h : ¬ ((-40 ≤ v ∧ v ≤ -1) ∧ -1 - v < l.length ∧ ufOk l = true)) : findU l v = v := if_neg h
theorem repU_hit {x y z : Int} (h : z = if y < x then y else x) : (if x < y then y else x) = repU x y z := by unfold repU; exact (if_pos h).symm
theorem repU_miss {x y z : Int} (h : ¬ z = if y < x then y else x) : repU x y z = z := if_neg h
theorem memU_of {l : List Int} {v : Int} (h : -40 ≤ v ∧ v ≤ 9) (h2 : 0 ≤ v ∨ -1 - v < l.length) : memU l v = true := by
  unfold memU
  rw [decide_eq_true h, Bool.true_and, Bool.or_eq_true]
  exact h2.imp decide_eq_true decide_eq_true
theorem memU_not {l : List Int} {v : Int} (h : ¬ (-40 ≤ v ∧ v ≤ 9) ∨ (v < 0 ∧ l.length ≤ -1 - v)) : memU l v = false := by
  unfold memU
  rcases h with h | h
  · rw [decide_eq_false h]; rfl
  · rw [decide_eq_false (by omega : ¬ 0 ≤ v), decide_eq_false (by omega : ¬ -1 - v < (l.length : Int))]; simp
theorem uniC_bad {l : List Int} {a b : Int} (h : ufOk l = false ∨ memU l a = false ∨ memU l b = false) : uniC l a b = 2 := if_pos h
theorem uniC_ok {l : List Int} {a b : Int} (h0 : ufOk l = true) (h1 : memU l a = true) (h2 : memU l b = true) : uniC l a b = if findU l a = findU l b then 0 else if 0 ≤ findU l a ∧ 0 ≤ findU l b then 2 else 1 := if_neg (by rw [h0, h1, h2]; simp)
theorem uniC_same {l : List Int} {a b : Int} (h0 : ufOk l = true) (h1 : memU l a = true) (h2 : memU l b = true) (h : findU l a = findU l b) : uniC l a b = 0 := by rw [uniC_ok h0 h1 h2, if_pos h]
theorem uniC_const {l : List Int} {a b : Int} (h0 : ufOk l = true) (h1 : memU l a = true) (h2 : memU l b = true) (h : ¬ findU l a = findU l b) (h3 : 0 ≤ findU l a ∧ 0 ≤ findU l b) : uniC l a b = 2 := by rw [uniC_ok h0 h1 h2, if_neg h, if_pos h3]
theorem uniC_done {l : List Int} {a b : Int} (h0 : ufOk l = true) (h1 : memU l a = true) (h2 : memU l b = true) (h : ¬ findU l a = findU l b) (h3 : ¬ (0 ≤ findU l a ∧ 0 ≤ findU l b)) : uniC l a b = 1 := by rw [uniC_ok h0 h1 h2, if_neg h, if_neg h3]
theorem uniL_keep {l : List Int} {a b n : Int} (h : uniC l a b = n) (hn : n ≠ 1) : l = uniL l a b := by unfold uniL; rw [if_neg (by omega)]
theorem uniL_done {l : List Int} {a b : Int} {m : Nat} (h : uniC l a b = 1) (hm : l.length ≤ m) : (l.take m).map (repU (findU l a) (findU l b)) ++ l.drop m = uniL l a b := by
  rw [List.take_of_length_le hm, List.drop_eq_nil_of_le hm, List.append_nil]; unfold uniL; rw [if_pos h]
theorem tupU {l : List Int} {a b n : Int} (h : uniC l a b = n) : AV.tup [(true, [.own 2]), (false, [.t none (.v (.int .i64 n))])] = AV.tup [(true, [.own 2]), (false, [.t none (.v (.int .i64 (uniC l a b)))])] := by rw [h]
theorem uni_len (l : List Int) (a b : Int) : (uniL l a b).length = l.length := by unfold uniL; split <;> simp
section
variable {l : List Int} {f : Int → Int} {m : Nat} {z : Int}
theorem map_at (h : ((l.take m).map f ++ l.drop m)[m]? = some z) (hm : m ≤ l.length) : l[m]? = some z := by
  rw [List.getElem?_append_right (by simp; omega)] at h
  simp only [List.length_map, List.length_take, Nat.min_eq_left hm, Nat.sub_self, List.getElem?_drop] at h
  simpa using h
theorem map_set {y : Int} (h : l[m]? = some z) (hy : y = f z) : ((l.take m).map f ++ l.drop m).set m y = (l.take (m + 1)).map f ++ l.drop (m + 1) := by
  obtain ⟨hm, hz⟩ := List.getElem?_eq_some_iff.1 h
  rw [List.set_append_right _ _ (by simp; omega)]
  simp only [List.length_map, List.length_take, Nat.min_eq_left (by omega : m ≤ l.length), Nat.sub_self]
  rw [List.drop_eq_getElem_cons hm, List.set_cons_zero, List.take_add_one, h, hy]
  simp
theorem map_skip (h : l[m]? = some z) (hz : f z = z) : (l.take m).map f ++ l.drop m = (l.take (m + 1)).map f ++ l.drop (m + 1) := by
  obtain ⟨hm, e⟩ := List.getElem?_eq_some_iff.1 h
  rw [List.drop_eq_getElem_cons hm, List.take_add_one, h]
  simp [hz, e]
end
end Go.Eng
