/- The engine, part Zf: a slice of one element written out, a slice appended, an object renamed. -/
import Derived.Test.YtbbpoegdcecopaaGreatEngZe
set_option linter.unusedVariables false
set_option linter.unusedSimpArgs false
namespace Go.Eng
open Go Go.RowKit
section rules
variable {cx : Cx} {s : St} {dst : Option Nat} {ty : TypeId} {pos : String} {aft : Array Edge}
theorem o_lit1 (i : Nat) {t e sz : Nat} {zs : List Value} {parts : Array (Nat × Operand)} {vs : List (Nat × AV)} {us : List AC} {α : Type} {enc : α → Nat → T} (z : α) (hi : s.nx = i) (hd : okd dst cx.n = true) (he : elemOf' cx.P t = some (e, sz, zs)) (hz : Nat.beq zs.length sz = true) (h1 : zs.all (·.oneCell') = true) (hsmall : Nat.ble (1 * sz) 16777216 = true) (hv : evL s parts.toList = some vs) (hc : fillL (fun i => some (i * sz, sz)) (List.replicate (1 * sz) .top) vs = some us) (hul : Nat.beq us.length sz = true) (hm : MvL s true us (enc z) 0 []) :
    Os cx s ⟨dst, .buildSlice t 1 parts, ty, pos, aft, none⟩ ((s.obj i (.row none e true sz enc [z])).sets dst (some (.c (.own i)))) true := by
  subst hi
  refine o_gen fun a w hg => ?_
  obtain ⟨E, S, hI, hT, hn, hdf⟩ := hg
  have hz := Nat.eq_of_beq_eq_true hz
  have hul := Nat.eq_of_beq_eq_true hul
  have htop : denL E S w (List.replicate (1 * sz) .top) ((Array.range (1 * sz)).map (zs.toArray[· % zs.length]!)).toList := by
    refine ⟨by simp, fun j c hj => ?_⟩
    rw [List.getElem?_replicate] at hj
    split at hj
    · rename_i hlt
      cases hj
      have hpos : 0 < zs.length := by
        rcases Nat.eq_zero_or_pos zs.length with h0 | h0
        · rw [h0] at hz; subst hz; simp at hlt
        · exact h0
      have hm : j % zs.length < zs.length := Nat.mod_lt _ hpos
      rw [Nat.one_mul] at hlt
      refine ⟨zs[j % zs.length], by simp [hlt, hm], ?_⟩
      exact (List.all_eq_true.1 h1) _ (List.getElem_mem hm)
    · cases hj
  obtain ⟨us', h4, h5⟩ := fill_den hT parts.toList vs _ us _ hv hc htop
  have hr := run_litS (P := cx.P) he hz 1 (parts.map fun (i, x) => (i, a.eval x)) us' (by simpa using hsmall) w (by rw [Array.toList_map]; exact h4)
  obtain ⟨_, _, m3⟩ := hm.den hI h5
  obtain ⟨Gz, g1, _, g3⟩ := m3 rfl
  have hlen : us'.toList.length = sz := h5.1.trans hul
  refine ⟨.value (.slice (some ⟨w.heap.size, 0, none⟩) 1 1), w.alloc (.cells us'.toList.toArray e (0, 0)), ?_, .inl ⟨_, rfl, ?_⟩, fun _ => Ext.alloc _ _⟩
  · simp only [execOp]
    rw [Sem.run_bind, hr]
    rfl
  · refine Gm.row hI hT hn hdf hd _ rfl ?_
    simp only [if_true]
    refine ⟨us'.toList, fun _ _ _ => False, ⟨by simp [hlen], .inr ⟨w.heap.size, 1, _, rfl, Nat.zero_le _, heap_alloc_new w _, Nat.le_refl _, by simp [maxLen], by rw [Nat.one_mul]; simpa using hlen, by rw [List.length_singleton, Nat.one_mul]; exact List.take_of_length_le (Nat.le_of_eq hlen)⟩⟩, fun g hg => by simp only [Value.ownBlock, Option.some.injEq] at hg; exact hg.symm, fun _ _ _ h => h.elim, fun _ _ _ _ _ h => h.elim, fun b x hx c hc => ?_⟩
    match b, hx with
    | 0, hx =>
      cases hx
      obtain ⟨u', e1, e2⟩ := g3 c (by omega)
      refine ⟨u', by simpa using e1, ?_⟩
      rw [Nat.zero_add] at e2
      refine Ow.move (F := Gz c) _ _ (fun k hk => ?_) (fun k hk => ?_) e2
      · obtain ⟨q, hq, _⟩ := g1 c k hk
        simp at hq
      · obtain ⟨q, hq, _⟩ := g1 c k hk
        simp at hq
theorem run_append_none {P : Program} {t e ty : TypeId} {i : TypeInfo} (ht : P.underlying t = some (.slice e)) (hi : P.info? e = some i) (b : Option Addr) (n c cc : Nat) (h : n ≤ c) (w : World) :
    (Builtin.append_ #[t, t] ty #[.slice b n c, .slice none 0 cc]).run P w = .ok (.slice b n c) w := by
  cases b <;> simp [Builtin.append_, run_underlying ht, sizeOf, typeInfo, hi, Builtin.lenOf, Builtin.firstCells, h, storeCells]
/-- What reads as scalars alone, appended. -/
theorem o_appendG (i : Nat) {pn : Option Value} {t e : TypeId} {sz by' : Nat} {x y : Operand} {α : Type} {enc : α → Nat → T} {xs ys : List α} (hd : okd dst cx.n = true) (he : elemI cx.P t = some (e, sz, by')) (hpos : Nat.blt 0 sz = true)
    (hx : s.ev x = some (.c (.own i))) (hb : alook s.ob i = some (.row pn e true sz enc xs)) (hyd : ∀ (a : Act) (E : Nat → EE) (S : Nat → Prop) (w : World), Inv cx s.ob s.nx E S w → denT E S w s.tm a.tmps → ∃ S', Rd w S' (.sl sz enc ys) (a.eval y)) (hsc : ∀ y j, ∃ v, enc y j = .v v) (hlen : (xs.length + ys.length) * by' ≤ 140737488355328) (hl63 : xs.length + ys.length ≤ 9223372036854775807) :
    Os cx s ⟨dst, .call { callee := .builtin .append, args := #[x, y], argTypes := #[t, t] }, ty, pos, aft, none⟩ ((⟨cutT (cutP i []) s.tm, (i, some (.row none e true sz enc (xs ++ ys))) :: dels [] (cutO (cutP i []) s.ob), s.nx⟩ : St).sets dst (some (.c (.own i)))) false := by
  refine o_gen fun a w hg => ?_
  obtain ⟨E, S, hI, hT, hn, hdf⟩ := hg
  have hpos : 0 < sz := by simpa using hpos
  obtain ⟨ti, tz, t1, t2, t3, t4, t5, t6⟩ := elemI_get he
  obtain ⟨hli, hux, _⟩ := ev_den hT hx
  obtain ⟨_, A, cap, huy, hcap, hrd'⟩ := hyd a E S w hI hT
  obtain ⟨_, hrd, _, ho⟩ := hI.obs _ _ hb
  simp only [if_true] at ho
  obtain ⟨cells, G, h1, h2, h3, h4, h5⟩ := ho
  have hexec : ∀ (v1 : Value) (w1 : World), (Builtin.append_ #[t, t] ty #[(E i).u, .slice A ys.length cap]).run cx.P w = .ok v1 w1 → (execOp a.eval ⟨dst, .call { callee := .builtin .append, args := #[x, y], argTypes := #[t, t] }, ty, pos, aft, none⟩).run cx.P w = .ok (.value v1) w1 := fun v1 w1 hr => by
    have hm : Array.map a.eval #[x, y] = #[(E i).u, .slice A ys.length cap] := by simp [hux, huy]
    simp only [execOp, resolve, invoke, builtin, hm, Sem.run_bind, Sem.run_pure, Result.andThen_ok]
    rw [hr]
    rfl
  have fin : ∀ (v1 : Value) (w1 : World) (news : List Value), w1.ownsRow 0 e sz v1 (xs.length + ys.length) (cells ++ news) → (∀ b y', ys[b]? = some y' → ∀ c, c < sz → ∃ u', news[b * sz + c]? = some u' ∧ Ow w1 (enc y' c) u' (fun _ => False)) → w.heap.size ≤ w1.heap.size → w1.os = w.os → w1.tape = w.tape → w1.output = w.output → (∀ q, q < w.heap.size → some q ≠ (E i).u.ownBlock → w1.heap[q]? = w.heap[q]?) → (v1.ownBlock = (E i).u.ownBlock ∨ v1.ownBlock = some w.heap.size) → v1.oneCell' = true →
      Gm cx ((⟨cutT (cutP i []) s.tm, (i, some (.row none e true sz enc (xs ++ ys))) :: dels [] (cutO (cutP i []) s.ob), s.nx⟩ : St).sets dst (some (.c (.own i)))) (a.put dst v1) w1 := fun v1 w1 news r2 hnw r3 ros rt rop rb r5 hone => by
    have hkeep : ∀ q, q < w.heap.size → ¬ (E i).F q → w1.heap[q]? = w.heap[q]? := fun q hq hf => rb q hq fun hb' => hf (h2 q hb'.symm)
    have hne1 : ∀ q, q < w.heap.size → some q ≠ (E i).u.ownBlock → v1.ownBlock ≠ some q := fun q hq hn' hv => by
      rcases r5 with h5 | h5
      · rw [h5] at hv; exact hn' hv.symm
      · rw [h5] at hv; cases hv; omega
    have hfresh : v1.ownBlock = some w.heap.size → w.heap.size < w1.heap.size := fun hv => by
      rcases r2.2 with ⟨e1, _⟩ | ⟨g, cap, cur, e1, _, e2, _⟩
      · rw [e1] at hv; simp [Value.ownBlock] at hv
      · rw [e1] at hv
        simp [Value.ownBlock] at hv
        subst hv
        exact (Array.getElem?_eq_some_iff.1 e2).1
    have hlen' : (xs ++ ys).length = xs.length + ys.length := by simp
    have hobj : okOb (takeE E i [] ⟨v1, fun k => (E i).F k ∨ v1.ownBlock = some k, True, True⟩) S w1 i (.row none e true sz enc (xs ++ ys)) := by
      refine ⟨by rw [takeE_at]; trivial, fun v hv => (by cases hv), ?_⟩
      rw [takeE_at]
      simp only [if_true]
      refine ⟨cells ++ news, fun b c k => if b < xs.length then G b c k else False, by rw [hlen']; exact r2, fun g hg => .inr hg, fun b c k hk => ?_, fun b c b' c' k hk hk' => ?_, fun b x' hx' c hc => ?_⟩
      · dsimp only at hk
        split at hk
        · obtain ⟨e1, e2⟩ := h3 b c k hk
          exact ⟨.inl e1, hne1 k (hI.fp i hli k e1).1 (fun e => e2 e.symm)⟩
        · exact hk.elim
      · dsimp only at hk hk'
        split at hk <;> split at hk'
        · exact h4 b c b' c' k hk hk'
        · exact hk'.elim
        · exact hk.elim
        · exact hk.elim
      · by_cases hb1 : b < xs.length
        · rw [List.getElem?_append_left hb1] at hx'
          obtain ⟨u', e1, e2⟩ := h5 b x' hx' c hc
          refine ⟨u', ?_, Ow.move _ _ (fun k hk => by dsimp only; rw [if_pos hb1]; exact hk) (fun k hk => ?_) e2⟩
          · rw [List.getElem?_append_left (by rw [h1.1]; exact mulLt hb1 hc)]
            exact e1
          · obtain ⟨e3, e4⟩ := h3 b c k hk
            exact rb k (hI.fp i hli k e3).1 (fun e => e4 e.symm)
        · rw [List.getElem?_append_right (by omega)] at hx'
          obtain ⟨u', e1, e2⟩ := hnw _ x' hx' c hc
          refine ⟨u', ?_, Ow.move _ _ (fun _ q => q.elim) (fun _ q => q.elim) e2⟩
          have hle : xs.length * sz ≤ b * sz := Nat.mul_le_mul_right _ (by omega)
          rw [List.getElem?_append_right (by rw [h1.1]; omega), h1.1, show b * sz + c - xs.length * sz = (b - xs.length) * sz + c by rw [Nat.sub_mul]; omega]
          exact e1
    have hW := hI.write (w' := w1) (i := i) (is := []) (x := ⟨v1, fun k => (E i).F k ∨ v1.ownBlock = some k, True, True⟩) (cutP i []) hli (fun q hq => by simp at hq) trivial (fun a' ha' => by
        simp only [cutP, List.any_nil, Bool.or_false] at ha'
        exact ⟨fun q hq => by simp at hq, fun hn' => (by rw [ha'] at hn'; cases hn'), fun hr _ => by (rw [reads_names hr] at ha'; cases ha')⟩)
      (fun k hk => by
        rcases hk with hk | hk
        · exact .inl hk
        · rcases r5 with h5 | h5
          · rw [h5] at hk; exact .inl (h2 k hk)
          · have h6 := hfresh h5
            rw [h5] at hk
            cases hk
            exact .inr (.inr ⟨Nat.le_refl _, h6⟩))
      r3 ros rt rop hkeep hobj
    refine ⟨_, S, ?_, denT_puts (s := ⟨cutT (cutP i []) s.tm, (i, some (.row none e true sz enc (xs ++ ys))) :: dels [] (cutO (cutP i []) s.ob), s.nx⟩) hd hn (denT.cut hW.2 hT) (fun v' e' => ?_), by rw [put_size]; exact hn, by rw [put_defers]; exact hdf⟩
    · rw [sets_ob, sets_nx]; exact hW.1
    · cases e'
      exact ⟨by rw [takeE_at]; trivial, by rw [takeE_at], hone⟩
  cases A with
  | none =>
    have hy0 : ys = [] := by
      cases ys with
      | nil => rfl
      | cons y0 ys =>
        obtain ⟨ad, h, _⟩ := hrd' 0 y0 rfl
        cases h
    subst hy0
    obtain ⟨A', c', hu, hc⟩ := own_slice' h1
    refine ⟨.value (E i).u, w, hexec _ _ ?_, .inl ⟨_, rfl, ?_⟩, fun h => by (cases h)⟩
    · rw [hu]
      exact run_append_none t1 t2 A' _ c' cap hc w
    · exact fin _ w [] (by simpa using h1) (fun b y' hb' => by simp at hb') (Nat.le_refl _) rfl rfl rfl (fun _ _ _ => rfl) (.inl rfl) (by rw [hu]; rfl)
  | some ad =>
    have each : ∀ q, q < ys.length * sz → ∃ u, w.cell? (ad.add q) = some u ∧ u.oneCell' = true ∧ ∃ y', ys[q / sz]? = some y' ∧ Ow w (enc y' (q % sz)) u (fun _ => False) := fun q hq => by
      have hqs : q / sz < ys.length := by rw [Nat.div_lt_iff_lt_mul hpos]; exact hq
      have hqm : q % sz < sz := Nat.mod_lt _ hpos
      obtain ⟨ad', e0, _, hc⟩ := hrd' (q / sz) _ (List.getElem?_eq_getElem hqs)
      cases e0
      obtain ⟨u', e1, e2⟩ := hc (q % sz) hqm
      rw [show q / sz * sz + q % sz = q by rw [Nat.mul_comm]; exact Nat.div_add_mod q sz] at e1
      refine ⟨u', e1, e2.one, _, List.getElem?_eq_getElem hqs, ?_⟩
      obtain ⟨v, hv⟩ := hsc ys[q / sz] (q % sz)
      rw [hv] at e2 ⊢
      exact e2
    obtain ⟨news, hnl, hnw⟩ := pickL _ each
    obtain ⟨v1, w1, r1, r2, r3, _, r5⟩ := run_append_own_at (P := cx.P) w 0 t ty e ti tz sz by' t1 t2 t3 t4 t5 t6 hpos (E i).u xs.length cells h1 ad ys.length cap news hnl (fun j u hu => (hnw j u hu).1) (fun u hu => by
      obtain ⟨j, hj⟩ := List.getElem?_of_mem hu
      exact (hnw j u hj).2.1) (by simp only [maxLen]; omega) hlen (Nat.zero_le _)
    refine ⟨.value v1, w1, hexec _ _ r1, .inl ⟨_, rfl, ?_⟩, fun h => by (cases h)⟩
    refine fin v1 w1 news r2 (fun b y' hb' c hc => ?_) r3.size r3.os r3.tape r3.output r3.block r5 ?_
    · have hbl := (List.getElem?_eq_some_iff.1 hb').1
      have hq : b * sz + c < ys.length * sz := mulLt hbl hc
      have hj : news[b * sz + c]? = some (news[b * sz + c]'(by omega)) := List.getElem?_eq_getElem (by omega)
      obtain ⟨_, _, y2, e1, e2⟩ := hnw _ _ hj
      rw [show (b * sz + c) / sz = b by rw [Nat.mul_comm, Nat.mul_add_div hpos, Nat.div_eq_of_lt hc, Nat.add_zero], hb'] at e1
      cases e1
      rw [show (b * sz + c) % sz = c by rw [Nat.mul_comm, Nat.mul_add_mod]; exact Nat.mod_eq_of_lt hc] at e2
      obtain ⟨v, hv⟩ := hsc y' c
      rw [hv] at e2 ⊢
      exact ⟨_, hj, e2⟩
    · obtain ⟨A', c', hu, _⟩ := own_slice' r2
      rw [hu]; rfl
/-- What is read, appended. -/
theorem o_appendS (i : Nat) {pn : Option Value} {t e : TypeId} {sz by' : Nat} {x y : Operand} {r : Option Nat} {α : Type} {enc : α → Nat → T} {xs ys : List α} (hd : okd dst cx.n = true) (he : elemI cx.P t = some (e, sz, by')) (hpos : Nat.blt 0 sz = true)
    (hx : s.ev x = some (.c (.own i))) (hb : alook s.ob i = some (.row pn e true sz enc xs)) (hy : s.ev y = some (.c (.t r (.sl sz enc ys)))) (hsc : ∀ y j, ∃ v, enc y j = .v v) (hlen : (xs.length + ys.length) * by' ≤ 140737488355328) (hl63 : xs.length + ys.length ≤ 9223372036854775807) :
    Os cx s ⟨dst, .call { callee := .builtin .append, args := #[x, y], argTypes := #[t, t] }, ty, pos, aft, none⟩ ((⟨cutT (cutP i []) s.tm, (i, some (.row none e true sz enc (xs ++ ys))) :: dels [] (cutO (cutP i []) s.ob), s.nx⟩ : St).sets dst (some (.c (.own i)))) false := by
  exact o_appendG i hd he hpos hx hb (fun a E S w hI hT => ⟨_, (ev_den hT hy).2⟩) hsc hlen hl63
/-- Another row, appended. -/
theorem o_appendO (i : Nat) {pn : Option Value} {t e : TypeId} {sz by' : Nat} {x y : Operand} {q e2 : Nat} {pn2 : Option Value} {deep2 : Bool} {α : Type} {enc : α → Nat → T} {xs ys : List α} (hd : okd dst cx.n = true) (he : elemI cx.P t = some (e, sz, by')) (hpos : Nat.blt 0 sz = true)
    (hx : s.ev x = some (.c (.own i))) (hb : alook s.ob i = some (.row pn e true sz enc xs)) (hy : s.ev y = some (.c (.own q))) (hq : alook s.ob q = some (.row pn2 e2 deep2 sz enc ys)) (hqi : q ≠ i) (hsc : ∀ y j, ∃ v, enc y j = .v v) (hlen : (xs.length + ys.length) * by' ≤ 140737488355328) (hl63 : xs.length + ys.length ≤ 9223372036854775807) :
    Os cx s ⟨dst, .call { callee := .builtin .append, args := #[x, y], argTypes := #[t, t] }, ty, pos, aft, none⟩ ((⟨cutT (cutP i []) s.tm, (i, some (.row none e true sz enc (xs ++ ys))) :: dels [] (cutO (cutP i []) s.ob), s.nx⟩ : St).sets dst (some (.c (.own i)))) false := by
  exact o_appendG i hd he hpos hx hb (fun a E S w hI hT => ⟨_, by obtain ⟨_, h, _⟩ := ev_den hT hy; rw [h]; exact row_rd hI hq⟩) hsc hlen hl63
/-- A part of an own row, to be read. -/
theorem p_subo {t : TypeId} {x : Operand} {lo hi mx : Option Operand} {i e0 : Nat} {pn : Option Value} {α : Type} {sz : Nat} {enc : α → Nat → T} {xs : List α} {l h : Nat} (hs : elemSz cx.P t = some sz) (hx : s.ev x = some (.c (.own i))) (hob : alook s.ob i = some (.row pn e0 true sz enc xs)) (hb : Bo s xs.length lo hi mx l h) :
    Ps cx s (.slice t x lo hi mx) (.c (.t (some i) (.sl sz enc ((xs.take h).drop l)))) :=
  fun A w E S hI hT => by
    obtain ⟨hlv, hux, _⟩ := ev_den hT hx
    obtain ⟨_, hrd, _, ho⟩ := hI.obs _ _ hob
    simp only [if_true] at ho
    have hr : Rd w (E i).F (.sl sz enc xs) (E i).u := Ow.rd (.sl sz enc xs) _ ⟨e0, ho⟩
    obtain ⟨A', cap, hu, hc, hr'⟩ := hr
    obtain ⟨hl, m, hbd⟩ := hb.bd hT hc
    have hrun := fun w' => (hbd.run hs A' w').1
    obtain ⟨_, h1, h2⟩ := hbd.run hs A' w
    refine ⟨sliced A' l h m sz, fun w' hW _ _ _ _ _ => ?_, ⟨hlv, hrd⟩, sub_rd (w := w) (cap := cap) ⟨A', cap, rfl, hc, hr'⟩ h1 hl h2⟩
    simp only [execOp, hux, hu]
    rw [Sem.run_bind, hrun w']
    rfl
theorem o_subo {t : TypeId} {x : Operand} {lo hi mx : Option Operand} {i e0 : Nat} {pn : Option Value} {α : Type} {sz : Nat} {enc : α → Nat → T} {xs : List α} {l h : Nat} (hd : okd dst cx.n = true) (hs : elemSz cx.P t = some sz) (hx : s.ev x = some (.c (.own i))) (hob : alook s.ob i = some (.row pn e0 true sz enc xs)) (hb : Bo s xs.length lo hi mx l h) :
    Os cx s ⟨dst, .slice t x lo hi mx, ty, pos, aft, none⟩ (s.sets dst (some (.c (.t (some i) (.sl sz enc ((xs.take h).drop l)))))) true := o_value hd (p_subo hs hx hob hb)
/-- All but one object forgotten, and that called the first. -/
theorem gt_as0 {R : Ending → World → Prop} {todo : List Item} (t i : Nat) {pn : Option Value} {e sz : Nat} {deep : Bool} {α : Type} {enc : α → Nat → T} {xs : List α} (ht : alook s.tm t = some (.c (.own i))) (hb : alook s.ob i = some (.row pn e deep sz enc xs))
    (h : Wt cx ⟨[(t, some (.c (.own 0)))], [(0, some (.row none e deep sz enc xs))], 1⟩ todo R) : Wt cx s todo R := by
  intro a w hg
  refine h a w ?_
  obtain ⟨E, S, hI, hT, hsz, hdf⟩ := hg
  obtain ⟨h1, h2, h3, h4⟩ := hI.obs _ _ hb
  let X : Nat → EE := fun j => if j = 0 then E i else dead
  have e0 : X 0 = E i := rfl
  have hl : ∀ j, (X j).live → j = 0 := fun j hj => by
    match j, hj with
    | 0, _ => rfl
    | j + 1, hj => exact hj.elim
  refine ⟨X, S, ⟨hI.slt, hI.snew, fun j o hj => ?_, fun j j' hij hj hj' => absurd ((hl j hj).trans (hl j' hj').symm) hij, fun j hj k hk => ?_, fun j hj => by rw [hl j hj]; exact Nat.one_pos, hI.kept⟩, fun t' v' ht' => ?_, hsz, hdf⟩
  · rw [alook_cons] at hj
    split at hj
    · rename_i ej
      subst ej
      cases hj
      refine ⟨by rw [e0]; exact h1, by rw [e0]; exact h2, fun v hv => (by cases hv), ?_⟩
      rw [e0]
      exact h4
    · simp [alook] at hj
  · have ej := hl j hj
    subst ej
    rw [e0] at hk
    exact hI.fp i h1 k hk
  · rw [alook_cons] at ht'
    split at ht'
    · rename_i ej
      subst ej
      cases ht'
      obtain ⟨q1, q2, q3⟩ := hT _ _ ht
      exact ⟨by rw [e0]; exact q1, by rw [e0]; exact q2, q3⟩
    · simp [alook] at ht'
end rules
end Go.Eng
