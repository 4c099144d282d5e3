/- The engine, part F: slice literals, stores into boxes, the way in and the way out of a function. -/
import Derived.Test.YtbbpoegdcecopaaGreatEngE
import Derived.Shelf.Abstract
set_option linter.unusedVariables false
set_option linter.unusedSimpArgs false
namespace Go.Eng
open Go Go.RowKit

/-- What a slice type's elements are: type, cells, the zero value's cells. -/
def elemOf' (P : Program) (t : TypeId) : Option (TypeId × Nat × List Value) :=
  match P.underlying t with
  | some (.slice e) => match szOf P e, zeroOf P e with
    | some sz, some zs => some (e, sz, zs)
    | _, _ => none
  | _ => none
theorem run_litS {P : Program} {t e : TypeId} {sz : Nat} {zs : List Value} (h : elemOf' P t = some (e, sz, zs)) (hz : zs.length = sz) (len : Nat) (parts : Array (Nat × Value)) (cells : Array Value) (hsmall : len * sz ≤ 2 ^ 24) (w : World)
    (hf : Instr.fill (fun i => some (i * sz, sz)) ((Array.range (len * sz)).map (zs.toArray[· % zs.length]!)) parts.toList = some cells) :
    (Instr.buildSlice t len parts).run P w = .ok (.slice (some ⟨w.heap.size, 0, none⟩) len len) (w.alloc (.cells cells e)) := by
  unfold elemOf' at h
  split at h
  · rename_i e' hu
    split at h
    · rename_i sz' zs' h1 h2
      cases h
      obtain ⟨z, h3, h4⟩ := run_zero h2 w
      by_cases h0 : len * sz = 0
      · rw [h0] at hf
        have e0 : ∀ f : Nat → Value, (Array.range 0).map f = #[] := fun f => by simp
        rw [e0] at hf
        have hs : ¬ (len * sz > 2 ^ 24) := by omega
        simp only [Instr.buildSlice, Sem.run_bind, run_underlying hu, Result.andThen_ok, run_szOf h1, Sem.run_ite, if_neg hs, if_pos h0, Sem.run_pure]
        rw [h0, e0, hf]
        simp [newRow]
      · have hs : ¬ (len * sz > 2 ^ 24) := by omega
        have h5 : z.cells.size = zs.length := by rw [h4]; simp
        simp only [Instr.buildSlice, Sem.run_bind, run_underlying hu, Result.andThen_ok, run_szOf h1, Sem.run_ite, if_neg hs, if_neg h0, Sem.run_pure, h3, h4]
        simp only [List.size_toArray]
        rw [hf]
        simp [newRow]
    · cases h
  · cases h
section rules
variable {cx : Cx} {s : St} {k : List Item} {R : Ending → World → Prop} {ops : Array Oper} {rest : List Oper} {dst : Option Nat} {ty : TypeId} {pos : String} {aft : Array Edge}
theorem o_litS (i : Nat) {t e : TypeId} {len sz : Nat} {zs : List Value} {parts : Array (Nat × Operand)} {vs : List (Nat × AV)} {cs : List AC} (hi : s.nx = i) (hd : okd dst cx.n = true) (he : elemOf' cx.P t = some (e, sz, zs)) (hz : Nat.beq zs.length sz = true) (h1 : zs.all (·.oneCell') = true) (hsmall : Nat.ble (len * sz) 16777216 = true) (hv : evL s parts.toList = some vs) (hc : fillL (fun i => some (i * sz, sz)) (List.replicate (len * sz) .top) vs = some cs) :
    Os cx s ⟨dst, .buildSlice t len parts, ty, pos, aft, none⟩ ((s.obj i (.box cs)).sets dst (some (.c (.bsl i len)))) true := by
  subst hi
  refine o_gen fun a w hg => ?_
  obtain ⟨E, S, hI, hT, hn, hdf⟩ := hg
  have hz := Nat.eq_of_beq_eq_true hz
  have htop : denL E S w (List.replicate (len * sz) .top) ((Array.range (len * sz)).map (zs.toArray[· % zs.length]!)).toList := by
    refine ⟨by simp, fun j c hj => ?_⟩
    rw [List.getElem?_replicate] at hj
    split at hj
    · rename_i hlt
      cases hj
      have hpos : 0 < zs.length := by
        rcases Nat.eq_zero_or_pos zs.length with h0 | h0
        · rw [h0] at hz; subst hz; simp at hlt
        · exact h0
      have hm : j % zs.length < zs.length := Nat.mod_lt _ hpos
      refine ⟨zs[j % zs.length], by simp [hlt, hm], ?_⟩
      exact (List.all_eq_true.1 h1) _ (List.getElem_mem hm)
    · cases hj
  obtain ⟨us', h4, h5⟩ := fill_den hT parts.toList vs _ cs _ hv hc htop
  have hr := run_litS (P := cx.P) he hz len (parts.map fun (i, x) => (i, a.eval x)) us' (by simpa using hsmall) w (by rw [Array.toList_map]; exact h4)
  refine ⟨.value (.slice (some ⟨w.heap.size, 0, none⟩) len len), w.alloc (.cells us'.toList.toArray e (0, 0)), ?_, .inl ⟨_, rfl, ?_⟩, fun _ => Ext.alloc _ _⟩
  · simp only [execOp]
    rw [Sem.run_bind, hr]
    rfl
  · exact Gm.box hI hT hn hdf hd e h5 fun E' hl hu => ⟨hl, _, hu, rfl⟩

theorem run_storeAt {P : Program} {t : TypeId} {g o e : Nat} {cur : List Value} {u : Value} {w : World} (hs : szOf P t = some u.cells.size) (hg : w.heap[g]? = some (.cells cur.toArray e (0, 0))) (hb : o + u.cells.size ≤ cur.length) (h1 : ∀ v ∈ u.cells.toList, v.oneCell' = true) :
    (Instr.storeAt t (.pointer (some ⟨g, o, none⟩)) u).run P w = .ok () (w.setRow g (putL cur o u.cells.toList).toArray) := by
  have := run_storeCells_at P g o e u.cells.toList 0 cur.toArray w hg (by simpa using hb) h1
  simp only [Nat.add_zero] at this
  simp only [Instr.storeAt, Instr.sureAddr, Sem.run_bind, Sem.run_pure, Result.andThen_ok, storeVar, run_szOf hs, Sem.run_ite, ne_eq, not_true, if_false, this]
  simp [putL]
theorem denL.ones {E : Nat → EE} {S : Nat → Prop} {w : World} {cs : List AC} {us : List Value} (h : denL E S w cs us) : ∀ v ∈ us, v.oneCell' = true := by
  intro v hv
  obtain ⟨j, hj, rfl⟩ := List.getElem_of_mem hv
  have hj2 : j < cs.length := by rw [← h.1]; exact hj
  obtain ⟨u, h1, h2⟩ := h.2 j cs[j] (List.getElem?_eq_getElem hj2)
  rw [List.getElem?_eq_getElem hj] at h1
  cases h1
  exact h2.one
theorem Kept.setRow {M : Nat → Prop} {w0 w : World} (h : Kept M w0 w) {g : Nat} (hg : w0.heap.size ≤ g ∨ M g) (cs : Array Value) : Kept M w0 (w.setRow g cs) :=
  ⟨h.os, h.tape, h.output, by simpa using h.size, fun k hk hm => (setRow_other w g k cs (by rintro rfl; exact hg.elim (fun q => by omega) hm)).trans (h.block k hk hm)⟩
/-- A store into an object whose block is g: what reads it is cut. -/
theorem carry_set {cx : Cx} {ob : List (Nat × Option Ob)} {nx : Nat} {E : Nat → EE} {S : Nat → Prop} {w : World} (hI : Inv cx ob nx E S w) {i g : Nat} (hl : (E i).live) (hg : (E i).F g) (cs : Array Value) {p : AC → Bool} (hp : ∀ a, p a = false → a.reads i = true → ¬ (E i).rd) :
    Carry E E S S w (w.setRow g cs) p where
  sub := fun _ h => h
  keep := fun k hk => setRow_other w g k cs (by rintro rfl; exact (hI.fp i hl k hg).2.1 hk)
  place := fun _ _ _ _ h => ⟨h, rfl⟩
  reads := fun a ha j hj h => ⟨h, fun _ q => q, fun k hk => setRow_other w g k cs (by
    rintro rfl
    by_cases e : j = i
    · subst e
      exact hp a ha hj h.2
    · exact hI.dis j i e h.1 hl k hk hg)⟩
theorem o_storeb {t : TypeId} {x y : Operand} {i o n : Nat} {cells us : List AC} {v : AV} (hs : szOf cx.P t = some n) (hx : s.ev x = some (.c (.ptr i o))) (hb : alook s.ob i = some (.box cells)) (hy : s.ev y = some v) (hv : v.cells = some us) (hn : Nat.beq us.length n = true) (hle : Nat.ble (o + us.length) cells.length = true) :
    Os cx s ⟨none, .store t x y, ty, pos, aft, none⟩ ⟨s.tm, (i, some (.box (putL cells o us))) :: s.ob, s.nx⟩ false := by
  refine o_gen fun a w hg => ?_
  obtain ⟨E, S, hI, hT, hsz, hdf⟩ := hg
  have hn : us.length = n := Nat.eq_of_beq_eq_true hn
  have hle : o + us.length ≤ cells.length := by simpa using hle
  obtain ⟨hlv, g, h1, h2⟩ := ev_den hT hx
  obtain ⟨_, hrd, g', e, cs, h3, hF, h4, h5⟩ := hI.obs _ _ hb
  rw [h3] at h1
  cases h1
  have hd := cells_den hv (ev_den hT hy)
  have l1 := hd.1
  rw [Array.length_toList] at l1
  have hr := run_storeAt (P := cx.P) (t := t) (o := o) (u := a.eval y) (by rw [hs, l1, hn]) h4 (by have := h5.1; omega) hd.ones
  have hgF : (E i).F g := (hF g).2 rfl
  have hc : Carry E E S S w (w.setRow g (putL cs o (a.eval y).cells.toList).toArray) no := carry_set hI hlv hgF _ (fun _ _ _ => hrd)
  refine ⟨.skip, _, ?_, .inr ⟨rfl, E, S, ?_, denT.carry hc hT, hsz, hdf⟩, fun h => by (cases h)⟩
  · simp only [execOp, h2]
    rw [Sem.run_bind, hr]
    rfl
  · refine ⟨fun q hq => by simpa using hI.slt q hq, hI.snew, fun j o' hj => ?_, hI.dis, fun j hj q hq => by simpa using hI.fp j hj q hq, hI.nxt, hI.kept.setRow (hI.fp i hlv g hgF).2.2 _⟩
    rw [alook_cons] at hj
    by_cases e' : j = i
    · subst e'
      rw [if_pos rfl] at hj
      cases hj
      exact ⟨hlv, hrd, g, e, _, h3, hF, setRow_heap w g _ _ e _ h4, denL.carry hc (putL_den hle h5 hd)⟩
    · rw [if_neg e'] at hj
      obtain ⟨q1, q2⟩ := hI.obs j o' hj
      refine ⟨q1, ?_⟩
      have := okOb.carry hc (i := j) rfl (fun _ => Iff.rfl) Iff.rfl (fun q hq => setRow_other w g q _ (by rintro rfl; exact hI.dis j i e' q1 hlv q hq hgF)) q2
      rwa [Ob.cut_none] at this

/-! ### the way out -/
inductive ResOk (P : Program) (s : St) : List ResultVar → List (Bool × List AC) → Prop
  | nil : ResOk P s [] []
  | tmp {t : Nat} {a : AC} {rs : List ResultVar} {vs : List (Bool × List AC)} (h : alook s.tm t = some (.c a)) (hr : ResOk P s rs vs) : ResOk P s (.tmp t :: rs) ((false, [a]) :: vs)
  | agg {t : Nat} {cs : List AC} {rs : List ResultVar} {vs : List (Bool × List AC)} (h : alook s.tm t = some (.agg cs)) (hr : ResOk P s rs vs) : ResOk P s (.tmp t :: rs) ((true, cs) :: vs)
  | cell {p i : Nat} {ty : TypeId} {a : AC} {rs : List ResultVar} {vs : List (Bool × List AC)} (hg : aggOf P ty = some false) (h : alook s.tm p = some (.c (.ptr i 0))) (hb : alook s.ob i = some (.box [a])) (hr : ResOk P s rs vs) : ResOk P s (.cell p ty :: rs) ((false, [a]) :: vs)
  | cells {p i n : Nat} {ty : TypeId} {cs : List AC} {rs : List ResultVar} {vs : List (Bool × List AC)} (hg : aggOf P ty = some true) (hn : szOf P ty = some n) (h : alook s.tm p = some (.c (.ptr i 0))) (hb : alook s.ob i = some (.box cs)) (hl : Nat.beq cs.length n = true) (hr : ResOk P s rs vs) : ResOk P s (.cell p ty :: rs) ((true, cs) :: vs)
def retV : List (Bool × List AC) → Option AV
  | [x] => exV x
  | vs => some (.tup vs)
def resF (tmps : Array Value) : ResultVar → Sem Value
  | .tmp t => pure (tmps.getD t undef)
  | .cell a t => do loadVar t (← asAddr (tmps.getD a undef))
theorem results_eq (fn : Func) (tmps : Array Value) : results fn tmps = (do let vs ← fn.results.mapM (resF tmps); pure (if h : vs.size = 1 then vs[0] else .tuple vs)) := by
  unfold results
  congr
theorem run_asAddr {P : Program} (a : Addr) (w : World) : (asAddr (.pointer (some a))).run P w = .ok a w := rfl
theorem run_results {E : Nat → EE} {S : Nat → Prop} {w : World} {tmps : Array Value} (hI : Inv cx s.ob s.nx E S w) (hT : denT E S w s.tm tmps) : ∀ {rs : List ResultVar} {vs : List (Bool × List AC)}, ResOk cx.P s rs vs →
    ∃ us : List Value, (rs.mapM (resF tmps)).run cx.P w = .ok us w ∧ us.length = vs.length ∧ ∀ (j : Nat) (b : Bool) (cs : List AC), vs[j]? = some (b, cs) → ∃ u', us[j]? = some u' ∧ denB E S w b cs u' := by
  intro rs vs h
  induction h with
  | nil => exact ⟨[], rfl, rfl, fun j b cs h => by simp at h⟩
  | @tmp t a rs vs h hr ih =>
    obtain ⟨us, h1, h2, h3⟩ := ih
    have hv := hT t _ h
    refine ⟨tmps.getD t undef :: us, ?_, by simp [h2], fun j b cs hj => ?_⟩
    · simp only [List.mapM_cons, Sem.run_bind, Sem.run_pure, Result.andThen_ok, h1, resF]
    · match j with
      | 0 => cases hj; exact ⟨_, rfl, by unfold denB; rw [if_neg (by simp)]; exact ⟨rfl, fun q c hq => by match q, hq with | 0, hq => cases hq; exact ⟨_, rfl, hv⟩⟩⟩
      | j + 1 => exact h3 j b cs hj
  | @agg t cl rs vs h hr ih =>
    obtain ⟨us, h1, h2, h3⟩ := ih
    have hv := hT t _ h
    refine ⟨tmps.getD t undef :: us, ?_, by simp [h2], fun j b cs hj => ?_⟩
    · simp only [List.mapM_cons, Sem.run_bind, Sem.run_pure, Result.andThen_ok, h1, resF]
    · match j with
      | 0 => cases hj; exact ⟨_, rfl, by unfold denB; rw [if_pos rfl]; exact hv⟩
      | j + 1 => exact h3 j b cs hj
  | @cell p i ty a rs vs hg h hb hr ih =>
    obtain ⟨us, h1, h2, h3⟩ := ih
    obtain ⟨hlv, g, e1, e2⟩ := hT p _ h
    obtain ⟨_, _, g', e, cs, e3, _, e4, e5⟩ := hI.obs _ _ hb
    rw [e3] at e1
    cases e1
    obtain ⟨u, e6, e7⟩ := e5.2 0 a rfl
    refine ⟨u :: us, ?_, by simp [h2], fun j b cs' hj => ?_⟩
    · have hl := run_load1 hg ((cell_of_row w g 0 _ e _ e4).trans (by simpa using e6)) (P := cx.P)
      simp only [Instr.loadAt, Instr.sureAddr, Sem.run_bind, Sem.run_pure, Result.andThen_ok] at hl
      simp only [List.mapM_cons, Sem.run_bind, Sem.run_pure, Result.andThen_ok, h1, resF, e2, run_asAddr, hl]
    · match j with
      | 0 => cases hj; exact ⟨_, rfl, by unfold denB; rw [if_neg (by simp)]; exact ⟨rfl, fun q c hq => by match q, hq with | 0, hq => cases hq; exact ⟨_, rfl, e7⟩⟩⟩
      | j + 1 => exact h3 j b cs' hj
  | @cells p i n ty cl rs vs hg hn h hb hl hr ih =>
    obtain ⟨us, h1, h2, h3⟩ := ih
    obtain ⟨hlv, g, e1, e2⟩ := hT p _ h
    obtain ⟨_, _, g', e, cs, e3, _, e4, e5⟩ := hI.obs _ _ hb
    rw [e3] at e1
    cases e1
    have hl := Nat.eq_of_beq_eq_true hl
    refine ⟨.agg cs.toArray :: us, ?_, by simp [h2], fun j b cs' hj => ?_⟩
    · have hl := run_loadA (P := cx.P) (w := w) (ad := ⟨g, 0, none⟩) (cs := cs) hg hn (by rw [e5.1, hl]) (fun j v hv => by rw [add_flat, Nat.zero_add, cell_of_row w g j _ e _ e4]; simpa using hv)
      simp only [Instr.loadAt, Instr.sureAddr, Sem.run_bind, Sem.run_pure, Result.andThen_ok] at hl
      simp only [List.mapM_cons, Sem.run_bind, Sem.run_pure, Result.andThen_ok, h1, resF, e2, run_asAddr, hl]
    · match j with
      | 0 => cases hj; exact ⟨_, rfl, by unfold denB; rw [if_pos rfl]; exact ⟨cs, rfl, e5⟩⟩
      | j + 1 => exact h3 j b cs' hj
theorem run_resultsV {E : Nat → EE} {S : Nat → Prop} {w : World} {tmps : Array Value} {fn : Func} (hI : Inv cx s.ob s.nx E S w) (hT : denT E S w s.tm tmps) {vs : List (Bool × List AC)} {v : AV} (h : ResOk cx.P s fn.results.toList vs) (hv : retV vs = some v) :
    ∃ u, (results fn tmps).run cx.P w = .ok u w ∧ denV E S w v u := by
  obtain ⟨us, h1, h2, h3⟩ := run_results hI hT h
  refine ⟨if h : us.toArray.size = 1 then us.toArray[0] else .tuple us.toArray, ?_, ?_⟩
  · rw [results_eq, Array.mapM_eq_mapM_toList, Sem.run_bind, Sem.run_map, h1]
    rfl
  · match vs, us, h2, hv, h3 with
    | [], [], _, hv, h3 => cases hv; exact ⟨[], rfl, rfl, fun j b cs h => by simp at h⟩
    | [(b, cs)], [u], _, hv, h3 =>
      obtain ⟨u', q1, q2⟩ := h3 0 b cs rfl
      cases q1
      exact exV_den hv q2
    | a :: b :: vs, u1 :: u2 :: us, _, hv, h3 =>
      cases hv
      exact ⟨_, rfl, by assumption, h3⟩
theorem t_ret {fn : Func} {vs : List (Bool × List AC)} {v : AV} (hf : cx.P.funcs[cx.f]? = some fn) (h : ResOk cx.P s fn.results.toList vs) (hv : retV vs = some v) (hR : ∀ E S w u, Inv cx s.ob s.nx E S w → denV E S w v u → R (.returned u) w) : Wt cx s (.code .ret :: k) R := by
  intro a w hg b cs hfn hk
  obtain ⟨E, S, hI, hT, hn, hdf⟩ := hg
  obtain ⟨u, h1, h2⟩ := run_resultsV hI hT h hv
  exact ⟨.returned u, w, _, hR E S w u hI h2, .one step_ret, hfn, rfl, hdf, hk, fn, by rw [show ({ b.at a (.code .ret :: k) with mode := .returning } : Frame).fn = cx.f from hfn]; exact hf, h1⟩
theorem t_end {fn : Func} {vs : List (Bool × List AC)} {v : AV} (hf : cx.P.funcs[cx.f]? = some fn) (h : ResOk cx.P s fn.results.toList vs) (hv : retV vs = some v) (hR : ∀ E S w u, Inv cx s.ob s.nx E S w → denV E S w v u → R (.returned u) w) : Wt cx s [] R := by
  intro a w hg b cs hfn hk
  obtain ⟨E, S, hI, hT, hn, hdf⟩ := hg
  obtain ⟨u, h1, h2⟩ := run_resultsV hI hT h hv
  exact ⟨.returned u, w, _, hR E S w u hI h2, .one step_end, hfn, rfl, hdf, hk, fn, by rw [show ({ b.at a [] with mode := .returning } : Frame).fn = cx.f from hfn]; exact hf, h1⟩
end rules

/-! ### contracts -/
def dead : EE := ⟨.nilIface, fun _ => False, False, False⟩
def denA (E : Nat → EE) (S : Nat → Prop) (w : World) (args : List AV) (vs : List Value) : Prop :=
  vs.length = args.length ∧ ∀ (j : Nat) (v : AV), args[j]? = some v → ∃ u, vs[j]? = some u ∧ denV E S w v u
/-- Of a function that changes nothing that was there: from arguments that read so, an answer that reads so. -/
def Pu (P : Program) (f : FuncId) (args : List AV) (ob : List (Nat × Option Ob)) (nx : Nat) (res : AV) : Prop :=
  ∀ (n : Nat) (w : World) (S : Nat → Prop) (vs : List Value), (∀ k, S k → k < w.heap.size) → denA (fun _ => dead) S w args vs →
    Calls P f vs.toArray w fun e w' => ∃ u E' S', e = .returned u ∧ Inv ⟨P, f, n, w, S, fun _ => False⟩ ob nx E' S' w' ∧ denV E' S' w' res u
def argT : Nat → List AV → List (Nat × Option AV)
  | _, [] => []
  | i, v :: r => (i, some v) :: argT (i + 1) r
theorem argT_get : ∀ (args : List AV) (i t : Nat), alook (argT i args) t = if t < i then none else args[t - i]?
  | [], i, t => by simp [argT, alook]
  | v :: r, i, t => by
    simp only [argT]
    rw [alook_cons, argT_get r (i + 1) t]
    by_cases h1 : t = i
    · subst h1; simp
    · by_cases h2 : t < i
      · rw [if_neg h1, if_pos (by omega), if_pos h2]
      · rw [if_neg h1, if_neg (by omega), if_neg h2, show t - i = (t - (i + 1)) + 1 by omega, List.getElem?_cons_succ]
def post (P : Program) (f : FuncId) (n : Nat) (w : World) (S : Nat → Prop) (ob : List (Nat × Option Ob)) (nx : Nat) (res : AV) : Ending → World → Prop :=
  fun e w' => ∃ u E' S', e = .returned u ∧ Inv ⟨P, f, n, w, S, fun _ => False⟩ ob nx E' S' w' ∧ denV E' S' w' res u
theorem post_n {P : Program} {f : FuncId} {n n' : Nat} {w : World} {S : Nat → Prop} {ob : List (Nat × Option Ob)} {nx : Nat} {res : AV} {e : Ending} {w' : World} (h : post P f n w S ob nx res e w') : post P f n' w S ob nx res e w' := by
  obtain ⟨u, E', S', h1, h2, h3⟩ := h
  exact ⟨u, E', S', h1, ⟨h2.slt, h2.snew, h2.obs, h2.dis, h2.fp, h2.nxt, h2.kept⟩, h3⟩
theorem pu_enter {P : Program} {f : FuncId} {fn : Func} {c : Code} {args : List AV} {ob : List (Nat × Option Ob)} {nx : Nat} {res : AV} (hf : P.funcs[f]? = some fn) (hb : fn.body = some c) (ha : args.length ≤ fn.ntmps)
    (h : ∀ w S, Wt ⟨P, f, fn.ntmps, w, S, fun _ => False⟩ ⟨argT 0 args, [], 0⟩ [.code c] (post P f fn.ntmps w S ob nx res)) : Pu P f args ob nx res := by
  intro n w S vs hS hA cs
  let b : Frame := { (default : Frame) with fn := f, kind := .normal }
  have henter : Frame.enter P f vs.toArray .normal = b.at { tmps := vs.toArray ++ Array.replicate (fn.ntmps - vs.toArray.size) undef, defers := [] } [.code c] := by
    simp [Frame.enter, Frame.at, hf, hb, b]
  have hg : Gm ⟨P, f, fn.ntmps, w, S, fun _ => False⟩ ⟨argT 0 args, [], 0⟩ { tmps := vs.toArray ++ Array.replicate (fn.ntmps - vs.toArray.size) undef, defers := [] } w := by
    refine ⟨fun _ => dead, S, ⟨hS, fun k h => .inl h, fun i o h => by simp [alook] at h, fun i j _ h => h.elim, fun i h => h.elim, fun i h => h.elim, Kept.refl _ _⟩, fun t v ht => ?_, ?_, rfl⟩
    · rw [show (⟨argT 0 args, [], 0⟩ : St).tm = argT 0 args from rfl, argT_get] at ht
      simp only [Nat.not_lt_zero, if_false, Nat.sub_zero] at ht
      obtain ⟨u, h1, h2⟩ := hA.2 t v ht
      have : (vs.toArray ++ Array.replicate (fn.ntmps - vs.toArray.size) undef).getD t undef = u := by
        rw [Array.getD_eq_getD_getElem?, Array.getElem?_append_left (by simpa using (List.getElem?_eq_some_iff.1 h1).1)]
        simp [h1]
      rw [show ({ tmps := vs.toArray ++ Array.replicate (fn.ntmps - vs.toArray.size) undef, defers := [] } : Act).tmps = vs.toArray ++ Array.replicate (fn.ntmps - vs.toArray.size) undef from rfl, this]
      exact h2
    · have := hA.1
      simp
      omega
  obtain ⟨e, w', fr, hR, hc, hfr, hl⟩ := h w S _ w hg b cs rfl rfl
  rw [← henter] at hc
  exact ⟨e, w', fr, post_n hR, hc, hfr, hl⟩
end Go.Eng
