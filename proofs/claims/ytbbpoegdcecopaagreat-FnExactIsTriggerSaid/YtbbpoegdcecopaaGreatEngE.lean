/- The engine, part E: boxes: made, filled, stored into. -/
import Derived.Test.YtbbpoegdcecopaaGreatEngD
import Derived.Great.BuildSlice
set_option linter.unusedVariables false
set_option linter.unusedSimpArgs false
namespace Go.Eng
open Go Go.RowKit

def no : AC → Bool := fun _ => false
def upd (E : Nat → EE) (i : Nat) (x : EE) : Nat → EE := fun j => if j = i then x else E j
theorem upd_at (E : Nat → EE) (i : Nat) (x : EE) : upd E i x i = x := if_pos rfl
theorem upd_ne {E : Nat → EE} {i j : Nat} {x : EE} (h : j ≠ i) : upd E i x j = E j := if_neg h
theorem Ob.cut_none (o : Ob) : o.cut no = o := by
  cases o with
  | box cells => show Ob.box (cells.map (AC.cut fun _ => false)) = _; rw [map_cut_none]
  | row => rfl
theorem okOb.carry {E E' : Nat → EE} {S S' : Nat → Prop} {w w' : World} {p : AC → Bool} (h : Carry E E' S S' w w' p) {i : Nat} {o : Ob} (hu : (E' i).u = (E i).u) (hF : ∀ k, (E' i).F k ↔ (E i).F k) (hr : (E' i).rd ↔ (E i).rd) (hk : ∀ k, (E i).F k → w'.heap[k]? = w.heap[k]?) (ho : okOb E S w i o) : okOb E' S' w' i (o.cut p) := by
  cases o with
  | box cells =>
    obtain ⟨h1, g, e, cs, h2, h3, h4, h5⟩ := ho
    exact ⟨fun q => h1 (hr.1 q), g, e, cs, hu.trans h2, fun k => (hF k).trans (h3 k), (hk g ((h3 g).2 rfl)).trans h4, h.l h5⟩
  | row pn e deep sz enc xs =>
    obtain ⟨h1, hpn, h2⟩ := ho
    refine ⟨hr.2 h1, fun v hv => hu.trans (hpn v hv), ?_⟩
    cases deep
    · simp only [Bool.false_eq_true, if_false] at h2 ⊢
      rw [hu]
      exact Ro.move h.sub h.keep (fun k q => (hF k).2 q) hk h2
    · simp only [if_true] at h2 ⊢
      rw [hu]
      exact OwE.move (fun k q => (hF k).2 q) hk h2
theorem denT.carry {E E' : Nat → EE} {S S' : Nat → Prop} {w w' : World} (h : Carry E E' S S' w w' no) {tm : List (Nat × Option AV)} {tmps : Array Value} (ht : denT E S w tm tmps) : denT E' S' w' tm tmps := by
  intro t v hv
  have := h.v (ht t v hv)
  rwa [show v.cut no = v from AV.cut_none v] at this
theorem denL.carry {E E' : Nat → EE} {S S' : Nat → Prop} {w w' : World} (h : Carry E E' S S' w w' no) {cs : List AC} {us : List Value} (ht : denL E S w cs us) : denL E' S' w' cs us := by
  have := h.l ht
  rwa [show cs.map (AC.cut no) = cs from map_cut_none cs] at this
theorem Kept.alloc {M : Nat → Prop} {w0 w : World} (h : Kept M w0 w) (o : Obj) : Kept M w0 (w.alloc o) :=
  ⟨h.os, h.tape, h.output, Nat.le_trans h.size (by simp), fun k hk hm => (heap_alloc_old w o (Nat.lt_of_lt_of_le hk h.size)).trans (h.block k hk hm)⟩
theorem carry_alloc {cx : Cx} {ob : List (Nat × Option Ob)} {nx : Nat} {E : Nat → EE} {S : Nat → Prop} {w : World} (hI : Inv cx ob nx E S w) (o : Obj) (x : EE) : Carry E (upd E nx x) S S w (w.alloc o) no where
  sub := fun _ h => h
  keep := fun k hk => heap_alloc_old w o (hI.slt k hk)
  place := fun a _ i _ hl => by
    have := hI.nxt i hl
    rw [upd_ne (by omega)]
    exact ⟨hl, rfl⟩
  reads := fun a _ i _ hl => by
    have := hI.nxt i hl.1
    rw [upd_ne (by omega)]
    exact ⟨hl, fun _ q => q, fun k hk => heap_alloc_old w o (hI.fp i hl.1 k hk).1⟩
/-- A new object, of whatever kind. -/
theorem Inv.new {cx : Cx} {ob : List (Nat × Option Ob)} {nx : Nat} {E : Nat → EE} {S : Nat → Prop} {w : World} (hI : Inv cx ob nx E S w) (o : Obj) {u : Value} {rd : Prop} {n : Ob}
    (hn : okOb (upd E nx ⟨u, (· = w.heap.size), True, rd⟩) S (w.alloc o) nx n) : Inv cx ((nx, some n) :: ob) (nx + 1) (upd E nx ⟨u, (· = w.heap.size), True, rd⟩) S (w.alloc o) where
  slt := fun k hk => by have := hI.slt k hk; simp; omega
  snew := hI.snew
  obs := fun i o' h => by
    rw [alook_cons] at h
    by_cases e : i = nx
    · subst e
      rw [if_pos rfl] at h
      cases h
      exact ⟨by rw [upd_at]; trivial, hn⟩
    · rw [if_neg e] at h
      obtain ⟨h1, h2⟩ := hI.obs i o' h
      refine ⟨by rw [upd_ne e]; exact h1, ?_⟩
      have := okOb.carry (carry_alloc hI o ⟨u, (· = w.heap.size), True, rd⟩) (i := i) (by rw [upd_ne e]) (fun k => by rw [upd_ne e]) (by rw [upd_ne e]) (fun k hk => heap_alloc_old w o (hI.fp i h1 k hk).1) h2
      rwa [Ob.cut_none] at this
  dis := fun i j hij hi hj k h1 h2 => by
    by_cases e1 : i = nx
    · subst e1
      have e2 : j ≠ i := fun e => hij e.symm
      rw [upd_ne e2] at hj h2
      rw [upd_at] at h1
      have := (hI.fp j hj k h2).1
      have h1 : k = w.heap.size := h1
      omega
    · rw [upd_ne e1] at hi h1
      by_cases e2 : j = nx
      · subst e2
        rw [upd_at] at h2
        have := (hI.fp i hi k h1).1
        have h2 : k = w.heap.size := h2
        omega
      · rw [upd_ne e2] at hj h2
        exact hI.dis i j hij hi hj k h1 h2
  fp := fun i hi k hk => by
    by_cases e : i = nx
    · subst e
      rw [upd_at] at hk
      have hk : k = w.heap.size := hk
      subst hk
      refine ⟨by simp, fun h => ?_, .inl hI.kept.size⟩
      have := hI.slt _ h
      omega
    · rw [upd_ne e] at hi hk
      obtain ⟨h1, h2⟩ := hI.fp i hi k hk
      exact ⟨by simp; omega, h2⟩
  nxt := fun i hi => by
    by_cases e : i = nx
    · omega
    · rw [upd_ne e] at hi
      have := hI.nxt i hi
      omega
  kept := hI.kept.alloc o
theorem Inv.newBox {cx : Cx} {ob : List (Nat × Option Ob)} {nx : Nat} {E : Nat → EE} {S : Nat → Prop} {w : World} (hI : Inv cx ob nx E S w) (e : TypeId) {cells : List AC} {cs : List Value} (hd : denL E S w cells cs) :
    Inv cx ((nx, some (.box cells)) :: ob) (nx + 1) (upd E nx ⟨.pointer (some ⟨w.heap.size, 0, none⟩), (· = w.heap.size), True, False⟩) S (w.alloc (.cells cs.toArray e (0, 0))) :=
  hI.new _ ⟨by rw [upd_at]; exact fun q => q, w.heap.size, e, cs, by rw [upd_at], fun k => by rw [upd_at], heap_alloc_new w _, denL.carry (carry_alloc hI _ _) hd⟩

def AV.cells : AV → Option (List AC)
  | .c a => some [a]
  | .agg cs => some cs
  | .tup _ => none
theorem cells_den {E : Nat → EE} {S : Nat → Prop} {w : World} {v : AV} {u : Value} {cs : List AC} (hc : v.cells = some cs) (h : denV E S w v u) : denL E S w cs u.cells.toList := by
  cases v with
  | c a =>
    cases hc
    have h : denC E S w a u := h
    have : u.cells = #[u] := by have := h.one; cases u <;> first | rfl | (simp [Value.oneCell'] at this)
    rw [this]
    refine ⟨rfl, fun j c hj => ?_⟩
    match j, hj with
    | 0, hj => cases hj; exact ⟨u, rfl, h⟩
  | agg cs' =>
    cases hc
    obtain ⟨us, rfl, h⟩ := h
    exact h
  | tup => cases hc

section rules
variable {cx : Cx} {s : St} {k : List Item} {R : Ending → World → Prop} {ops : Array Oper} {rest : List Oper} {dst : Option Nat} {ty : TypeId} {pos : String} {aft : Array Edge}
def St.obj (s : St) (i : Nat) (o : Ob) : St := ⟨s.tm, (i, some o) :: s.ob, i + 1⟩
/-- A new block of known cells, its address in the slot. -/
theorem Gm.box {a : Act} {w : World} {E : Nat → EE} {S : Nat → Prop} (hI : Inv cx s.ob s.nx E S w) (hT : denT E S w s.tm a.tmps) (hn : a.tmps.size = cx.n) (hdf : a.defers = []) (hd : okd dst cx.n = true) (e : TypeId) {cells : List AC} {cs : List Value} (hc : denL E S w cells cs) {v : AV} {u : Value}
    (hv : ∀ E', (E' s.nx).live → (E' s.nx).u = .pointer (some ⟨w.heap.size, 0, none⟩) → denV E' S (w.alloc (.cells cs.toArray e (0, 0))) v u) :
    Gm cx ((s.obj s.nx (.box cells)).sets dst (some v)) (a.put dst u) (w.alloc (.cells cs.toArray e (0, 0))) := by
  refine ⟨upd E s.nx ⟨.pointer (some ⟨w.heap.size, 0, none⟩), (· = w.heap.size), True, False⟩, S, ?_, denT_puts (s := s.obj s.nx (.box cells)) hd hn (denT.carry (carry_alloc hI _ _) hT) (fun v' e => ?_), by rw [put_size]; exact hn, by rw [put_defers]; exact hdf⟩
  · rw [sets_ob, sets_nx]
    exact hI.newBox e hc
  · cases e
    exact hv _ (by rw [upd_at]; trivial) (by rw [upd_at])
theorem o_box (i : Nat) {t : TypeId} {x : Operand} {v : AV} {cs : List AC} (hi : s.nx = i) (hd : okd dst cx.n = true) (hx : s.ev x = some v) (hc : v.cells = some cs) :
    Os cx s ⟨dst, .box t x, ty, pos, aft, none⟩ ((s.obj i (.box cs)).sets dst (some (.c (.ptr i 0)))) true := by
  subst hi
  refine o_gen fun a w hg => ?_
  obtain ⟨E, S, hI, hT, hn, hdf⟩ := hg
  have hv := cells_den hc (ev_den hT hx)
  refine ⟨.value (.pointer (some ⟨w.heap.size, 0, none⟩)), w.alloc (.cells (a.eval x).cells.toList.toArray t (0, 0)), ?_, .inl ⟨_, rfl, ?_⟩, fun _ => Ext.alloc _ _⟩
  · simp [execOp, Instr.box, newVar, newRow]
  · exact Gm.box hI hT hn hdf hd t hv fun E' hl hu => ⟨hl, _, hu, rfl⟩
def zeroOf (P : Program) (t : TypeId) : Option (List Value) := ((P.info? t).bind (·.zero)).map (·.cells.toList)
def zcs (zs : List Value) : List AC := zs.map fun z => .t none (.v z)
theorem zcs_den {E : Nat → EE} {S : Nat → Prop} {w : World} {zs : List Value} (h : zs.all (·.oneCell') = true) : denL E S w (zcs zs) zs := by
  refine ⟨by simp [zcs], fun j c hj => ?_⟩
  simp only [zcs, List.getElem?_map] at hj
  obtain ⟨z, h1, rfl⟩ := Option.map_eq_some_iff.mp hj
  exact ⟨z, h1, trivial, rfl, (List.all_eq_true.1 h) z (List.mem_of_getElem? h1)⟩
theorem run_zero {P : Program} {t : TypeId} {zs : List Value} (h : zeroOf P t = some zs) (w : World) : ∃ z, (zeroValue t).run P w = .ok z w ∧ z.cells = zs.toArray := by
  unfold zeroOf at h
  obtain ⟨z, h1, rfl⟩ := Option.map_eq_some_iff.mp h
  obtain ⟨i, h2, h3⟩ := Option.bind_eq_some_iff.mp h1
  exact ⟨z, by simp [zeroValue, typeInfo, h2, h3], by simp⟩
theorem o_alloc (i : Nat) {t : TypeId} {zs : List Value} (hi : s.nx = i) (hd : okd dst cx.n = true) (hz : zeroOf cx.P t = some zs) (h1 : zs.all (·.oneCell') = true) :
    Os cx s ⟨dst, .alloc t, ty, pos, aft, none⟩ ((s.obj i (.box (zcs zs))).sets dst (some (.c (.ptr i 0)))) true := by
  subst hi
  refine o_gen fun a w hg => ?_
  obtain ⟨E, S, hI, hT, hn, hdf⟩ := hg
  obtain ⟨z, h2, h3⟩ := run_zero hz w
  refine ⟨.value (.pointer (some ⟨w.heap.size, 0, none⟩)), w.alloc (.cells zs.toArray t (0, 0)), ?_, .inl ⟨_, rfl, ?_⟩, fun _ => Ext.alloc _ _⟩
  · simp [execOp, Instr.alloc, newVar, newRow, h2, h3]
  · exact Gm.box hI hT hn hdf hd t (zcs_den h1) fun E' hl hu => ⟨hl, _, hu, rfl⟩

/-! ### literals -/
def putL {β : Type _} (cs : List β) (o : Nat) (us : List β) : List β := cs.take o ++ us ++ cs.drop (o + us.length)
def fillL (pl : Nat → Option (Nat × Nat)) : List AC → List (Nat × AV) → Option (List AC)
  | cs, [] => some cs
  | cs, (i, v) :: r => match pl i, v.cells with
    | some (off, size), some us => cond (Nat.beq us.length size && Nat.ble (off + us.length) cs.length) (fillL pl (putL cs off us) r) none
    | _, _ => none
theorem putL_den {E : Nat → EE} {S : Nat → Prop} {w : World} {cs us : List AC} {vs ws : List Value} {o : Nat} (hb : o + us.length ≤ cs.length) (h : denL E S w cs vs) (h2 : denL E S w us ws) : denL E S w (putL cs o us) (putL vs o ws) := by
  have l1 := h.1
  have l2 := h2.1
  refine ⟨by simp [putL]; omega, fun j c hj => ?_⟩
  unfold putL at hj ⊢
  by_cases h1 : j < o
  · rw [List.append_assoc, List.getElem?_append_left (by simp; omega), List.getElem?_take, if_pos h1] at hj
    obtain ⟨u, q1, q2⟩ := h.2 j c hj
    exact ⟨u, by rw [List.append_assoc, List.getElem?_append_left (by simp; omega), List.getElem?_take, if_pos h1]; exact q1, q2⟩
  · by_cases h3 : j < o + us.length
    · rw [List.getElem?_append_left (by simp; omega), List.getElem?_append_right (by simp; omega)] at hj
      simp only [List.length_take, Nat.min_eq_left (by omega : o ≤ cs.length)] at hj
      obtain ⟨u, q1, q2⟩ := h2.2 _ c hj
      refine ⟨u, ?_, q2⟩
      rw [List.getElem?_append_left (by simp; omega), List.getElem?_append_right (by simp; omega)]
      simp only [List.length_take, Nat.min_eq_left (by omega : o ≤ vs.length)]
      exact q1
    · rw [List.getElem?_append_right (by simp; omega)] at hj
      simp only [List.length_append, List.length_take, Nat.min_eq_left (by omega : o ≤ cs.length), List.getElem?_drop] at hj
      obtain ⟨u, q1, q2⟩ := h.2 _ c hj
      refine ⟨u, ?_, q2⟩
      rw [List.getElem?_append_right (by simp; omega)]
      simp only [List.length_append, List.length_take, Nat.min_eq_left (by omega : o ≤ vs.length), List.getElem?_drop]
      rw [← q1]
      congr 1
      omega
theorem foldl_put (us : List Value) : ∀ (cs : Array Value) (o n : Nat), o + n + us.length ≤ cs.size → ((us.zipIdx n).foldl (fun cs (x : Value × Nat) => cs.setIfInBounds (o + x.2) x.1) cs).toList = putL cs.toList (o + n) us := by
  induction us with
  | nil => intro cs o n h; simp [putL]
  | cons u us ih =>
    intro cs o n h
    simp only [List.length_cons] at h
    simp only [List.zipIdx_cons, List.foldl_cons]
    rw [ih _ _ _ (by simp; omega)]
    apply List.ext_getElem?
    intro j
    simp only [putL, Array.toList_setIfInBounds, List.length_cons]
    by_cases h1 : j < o + n
    · rw [List.append_assoc, List.getElem?_append_left (by simp; omega), List.append_assoc, List.getElem?_append_left (by simp; omega), List.getElem?_take, List.getElem?_take, if_pos (by omega), if_pos h1, List.getElem?_set, if_neg (by omega)]
    · by_cases h2 : j = o + n
      · subst h2
        rw [List.append_assoc, List.getElem?_append_left (by simp; omega), List.getElem?_take, if_pos (by omega), List.getElem?_set, if_pos rfl, if_pos (by simp; omega)]
        rw [List.append_assoc, List.getElem?_append_right (by simp; omega)]
        simp [Nat.min_eq_left (by omega : o + n ≤ cs.size)]
      · by_cases h3 : j < o + n + 1 + us.length
        · rw [List.getElem?_append_left (by simp; omega), List.getElem?_append_right (by simp; omega), List.getElem?_append_left (by simp; omega), List.getElem?_append_right (by simp; omega)]
          simp only [List.length_take, List.length_set, Array.length_toList, Nat.min_eq_left (by omega : o + n ≤ cs.size), Nat.min_eq_left (by omega : o + (n + 1) ≤ cs.size)]
          rw [show j - (o + n) = (j - (o + (n + 1))) + 1 by omega, List.getElem?_cons_succ]
        · rw [List.getElem?_append_right (by simp; omega), List.getElem?_append_right (by simp; omega)]
          simp only [List.length_append, List.length_take, List.length_set, List.length_cons, Array.length_toList, Nat.min_eq_left (by omega : o + n ≤ cs.size), Nat.min_eq_left (by omega : o + (n + 1) ≤ cs.size), List.getElem?_drop]
          rw [List.getElem?_set, if_neg (by omega)]
          congr 1
          omega
/-- The parts of a literal. -/
def evL (s : St) : List (Nat × Operand) → Option (List (Nat × AV))
  | [] => some []
  | (i, x) :: r => match s.ev x, evL s r with
    | some v, some l => some ((i, v) :: l)
    | _, _ => none
theorem fill_den {E : Nat → EE} {S : Nat → Prop} {w : World} {a : Act} (hT : denT E S w s.tm a.tmps) {pl : Nat → Option (Nat × Nat)} : ∀ (parts : List (Nat × Operand)) (vs : List (Nat × AV)) (cs cs' : List AC) (us : Array Value), evL s parts = some vs → fillL pl cs vs = some cs' → denL E S w cs us.toList →
    ∃ us', Instr.fill pl us (parts.map fun (i, x) => (i, a.eval x)) = some us' ∧ denL E S w cs' us'.toList
  | [], vs, cs, cs', us, h1, h2, h3 => by
    cases h1
    cases h2
    exact ⟨us, rfl, h3⟩
  | (i, x) :: r, vs, cs, cs', us, h1, h2, h3 => by
    simp only [evL] at h1
    split at h1
    · rename_i v l hv hl
      cases h1
      simp only [fillL] at h2
      split at h2
      · rename_i off size cl hp hc
        have hcd := cells_den hc (ev_den hT hv)
        cases hb : (Nat.beq cl.length size && Nat.ble (off + cl.length) cs.length)
        · rw [hb] at h2; cases h2
        · rw [hb, cond_true] at h2
          rw [Bool.and_eq_true] at hb
          obtain ⟨hb1, hb2⟩ := hb
          have hb1 : cl.length = size := Nat.eq_of_beq_eq_true hb1
          have hb2 : off + cl.length ≤ cs.length := by simpa using hb2
          have q1 := hcd.1
          have q2 := h3.1
          rw [Array.length_toList] at q1 q2
          have hden := putL_den (o := off) hb2 h3 hcd
          have hput := foldl_put (a.eval x).cells.toList us off 0 (by simp; omega)
          rw [Nat.add_zero] at hput
          rw [← hput] at hden
          obtain ⟨us', h4, h5⟩ := fill_den hT r l _ cs' _ hl h2 hden
          refine ⟨us', ?_, h5⟩
          simp only [List.map_cons, Instr.fill, hp]
          rw [if_neg (by simp; omega)]
          rw [← h4]
          congr 1
          rw [← Array.foldl_toList, Array.toList_zipIdx]
      · cases h2
    · cases h1
def placesOf (P : Program) (t : TypeId) : Option (List (Nat × Nat)) :=
  match P.underlying t with
  | some (.struct fs) => fs.toList.mapM fun f => (P.info? f.type).map fun i => (f.offset, i.size)
  | _ => none
theorem p_build {t : TypeId} {parts : Array (Nat × Operand)} {pl : List (Nat × Nat)} {zs : List Value} {vs : List (Nat × AV)} {cs : List AC} (hp : placesOf cx.P t = some pl) (hz : zeroOf cx.P t = some zs) (h1 : zs.all (·.oneCell') = true) (hv : evL s parts.toList = some vs) (hc : fillL (pl[·]?) (zcs zs) vs = some cs) :
    Ps cx s (.build t parts) ((.agg cs)) :=
  fun a w E S hI hT => by
    obtain ⟨us', h4, h5⟩ := fill_den hT parts.toList vs (zcs zs) cs zs.toArray hv hc (by simpa using zcs_den h1)
    refine ⟨.agg us', fun w' hW _ _ _ _ _ => ?_, us'.toList, by simp, h5⟩
    unfold zeroOf at hz
    obtain ⟨z, e1, rfl⟩ := Option.map_eq_some_iff.mp hz
    obtain ⟨i, e2, e3⟩ := Option.bind_eq_some_iff.mp e1
    unfold placesOf at hp
    split at hp
    · rename_i fs hu
      have hb : cx.P.built t (parts.map fun (i, x) => (i, a.eval x)).toList = some us' := by
        unfold Program.built
        rw [e2, hu]
        simp only [e3, hp]
        rw [Array.toList_map]
        simp only [Array.toArray_toList, List.getElem?_toArray] at h4 ⊢
        exact h4
      simp only [execOp]
      rw [Sem.run_bind, run_build w' t _ us' hb]
      rfl
    · cases hp
theorem o_build {t : TypeId} {parts : Array (Nat × Operand)} {pl : List (Nat × Nat)} {zs : List Value} {vs : List (Nat × AV)} {cs : List AC} (hd : okd dst cx.n = true) (hp : placesOf cx.P t = some pl) (hz : zeroOf cx.P t = some zs) (h1 : zs.all (·.oneCell') = true) (hv : evL s parts.toList = some vs) (hc : fillL (pl[·]?) (zcs zs) vs = some cs) :
    Os cx s ⟨dst, .build t parts, ty, pos, aft, none⟩ (s.sets dst (some (.agg cs))) true := o_value hd (p_build hp hz h1 hv hc)
end rules
end Go.Eng
