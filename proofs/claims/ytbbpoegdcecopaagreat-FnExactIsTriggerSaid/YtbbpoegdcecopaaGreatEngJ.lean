/- The engine, part J: rows stored into, made, begun. -/
import Derived.Test.YtbbpoegdcecopaaGreatEngI
set_option linter.unusedVariables false
set_option linter.unusedSimpArgs false
namespace Go.Eng
open Go Go.RowKit

/-- A zero value, and what it reads as. -/
inductive Zr : T → Value → Prop
  | v {x : Value} (h : x.oneCell' = true) : Zr (.v x) x
  | sl {α : Type} {sz : Nat} {enc : α → Nat → T} : Zr (.sl sz enc []) (.slice none 0 0)
inductive ZrL (c : Nat → T) : Nat → List Value → Prop
  | nil {j : Nat} : ZrL c j []
  | cons {j : Nat} {v : Value} {vs : List Value} (h : Zr (c j) v) (hr : ZrL c (j + 1) vs) : ZrL c j (v :: vs)
theorem ZrL.get {c : Nat → T} {st : Nat} {vs : List Value} (h : ZrL c st vs) : ∀ q v, vs[q]? = some v → Zr (c (st + q)) v := by
  induction h with
  | nil => intro q v h; simp at h
  | @cons j v0 vs h hr ih =>
    intro q v hq
    match q with
    | 0 => cases hq; exact h
    | q + 1 =>
      have := ih q v (by simpa using hq)
      rwa [show j + (q + 1) = j + 1 + q by omega]
theorem ZrL.get0 {c : Nat → T} {vs : List Value} (h : ZrL c 0 vs) (q : Nat) (v : Value) (hq : vs[q]? = some v) : Zr (c q) v := by
  have := h.get q v hq
  rwa [Nat.zero_add] at this
theorem Zr.rd {w : World} {S : Nat → Prop} {t : T} {v : Value} (h : Zr t v) : Rd w S t v := by
  cases h with
  | v h => exact ⟨rfl, h⟩
  | sl => exact nil_rd
theorem Zr.ow {w : World} {t : T} {v : Value} (h : Zr t v) : Ow w t v (fun _ => False) := by
  cases h with
  | v h => exact ⟨rfl, h⟩
  | sl => exact ⟨0, [], fun _ _ _ => False, World.ownsRow_nil _ _ _ _, fun g h => by simp [Value.ownBlock] at h, fun _ _ _ h => h.elim, fun _ _ _ _ _ h => h.elim, fun i x h => by simp at h⟩
theorem putL_len {β : Type _} {cs us : List β} {q : Nat} (h : q + us.length ≤ cs.length) : (putL cs q us).length = cs.length := by simp [putL]; omega
theorem putL_get {β : Type _} {cs us : List β} {q : Nat} (h : q + us.length ≤ cs.length) (j : Nat) : (putL cs q us)[j]? = if j < q then cs[j]? else if j < q + us.length then us[j - q]? else cs[j]? := by
  unfold putL
  split
  · rename_i h1
    rw [List.append_assoc, List.getElem?_append_left (by simp; omega), List.getElem?_take, if_pos h1]
  · rename_i h1
    split
    · rename_i h2
      rw [List.getElem?_append_left (by simp; omega), List.getElem?_append_right (by simp; omega)]
      simp only [List.length_take, Nat.min_eq_left (by omega : q ≤ cs.length)]
    · rename_i h2
      rw [List.getElem?_append_right (by simp; omega)]
      simp only [List.length_append, List.length_take, Nat.min_eq_left (by omega : q ≤ cs.length), List.getElem?_drop]
      congr 1
      omega
theorem putL_take {β : Type _} {cs us : List β} {q n : Nat} (h : q + us.length ≤ n) (hn : n ≤ cs.length) : (putL cs q us).take n = putL (cs.take n) q us := by
  apply List.ext_getElem?
  intro j
  rw [List.getElem?_take, putL_get (by omega), putL_get (by simp; omega)]
  simp only [List.getElem?_take]
  split
  · rfl
  · rename_i h1
    rw [if_neg (by omega), if_neg (by omega)]
theorem own_put {w : World} {e g : Nat} {size n cap : Nat} {cells us : List Value} {q : Nat} (h : w.ownsRow 0 e size (.slice (some ⟨g, 0, none⟩) n cap) n cells) (hq : q + us.length ≤ n * size) :
    ∃ cur : List Value, w.heap[g]? = some (.cells cur.toArray e (0, 0)) ∧ q + us.length ≤ cur.length ∧ (w.setRow g (putL cur q us).toArray).ownsRow 0 e size (.slice (some ⟨g, 0, none⟩) n cap) n (putL cells q us) := by
  obtain ⟨h1, h2⟩ := h
  rcases h2 with ⟨h2, _⟩ | ⟨g', cap', cur, h2, h3, h4, h5, h6, h7, h8⟩
  · cases h2
  · cases h2
    have hc : n * size ≤ cur.toList.length := by rw [Array.length_toList, h7]; exact Nat.mul_le_mul_right _ h5
    refine ⟨cur.toList, by simpa using h4, by omega, by rw [putL_len (by omega)]; exact h1, .inr ⟨g, cap, _, rfl, h3, setRow_heap w g cur _ e _ h4, h5, h6, ?_, ?_⟩⟩
    · rw [List.size_toArray, putL_len (by omega), Array.length_toList, h7]
    · simp only [List.toList_toArray]
      rw [putL_take hq hc, h8]
theorem nat_far {a e b o sz : Nat} (h : a ≠ e) (hb : b < sz) (n : Nat) (ho : o + n ≤ sz) : a * sz + b < e * sz + o ∨ e * sz + o + n ≤ a * sz + b := by
  rcases Nat.lt_or_gt_of_ne h with h | h
  · have : (a + 1) * sz ≤ e * sz := Nat.mul_le_mul_right sz h
    rw [Nat.add_mul] at this
    omega
  · have : (e + 1) * sz ≤ a * sz := Nat.mul_le_mul_right sz h
    rw [Nat.add_mul] at this
    omega
section rules
variable {cx : Cx} {s : St} {k : List Item} {R : Ending → World → Prop} {ops : Array Oper} {rest : List Oper} {dst : Option Nat} {ty : TypeId} {pos : String} {aft : Array Edge}
def cutR (i : Nat) (is : List Nat) : AC → Bool := fun a => a.reads i || is.any fun q => a.names q
/-- A store into an element of an own row: z' is the element as it is then. -/
theorem o_storeo {pn : Option Value} {t et : TypeId} {x y : Operand} {i a sz o n : Nat} {deep : Bool} {α : Type} {enc : α → Nat → T} {xs : List α} {z : α} (z' : α) {v : AV} {us : List AC} {is : List Nat} (hs : szOf cx.P t = some n) (hx : s.ev x = some (.c (.poe i a sz o))) (hb : alook s.ob i = some (.row pn et deep sz enc xs)) (hz : xs[a]? = some z)
    (hy : s.ev y = some v) (hv : v.cells = some us) (hn : Nat.beq us.length n = true) (hle : Nat.ble (o + us.length) sz = true) (hm : MvL s deep us (enc z') o is) (hii : is.all (fun k => !Nat.beq k i) = true) (hrest : ∀ j, j < sz → j < o ∨ o + us.length ≤ j → enc z' j = enc z j) :
    Os cx s ⟨none, .store t x y, ty, pos, aft, none⟩ ⟨cutT (cutR i is) s.tm, (i, some (.row pn et deep sz enc (xs.set a z'))) :: dels is (cutO (cutR i is) s.ob), s.nx⟩ false := by
  refine o_gen fun ac w hg => ?_
  obtain ⟨E, S, hI, hT, hsz, hdf⟩ := hg
  have hn : us.length = n := Nat.eq_of_beq_eq_true hn
  have hle : o + us.length ≤ sz := by simpa using hle
  have halt : a < xs.length := (List.getElem?_eq_some_iff.1 hz).1
  obtain ⟨hli, g, n', cap, hu, hadr⟩ := ev_den hT hx
  obtain ⟨_, hrd, hpn, ho⟩ := hI.obs _ _ hb
  have hd := cells_den hv (ev_den hT hy)
  have hvl : (ac.eval y).cells.toList.length = us.length := hd.1
  obtain ⟨m1, m2, m3⟩ := hm.den hI hd
  have hown : ∃ cells, w.ownsRow 0 et sz (E i).u xs.length cells := by
    cases deep
    · simp only [Bool.false_eq_true, if_false] at ho
      obtain ⟨cells, h1, _⟩ := ho
      exact ⟨cells, h1⟩
    · simp only [if_true] at ho
      obtain ⟨cells, G, h1, _⟩ := ho
      exact ⟨cells, h1⟩
  obtain ⟨cells0, hown0⟩ := hown
  have hnn : n' = xs.length := by
    obtain ⟨A, c, e1, _⟩ := own_slice' hown0
    rw [hu] at e1
    cases e1
    rfl
  subst hnn
  have hblk : (E i).F g := by
    cases deep
    · simp only [Bool.false_eq_true, if_false] at ho
      obtain ⟨cells, _, h2, _⟩ := ho
      exact h2 g (by rw [hu]; rfl)
    · simp only [if_true] at ho
      obtain ⟨cells, G, _, h2, _⟩ := ho
      exact h2 g (by rw [hu]; rfl)
  have hfit : a * sz + o + (ac.eval y).cells.toList.length ≤ xs.length * sz := by
    have : (a + 1) * sz ≤ xs.length * sz := Nat.mul_le_mul_right sz halt
    rw [Nat.add_mul] at this
    omega
  rw [hu] at hown0
  obtain ⟨cur, c1, c2, c3⟩ := own_put (us := (ac.eval y).cells.toList) (q := a * sz + o) hown0 hfit
  have hr := run_storeAt (P := cx.P) (t := t) (o := a * sz + o) (u := ac.eval y) (by rw [hs, ← hn, ← hvl, Array.length_toList]) c1 (by rw [← Array.length_toList]; exact c2) hd.ones
  have hput : ∀ cells, w.ownsRow 0 et sz (E i).u xs.length cells → (w.setRow g (putL cur (a * sz + o) (ac.eval y).cells.toList).toArray).ownsRow 0 et sz (E i).u xs.length (putL cells (a * sz + o) (ac.eval y).cells.toList) := fun cells hc => by
    rw [hu] at hc ⊢
    obtain ⟨cur', d1, d2, d3⟩ := own_put (us := (ac.eval y).cells.toList) (q := a * sz + o) hc hfit
    rw [c1] at d1
    have : cur = cur' := by
      have e := Option.some.inj d1
      injection e with e
      simpa using congrArg Array.toList e
    subst this
    exact d3
  have hw : ∀ q, q < w.heap.size → ¬ (E i).F q → (w.setRow g (putL cur (a * sz + o) (ac.eval y).cells.toList).toArray).heap[q]? = w.heap[q]? := fun q _ hf => setRow_other w g q _ (by rintro rfl; exact hf hblk)
  let F1 : Nat → Prop := fun k => (E i).F k ∨ ∃ q ∈ is, (E q).F k
  have hsl : (xs.set a z').length = xs.length := List.length_set
  have hgo : ∀ (cells : List Value) (b c : Nat), w.ownsRow 0 et sz (E i).u xs.length cells → b < xs.length → c < sz → (b ≠ a ∨ c < o ∨ o + us.length ≤ c) → (putL cells (a * sz + o) (ac.eval y).cells.toList)[b * sz + c]? = cells[b * sz + c]? := fun cells b c hc hb hcs hne => by
    rw [putL_get (by rw [hc.1]; exact hfit)]
    by_cases e : b = a
    · subst e
      rcases hne with hne | hne | hne
      · exact absurd rfl hne
      · rw [if_pos (by omega)]
      · rw [if_neg (by omega), if_neg (by omega)]
    · rcases nat_far e hcs us.length hle with h1 | h1
      · rw [if_pos h1]
      · rw [if_neg (by omega), if_neg (by omega)]
  have hgn : ∀ (cells : List Value) (c : Nat), w.ownsRow 0 et sz (E i).u xs.length cells → o ≤ c → c < o + us.length → (putL cells (a * sz + o) (ac.eval y).cells.toList)[a * sz + c]? = (ac.eval y).cells.toList[c - o]? := fun cells c hc h1 h2 => by
    rw [putL_get (by rw [hc.1]; exact hfit), if_neg (by omega), if_pos (by omega)]
    congr 1
    omega
  have hset : ∀ (b : Nat) (x' : α), (xs.set a z')[b]? = some x' → (b = a ∧ x' = z') ∨ (b ≠ a ∧ xs[b]? = some x') := fun b x' hx' => by
    rw [List.getElem?_set] at hx'
    by_cases e : a = b
    · subst e
      rw [if_pos rfl, if_pos halt] at hx'
      exact .inl ⟨rfl, (Option.some.inj hx').symm⟩
    · rw [if_neg e] at hx'
      exact .inr ⟨fun q => e q.symm, hx'⟩
  have hobj : okOb (takeE E i is ⟨(E i).u, F1, True, True⟩) S (w.setRow g (putL cur (a * sz + o) (ac.eval y).cells.toList).toArray) i (.row pn et deep sz enc (xs.set a z')) := by
    refine ⟨by rw [takeE_at]; trivial, by rw [takeE_at]; exact hpn, ?_⟩
    rw [takeE_at]
    have hS : ∀ k, S k → (w.setRow g (putL cur (a * sz + o) (ac.eval y).cells.toList).toArray).heap[k]? = w.heap[k]? := fun k hk => hw k (hI.slt k hk) fun hf => (hI.fp i hli k hf).2.1 hk
    cases deep
    · simp only [Bool.false_eq_true, if_false] at ho ⊢
      obtain ⟨cells, h1, h2, h3⟩ := ho
      refine ⟨_, by rw [hsl]; exact hput cells h1, fun g' hg' => .inl (h2 g' hg'), fun b x' hx' c hc => ?_⟩
      rcases hset b x' hx' with ⟨rfl, rfl⟩ | ⟨e, hxb⟩
      · by_cases h4 : o ≤ c ∧ c < o + us.length
        · obtain ⟨u', e1, e2⟩ := (m2 rfl).2 (c - o) (by omega)
          refine ⟨u', by rw [hgn cells c h1 h4.1 h4.2]; exact e1, Rd.move (fun _ q => q) hS _ _ ?_⟩
          rwa [show o + (c - o) = c by omega] at e2
        · obtain ⟨u', e1, e2⟩ := h3 b z hz c hc
          refine ⟨u', by rw [hgo cells b c h1 halt hc (.inr (by omega))]; exact e1, ?_⟩
          rw [hrest c hc (by omega)]
          exact Rd.move (fun _ q => q) hS _ _ e2
      · obtain ⟨u', e1, e2⟩ := h3 b x' hxb c hc
        exact ⟨u', by rw [hgo cells b c h1 (List.getElem?_eq_some_iff.1 hxb).1 hc (.inl e)]; exact e1, Rd.move (fun _ q => q) hS _ _ e2⟩
    · simp only [if_true] at ho ⊢
      obtain ⟨cells, G, h1, h2, h3, h4, h5⟩ := ho
      obtain ⟨Gz, g1, g2, g3⟩ := m3 rfl
      have hGzi : ∀ b k, Gz b k → ¬ (E i).F k ∧ k < w.heap.size := fun b k hk => by
        obtain ⟨q, hq, hf⟩ := g1 b k hk
        exact ⟨fun hi' => hI.dis q i (fun e => by have := (List.all_eq_true.1 hii) q hq; subst e; simp at this) (m1 q hq) hli k hf hi', (hI.fp q (m1 q hq) k hf).1⟩
      have hub : (E i).u.ownBlock = some g := by rw [hu]; rfl
      have hkG : ∀ b c k, G b c k → (w.setRow g (putL cur (a * sz + o) (ac.eval y).cells.toList).toArray).heap[k]? = w.heap[k]? := fun b c k hk => setRow_other w g k _ (by rintro rfl; exact (h3 b c k hk).2 hub)
      have hkZ : ∀ c k, Gz c k → (w.setRow g (putL cur (a * sz + o) (ac.eval y).cells.toList).toArray).heap[k]? = w.heap[k]? := fun c k hk => hw k (hGzi c k hk).2 (hGzi c k hk).1
      refine ⟨_, fun b c k => if b = a ∧ o ≤ c ∧ c < o + us.length then Gz (c - o) k else G b c k, by rw [hsl]; exact hput cells h1, fun g' hg' => .inl (h2 g' hg'), fun b c k hk => ?_, fun b c b' c' k hk hk' => ?_, fun b x' hx' c hc => ?_⟩
      · dsimp only at hk
        split at hk
        · obtain ⟨q, hq, hf⟩ := g1 _ k hk
          exact ⟨.inr ⟨q, hq, hf⟩, fun e => (hGzi _ k hk).1 (h2 k e)⟩
        · exact ⟨.inl (h3 b c k hk).1, (h3 b c k hk).2⟩
      · dsimp only at hk hk'
        split at hk <;> split at hk'
        · rename_i q1 q2
          have := g2 _ _ k hk hk'
          exact ⟨q1.1.trans q2.1.symm, by omega⟩
        · exact ((hGzi _ k hk).1 (h3 b' c' k hk').1).elim
        · exact ((hGzi _ k hk').1 (h3 b c k hk).1).elim
        · exact h4 b c b' c' k hk hk'
      · rcases hset b x' hx' with ⟨rfl, rfl⟩ | ⟨e, hxb⟩
        · by_cases h6 : o ≤ c ∧ c < o + us.length
          · obtain ⟨u', e1, e2⟩ := g3 (c - o) (by omega)
            rw [show o + (c - o) = c by omega] at e2
            refine ⟨u', by rw [hgn cells c h1 h6.1 h6.2]; exact e1, Ow.move (F := Gz (c - o)) _ _ (fun k hk => by dsimp only; rw [if_pos ⟨rfl, h6⟩]; exact hk) (fun k hk => hkZ _ k hk) e2⟩
          · obtain ⟨u', e1, e2⟩ := h5 b z hz c hc
            refine ⟨u', by rw [hgo cells b c h1 halt hc (.inr (by omega))]; exact e1, ?_⟩
            rw [hrest c hc (by omega)]
            exact Ow.move (F := G b c) _ _ (fun k hk => by dsimp only; rw [if_neg (fun q => h6 q.2)]; exact hk) (fun k hk => hkG b c k hk) e2
        · obtain ⟨u', e1, e2⟩ := h5 b x' hxb c hc
          exact ⟨u', by rw [hgo cells b c h1 (List.getElem?_eq_some_iff.1 hxb).1 hc (.inl e)]; exact e1, Ow.move (F := G b c) _ _ (fun k hk => by dsimp only; rw [if_neg (fun q => e q.1)]; exact hk) (fun k hk => hkG b c k hk) e2⟩
  have hW := hI.write (w' := w.setRow g (putL cur (a * sz + o) (ac.eval y).cells.toList).toArray) (i := i) (is := is) (x := ⟨(E i).u, F1, True, True⟩) (cutR i is) hli m1 trivial (fun a' ha => by
      simp only [cutR, Bool.or_eq_false_iff] at ha
      refine ⟨fun q hq => ?_, fun _ => rfl, fun hr _ => by (rw [ha.1] at hr; cases hr)⟩
      have := List.any_eq_false.1 ha.2 q hq
      simpa using this)
    (fun k hk => by
      rcases hk with hk | hk
      · exact .inl hk
      · exact .inr (.inl hk))
    (by simp) rfl rfl rfl hw hobj
  refine ⟨.skip, _, ?_, .inr ⟨rfl, takeE E i is ⟨(E i).u, F1, True, True⟩, S, hW.1, denT.cut hW.2 hT, hsz, hdf⟩, fun h => by (cases h)⟩
  simp only [execOp, hadr]
  rw [Sem.run_bind, hr]
  rfl
/-- A new row of the call's own. -/
theorem Gm.row {a : Act} {w : World} {E : Nat → EE} {S : Nat → Prop} (hI : Inv cx s.ob s.nx E S w) (hT : denT E S w s.tm a.tmps) (hn : a.tmps.size = cx.n) (hdf : a.defers = []) (hd : okd dst cx.n = true) (o : Obj) {u : Value} {et sz : Nat} {deep : Bool} {α : Type} {enc : α → Nat → T} {xs : List α}
    (hu : u.oneCell' = true) (hrow : if deep = true then OwE (w.alloc o) et sz enc xs u (· = w.heap.size) else Ro (w.alloc o) S et sz enc xs u (· = w.heap.size)) :
    Gm cx ((s.obj s.nx (.row none et deep sz enc xs)).sets dst (some (.c (.own s.nx)))) (a.put dst u) (w.alloc o) := by
  refine ⟨upd E s.nx ⟨u, (· = w.heap.size), True, True⟩, S, ?_, denT_puts (s := s.obj s.nx (.row none et deep sz enc xs)) hd hn (denT.carry (carry_alloc hI _ _) hT) (fun v' e => ?_), by rw [put_size]; exact hn, by rw [put_defers]; exact hdf⟩
  · rw [sets_ob, sets_nx]
    exact hI.new o ⟨by rw [upd_at]; trivial, fun v hv => (by cases hv), by rw [upd_at]; exact hrow⟩
  · cases e
    exact ⟨by rw [upd_at]; trivial, by rw [upd_at], hu⟩
/-- make([]t, n): n times the zero value z0. -/
theorem o_make (i : Nat) (deep : Bool) {t et : TypeId} {sz by' : Nat} {x y : Operand} {n : Int} {α : Type} (enc : α → Nat → T) (z0 : α) {zs : List Value} (hi : s.nx = i) (hd : okd dst cx.n = true) (he : elemI cx.P t = some (et, sz, by')) (hz : zeroOf cx.P et = some zs) (hzl : Nat.beq zs.length sz = true) (hz1 : zs.all (·.oneCell') = true) (hz0 : ZrL (enc z0) 0 zs)
    (hx : s.ev x = some (sc (.int .i64 n))) (hy : s.ev y = some (sc (.int .i64 n))) (h0 : 0 ≤ n) (hby : by' * n.toNat ≤ 281474976710656) (h63 : n ≤ 9223372036854775807) :
    Os cx s ⟨dst, .makeSlice t x y, ty, pos, aft, none⟩ ((s.obj i (.row none et deep sz enc (List.replicate n.toNat z0))).sets dst (some (.c (.own i)))) true := by
  subst hi
  refine o_gen fun a w hg => ?_
  obtain ⟨E, S, hI, hT, hn, hdf⟩ := hg
  obtain ⟨ti, tz, t1, t2, t3, t4, t5, t6⟩ := elemI_get he
  have hzl : zs.length = sz := Nat.eq_of_beq_eq_true hzl
  have hzs : tz.cells = zs.toArray := by
    unfold zeroOf at hz
    rw [t2] at hz
    simp only [Option.bind_some, t3, Option.map_some, Option.some.injEq] at hz
    rw [← hz]
  have hnn : ((n.toNat : Nat) : Int) = n := Int.toNat_of_nonneg h0
  have hr := run_make (P := cx.P) w t et ti tz t1 t2 t3 .i64 .i64 n.toNat n.toNat
  rw [hnn] at hr
  have e1 : (by' : Int) * n = ((by' * n.toNat : Nat) : Int) := by rw [Int.natCast_mul, hnn]
  have hr := hr h0 (Int.le_refl _) (by rw [t5, e1]; omega) (by omega)
  refine ⟨.value (.slice (some ⟨w.heap.size, 0, none⟩) n.toNat n.toNat), w.alloc (.cells (madeCells tz.cells (n.toNat * ti.size)) et (0, 0)), ?_, .inl ⟨_, rfl, ?_⟩, fun _ => Ext.alloc _ _⟩
  · simp only [execOp, sc_den (ev_den hT hx), sc_den (ev_den hT hy)]
    rw [Sem.run_bind, hr]
    rfl
  · refine Gm.row hI hT hn hdf hd _ rfl ?_
    have hown : (w.alloc (.cells (madeCells tz.cells (n.toNat * ti.size)) et (0, 0))).ownsRow 0 et sz (.slice (some ⟨w.heap.size, 0, none⟩) n.toNat n.toNat) n.toNat (madeCells tz.cells (n.toNat * ti.size)).toList := by
      refine ⟨by simp [size_madeCells, t4], .inr ⟨w.heap.size, n.toNat, _, rfl, Nat.zero_le _, heap_alloc_new w _, Nat.le_refl _, by simp only [maxLen]; omega, by rw [size_madeCells, t4], ?_⟩⟩
      rw [List.take_of_length_le]
      simp [size_madeCells, t4]
    have hcell : ∀ b c, b < n.toNat → c < sz → ∃ v, (madeCells tz.cells (n.toNat * ti.size)).toList[b * sz + c]? = some v ∧ zs[c]? = some v := fun b c hb hc => by
      have h1 := mulLt (sz := sz) hb hc
      refine ⟨zs[c]'(by omega), ?_, List.getElem?_eq_getElem (by omega)⟩
      rw [Array.getElem?_toList]
      have hm : (b * sz + c) % sz = c := by rw [Nat.mul_comm, Nat.mul_add_mod]; exact Nat.mod_eq_of_lt hc
      simp only [madeCells, hzs, t4, Array.getElem?_map, List.size_toArray, hzl]
      rw [Array.getElem?_range, if_pos h1]
      simp only [Option.map_some, hm, Option.some.injEq]
      simp [hzl, hc]
    have hrl : (List.replicate n.toNat z0).length = n.toNat := List.length_replicate
    have hrx : ∀ b x', (List.replicate n.toNat z0)[b]? = some x' → b < n.toNat ∧ x' = z0 := fun b x' hx' => by
      rw [List.getElem?_replicate] at hx'
      split at hx'
      · exact ⟨by assumption, (Option.some.inj hx').symm⟩
      · cases hx'
    have hv1 : ∀ (c : Nat) (v : Value), zs[c]? = some v → v.oneCell' = true := fun c v hv => (List.all_eq_true.1 hz1) v (List.mem_of_getElem? hv)
    cases deep
    · simp only [Bool.false_eq_true, if_false]
      refine ⟨_, by rw [hrl]; exact hown, fun g hg => by simp only [Value.ownBlock, Option.some.injEq] at hg; exact hg.symm, fun b x' hx' c hc => ?_⟩
      obtain ⟨e1, rfl⟩ := hrx b x' hx'
      obtain ⟨v, e2, e3⟩ := hcell b c e1 hc
      exact ⟨v, e2, (hz0.get0 c v e3).rd⟩
    · simp only [if_true]
      refine ⟨_, fun _ _ _ => False, by rw [hrl]; exact hown, fun g hg => by simp only [Value.ownBlock, Option.some.injEq] at hg; exact hg.symm, fun _ _ _ h => h.elim, fun _ _ _ _ _ h => h.elim, fun b x' hx' c hc => ?_⟩
      obtain ⟨e1, rfl⟩ := hrx b x' hx'
      obtain ⟨v, e2, e3⟩ := hcell b c e1 hc
      exact ⟨v, e2, (hz0.get0 c v e3).ow⟩
/-- The nil slice in a slot, taken for an own row without elements. -/
theorem Gm.nil (i : Nat) {t et sz : Nat} (deep : Bool) {α : Type} (enc : α → Nat → T) (hi : s.nx = i) (ht : alook s.tm t = some (sc (.slice none 0 0))) {a : Act} {w : World} (hg : Gm cx s a w) :
    Gm cx ⟨(t, some (.c (.own i))) :: s.tm, (i, some (.row none et deep sz enc [])) :: s.ob, i + 1⟩ a w := by
  subst hi
  obtain ⟨E, S, hI, hT, hn, hdf⟩ := hg
  have hv := sc_den (hT t _ ht)
  let E' := upd E s.nx ⟨.slice none 0 0, fun _ => False, True, True⟩
  have hC : Carry E E' S S w w no := {
    sub := fun _ h => h
    keep := fun _ _ => rfl
    place := fun a _ i _ hl => by
      have := hI.nxt i hl
      show (upd E s.nx _ i).live ∧ (upd E s.nx _ i).u = _
      rw [upd_ne (by omega)]
      exact ⟨hl, rfl⟩
    reads := fun a _ i _ hl => by
      have := hI.nxt i hl.1
      show ((upd E s.nx _ i).live ∧ (upd E s.nx _ i).rd) ∧ (∀ k, _ → (upd E s.nx _ i).F k) ∧ _
      rw [upd_ne (by omega)]
      exact ⟨hl, fun _ q => q, fun _ _ => rfl⟩ }
  refine ⟨E', S, ⟨hI.slt, hI.snew, fun j o hj => ?_, fun j j' hij hj hj' k h1 h2 => ?_, fun j hj k hk => ?_, fun j hj => ?_, hI.kept⟩, fun t' v hv' => ?_, hn, hdf⟩
  · rw [alook_cons] at hj
    by_cases e : j = s.nx
    · subst e
      rw [if_pos rfl] at hj
      cases hj
      refine ⟨by show (upd E s.nx _ s.nx).live; rw [upd_at]; trivial, by show (upd E s.nx _ s.nx).rd; rw [upd_at]; trivial, fun v hv => (by cases hv), ?_⟩
      show if deep = true then OwE w et sz enc [] (upd E s.nx _ s.nx).u (upd E s.nx _ s.nx).F else Ro w S et sz enc [] (upd E s.nx _ s.nx).u (upd E s.nx _ s.nx).F
      rw [upd_at]
      cases deep
      · exact ⟨[], World.ownsRow_nil _ _ _ _, fun g h => by simp [Value.ownBlock] at h, fun i x h => by simp at h⟩
      · exact ⟨[], fun _ _ _ => False, World.ownsRow_nil _ _ _ _, fun g h => by simp [Value.ownBlock] at h, fun _ _ _ h => h.elim, fun _ _ _ _ _ h => h.elim, fun i x h => by simp at h⟩
    · rw [if_neg e] at hj
      obtain ⟨h1, h2⟩ := hI.obs j o hj
      refine ⟨by show (upd E s.nx _ j).live; rw [upd_ne e]; exact h1, ?_⟩
      have := okOb.carry hC (i := j) (by show (upd E s.nx _ j).u = _; rw [upd_ne e]) (fun k => by show (upd E s.nx _ j).F k ↔ _; rw [upd_ne e]) (by show (upd E s.nx _ j).rd ↔ _; rw [upd_ne e]) (fun _ _ => rfl) h2
      rwa [Ob.cut_none] at this
  · have h1' : (upd E s.nx ⟨.slice none 0 0, fun _ => False, True, True⟩ j).F k := h1
    have h2' : (upd E s.nx ⟨.slice none 0 0, fun _ => False, True, True⟩ j').F k := h2
    have hj1 : (upd E s.nx ⟨.slice none 0 0, fun _ => False, True, True⟩ j).live := hj
    have hj2 : (upd E s.nx ⟨.slice none 0 0, fun _ => False, True, True⟩ j').live := hj'
    by_cases e1 : j = s.nx
    · subst e1; rw [upd_at] at h1'; exact h1'
    · by_cases e2 : j' = s.nx
      · subst e2; rw [upd_at] at h2'; exact h2'
      · rw [upd_ne e1] at h1' hj1; rw [upd_ne e2] at h2' hj2
        exact hI.dis j j' hij hj1 hj2 k h1' h2'
  · have hk' : (upd E s.nx ⟨.slice none 0 0, fun _ => False, True, True⟩ j).F k := hk
    have hj1 : (upd E s.nx ⟨.slice none 0 0, fun _ => False, True, True⟩ j).live := hj
    by_cases e1 : j = s.nx
    · subst e1; rw [upd_at] at hk'; exact hk'.elim
    · rw [upd_ne e1] at hk' hj1; exact hI.fp j hj1 k hk'
  · have hj1 : (upd E s.nx ⟨.slice none 0 0, fun _ => False, True, True⟩ j).live := hj
    by_cases e1 : j = s.nx
    · show j < s.nx + 1; omega
    · rw [upd_ne e1] at hj1
      have := hI.nxt j hj1
      show j < s.nx + 1
      omega
  · rw [alook_cons] at hv'
    by_cases e : t' = t
    · subst e
      rw [if_pos rfl] at hv'
      cases hv'
      exact ⟨by show (upd E s.nx _ s.nx).live; rw [upd_at]; trivial, by show _ = (upd E s.nx _ s.nx).u; rw [upd_at]; exact hv, by rw [hv]; rfl⟩
    · rw [if_neg e] at hv'
      exact denT.carry hC hT t' v hv'
theorem g_nil (i : Nat) {t et sz : Nat} (deep : Bool) {α : Type} (enc : α → Nat → T) (hi : s.nx = i) (ht : alook s.tm t = some (sc (.slice none 0 0)))
    (h : Wr cx ⟨(t, some (.c (.own i))) :: s.tm, (i, some (.row none et deep sz enc [])) :: s.ob, i + 1⟩ ops rest k R) : Wr cx s ops rest k R := fun a w hg => h a w (hg.nil i deep enc hi ht)
theorem gt_nil (i : Nat) {t et sz : Nat} (deep : Bool) {α : Type} (enc : α → Nat → T) (hi : s.nx = i) (ht : alook s.tm t = some (sc (.slice none 0 0))) {todo : List Item}
    (h : Wt cx ⟨(t, some (.c (.own i))) :: s.tm, (i, some (.row none et deep sz enc [])) :: s.ob, i + 1⟩ todo R) : Wt cx s todo R := fun a w hg => h a w (hg.nil i deep enc hi ht)
end rules
end Go.Eng
