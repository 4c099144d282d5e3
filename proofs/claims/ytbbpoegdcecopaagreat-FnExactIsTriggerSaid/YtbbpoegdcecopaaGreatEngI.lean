/- The engine, part I: rows of the call's own: appended to, stored into, made. -/
import Derived.Test.YtbbpoegdcecopaaGreatEngH
set_option linter.unusedVariables false
set_option linter.unusedSimpArgs false
namespace Go.Eng
open Go Go.RowKit

def cutT (p : AC → Bool) (l : List (Nat × Option AV)) : List (Nat × Option AV) := l.map fun x => (x.1, x.2.map (AV.cut p))
def cutO (p : AC → Bool) (l : List (Nat × Option Ob)) : List (Nat × Option Ob) := l.map fun x => (x.1, x.2.map (Ob.cut p))
def dels : List Nat → List (Nat × Option Ob) → List (Nat × Option Ob)
  | [], l => l
  | i :: is, l => (i, none) :: dels is l
theorem alook_cutT {p : AC → Bool} : ∀ (l : List (Nat × Option AV)) (t : Nat), alook (cutT p l) t = (alook l t).map (AV.cut p)
  | [], t => rfl
  | (k, v) :: r, t => by
    show alook ((k, v.map (AV.cut p)) :: cutT p r) t = _
    rw [alook_cons, alook_cons, alook_cutT r t]
    split <;> rfl
theorem alook_cutO {p : AC → Bool} : ∀ (l : List (Nat × Option Ob)) (t : Nat), alook (cutO p l) t = (alook l t).map (Ob.cut p)
  | [], t => rfl
  | (k, v) :: r, t => by
    show alook ((k, v.map (Ob.cut p)) :: cutO p r) t = _
    rw [alook_cons, alook_cons, alook_cutO r t]
    split <;> rfl
theorem alook_dels : ∀ (is : List Nat) (l : List (Nat × Option Ob)) (t : Nat), alook (dels is l) t = if t ∈ is then none else alook l t
  | [], l, t => by simp [dels]
  | i :: is, l, t => by
    simp only [dels]
    rw [alook_cons, alook_dels is l t]
    by_cases h : t = i
    · subst h; simp
    · simp [h]
theorem denT.cut {E E' : Nat → EE} {S S' : Nat → Prop} {w w' : World} {p : AC → Bool} (h : Carry E E' S S' w w' p) {tm : List (Nat × Option AV)} {tmps : Array Value} (ht : denT E S w tm tmps) : denT E' S' w' (cutT p tm) tmps := by
  intro t v hv
  rw [alook_cutT] at hv
  obtain ⟨v0, h0, rfl⟩ := Option.map_eq_some_iff.mp hv
  exact h.v (ht t v0 h0)
theorem reads_names {a : AC} {i : Nat} (h : a.reads i = true) : a.names i = true := by
  cases a with
  | t r x => cases r <;> simp_all [AC.reads, AC.names]
  | pel r c m => cases r <;> simp_all [AC.reads, AC.names]
  | cel => simp_all [AC.reads, AC.names]
  | _ => simp_all [AC.reads]

/-- What may move into a row as one of its cells, and the object that it takes with it. -/
inductive Mv (s : St) : Bool → AC → T → Option Nat → Prop
  | sc {deep : Bool} {v : Value} : Mv s deep (.t none (.v v)) (.v v) none
  | nil {deep : Bool} {α : Type} {sz : Nat} {enc : α → Nat → T} : Mv s deep (.t none (.v (.slice none 0 0))) (.sl sz enc []) none
  | sh {x : T} : Mv s false (.t none x) x none
  | own {i e : Nat} {pn : Option Value} {α : Type} {sz : Nat} {enc : α → Nat → T} {xs : List α} (h : alook s.ob i = some (.row pn e true sz enc xs)) : Mv s true (.own i) (.sl sz enc xs) (some i)
inductive MvL (s : St) (deep : Bool) : List AC → (Nat → T) → Nat → List Nat → Prop
  | nil {c : Nat → T} {j : Nat} : MvL s deep [] c j []
  | cons {a : AC} {al : List AC} {c : Nat → T} {j : Nat} {is : List Nat} (h : Mv s deep a (c j) none) (hr : MvL s deep al c (j + 1) is) : MvL s deep (a :: al) c j is
  | take {a : AC} {al : List AC} {c : Nat → T} {j i : Nat} {is : List Nat} (h : Mv s deep a (c j) (some i)) (hn : is.all (fun k => !Nat.beq k i) = true) (hr : MvL s deep al c (j + 1) is) : MvL s deep (a :: al) c j (i :: is)
section
variable {cx : Cx} {s : St} {E : Nat → EE} {S : Nat → Prop} {w : World}
theorem Mv.den0 {deep : Bool} {a : AC} {c : T} {u : Value} (h : Mv s deep a c none) (hd : denC E S w a u) : (deep = true → Ow w c u (fun _ => False)) ∧ (deep = false → Rd w S c u) := by
  generalize ho : (none : Option Nat) = o at h
  cases h with
  | @sc _ v => exact ⟨fun _ => hd.2, fun _ => hd.2⟩
  | nil =>
    obtain ⟨_, rfl, _⟩ := hd
    refine ⟨fun _ => ⟨0, [], fun _ _ _ => False, World.ownsRow_nil _ _ _ _, fun g h => by simp [Value.ownBlock] at h, fun _ _ _ h => h.elim, fun _ _ _ _ _ h => h.elim, fun i x h => by simp at h⟩, fun _ => nil_rd⟩
  | sh => exact ⟨fun h => by (cases h), fun _ => hd.2⟩
  | own h => cases ho
theorem Mv.den1 {deep : Bool} {a : AC} {c : T} {u : Value} {i : Nat} (h : Mv s deep a c (some i)) (hI : Inv cx s.ob s.nx E S w) (hd : denC E S w a u) : deep = true ∧ (E i).live ∧ Ow w c u (E i).F := by
  generalize ho : (some i : Option Nat) = o at h
  cases h with
  | own h =>
    cases ho
    obtain ⟨_, rfl, _⟩ := hd
    obtain ⟨h1, h2, _, h3⟩ := hI.obs _ _ h
    exact ⟨rfl, h1, ⟨_, h3⟩⟩
  | _ => cases ho
theorem MvL.den {deep : Bool} {al : List AC} {c : Nat → T} {st : Nat} {is : List Nat} {vals : List Value} (h : MvL s deep al c st is) (hI : Inv cx s.ob s.nx E S w) (hd : denL E S w al vals) :
    (∀ i ∈ is, (E i).live) ∧ (deep = false → is = [] ∧ ∀ j, j < al.length → ∃ u', vals[j]? = some u' ∧ Rd w S (c (st + j)) u') ∧
    (deep = true → ∃ G : Nat → Nat → Prop, (∀ j k, G j k → ∃ i ∈ is, (E i).F k) ∧ (∀ j j' k, G j k → G j' k → j = j') ∧ ∀ j, j < al.length → ∃ u', vals[j]? = some u' ∧ Ow w (c (st + j)) u' (G j)) := by
  induction h generalizing vals with
  | nil => exact ⟨fun i h => by simp at h, fun _ => ⟨rfl, fun j h => by simp at h⟩, fun _ => ⟨fun _ _ => False, fun _ _ h => h.elim, fun _ _ _ h => h.elim, fun j h => by simp at h⟩⟩
  | @cons a al c j is h hr ih =>
    obtain ⟨h1, h2⟩ := hd
    cases vals with
    | nil => simp at h1
    | cons v vals =>
      obtain ⟨q0, q1, q2⟩ := ih (vals := vals) ⟨by simpa using h1, fun j c hj => h2 (j + 1) c hj⟩
      obtain ⟨u', e1, e2⟩ := h2 0 a rfl
      cases e1
      obtain ⟨d1, d2⟩ := h.den0 e2
      refine ⟨q0, fun hf => ⟨(q1 hf).1, fun k hk => ?_⟩, fun ht => ?_⟩
      · match k with
        | 0 => exact ⟨v, rfl, d2 hf⟩
        | k + 1 =>
          obtain ⟨u', r1, r2⟩ := (q1 hf).2 k (by simpa using hk)
          exact ⟨u', r1, by rw [show j + (k + 1) = j + 1 + k by omega]; exact r2⟩
      · obtain ⟨G, g1, g2, g3⟩ := q2 ht
        refine ⟨fun k => match k with | 0 => fun _ => False | k + 1 => G k, fun k x hx => ?_, fun k k' x hx hx' => ?_, fun k hk => ?_⟩
        · match k, hx with
          | k + 1, hx => exact g1 k x hx
        · match k, k', hx, hx' with
          | k + 1, k' + 1, hx, hx' => rw [g2 k k' x hx hx']
        · match k with
          | 0 => exact ⟨v, rfl, d1 ht⟩
          | k + 1 =>
            obtain ⟨u', r1, r2⟩ := g3 k (by simpa using hk)
            exact ⟨u', r1, by rw [show j + (k + 1) = j + 1 + k by omega]; exact r2⟩
  | @take a al c j i is h hn hr ih =>
    obtain ⟨h1, h2⟩ := hd
    cases vals with
    | nil => simp at h1
    | cons v vals =>
      obtain ⟨q0, q1, q2⟩ := ih (vals := vals) ⟨by simpa using h1, fun j c hj => h2 (j + 1) c hj⟩
      obtain ⟨u', e1, e2⟩ := h2 0 a rfl
      cases e1
      obtain ⟨d0, d1, d2⟩ := h.den1 hI e2
      have hni : i ∉ is := fun hi => by
        have := (List.all_eq_true.1 hn) i hi
        simp at this
      refine ⟨fun k hk => ?_, fun hf => by (rw [hf] at d0; cases d0), fun ht => ?_⟩
      · rcases List.mem_cons.1 hk with rfl | hk
        · exact d1
        · exact q0 k hk
      · obtain ⟨G, g1, g2, g3⟩ := q2 ht
        have hx0 : ∀ k x, G k x → ¬ (E i).F x := fun k x hx hi => by
          obtain ⟨i', hi', hf⟩ := g1 k x hx
          exact hI.dis i i' (by rintro rfl; exact hni hi') d1 (q0 i' hi') x hi hf
        refine ⟨fun k => match k with | 0 => (E i).F | k + 1 => G k, fun k x hx => ?_, fun k k' x hx hx' => ?_, fun k hk => ?_⟩
        · match k, hx with
          | 0, hx => exact ⟨i, by simp, hx⟩
          | k + 1, hx => obtain ⟨i', hi', hf⟩ := g1 k x hx; exact ⟨i', by simp [hi'], hf⟩
        · match k, k', hx, hx' with
          | 0, 0, _, _ => rfl
          | 0, k' + 1, hx, hx' => exact (hx0 k' x hx' hx).elim
          | k + 1, 0, hx, hx' => exact (hx0 k x hx hx').elim
          | k + 1, k' + 1, hx, hx' => rw [g2 k k' x hx hx']
        · match k with
          | 0 => exact ⟨v, rfl, d2⟩
          | k + 1 =>
            obtain ⟨u', r1, r2⟩ := g3 k (by simpa using hk)
            exact ⟨u', r1, by rw [show j + (k + 1) = j + 1 + k by omega]; exact r2⟩
end

/-! ### an object written: what is left of the others -/
def takeE (E : Nat → EE) (i : Nat) (is : List Nat) (x : EE) : Nat → EE := fun j => if j = i then x else if j ∈ is then ⟨(E j).u, (E j).F, False, (E j).rd⟩ else E j
theorem takeE_at {E : Nat → EE} {i : Nat} {is : List Nat} {x : EE} : takeE E i is x i = x := if_pos rfl
theorem takeE_in {E : Nat → EE} {i j : Nat} {is : List Nat} {x : EE} (h : j ≠ i) (h2 : j ∈ is) : takeE E i is x j = ⟨(E j).u, (E j).F, False, (E j).rd⟩ := by unfold takeE; rw [if_neg h, if_pos h2]
theorem takeE_ne {E : Nat → EE} {i j : Nat} {is : List Nat} {x : EE} (h : j ≠ i) (h2 : j ∉ is) : takeE E i is x j = E j := by unfold takeE; rw [if_neg h, if_neg h2]
def cutP (i : Nat) (is : List Nat) : AC → Bool := fun a => a.names i || is.any fun q => a.names q
section
variable {cx : Cx} {ob : List (Nat × Option Ob)} {nx : Nat} {E : Nat → EE} {S : Nat → Prop} {w w' : World}
/-- Object i has been written (its own blocks, and new ones), and has taken the objects is into it. -/
theorem Inv.write (hI : Inv cx ob nx E S w) {i : Nat} {is : List Nat} {x : EE} {o : Ob} (p : AC → Bool) (hi : (E i).live) (his : ∀ q ∈ is, (E q).live) (hx : x.live)
    (hp : ∀ a, p a = false → (∀ q, q ∈ is → a.names q = false) ∧ (a.names i = true → x.u = (E i).u) ∧ (a.reads i = true → (E i).live ∧ (E i).rd → False))
    (hF : ∀ k, x.F k → (E i).F k ∨ (∃ q ∈ is, (E q).F k) ∨ (w.heap.size ≤ k ∧ k < w'.heap.size))
    (hsz : w.heap.size ≤ w'.heap.size) (hos : w'.os = w.os) (htp : w'.tape = w.tape) (hout : w'.output = w.output)
    (hw : ∀ k, k < w.heap.size → ¬ (E i).F k → w'.heap[k]? = w.heap[k]?)
    (ho : okOb (takeE E i is x) S w' i o) :
    Inv cx ((i, some o) :: dels is (cutO p ob)) nx (takeE E i is x) S w' ∧ Carry E (takeE E i is x) S S w w' p := by
  have hC : Carry E (takeE E i is x) S S w w' p := {
    sub := fun _ h => h
    keep := fun k hk => hw k (hI.slt k hk) fun h => (hI.fp i hi k h).2.1 hk
    place := fun a ha j hn hl => by
      obtain ⟨h1, h2, _⟩ := hp a ha
      by_cases e : j = i
      · subst e
        rw [takeE_at]
        exact ⟨hx, h2 hn⟩
      · have : j ∉ is := fun hj => by rw [h1 j hj] at hn; cases hn
        rw [takeE_ne e this]
        exact ⟨hl, rfl⟩
    reads := fun a ha j hn hl => by
      obtain ⟨h1, _, h3⟩ := hp a ha
      have e : j ≠ i := fun e => by subst e; exact h3 hn hl
      have : j ∉ is := fun hj => by have := reads_names hn; rw [h1 j hj] at this; cases this
      rw [takeE_ne e this]
      exact ⟨hl, fun _ q => q, fun k hk => hw k (hI.fp j hl.1 k hk).1 fun h => hI.dis j i e hl.1 hi k hk h⟩ }
  refine ⟨⟨fun k hk => Nat.lt_of_lt_of_le (hI.slt k hk) hsz, hI.snew, ?_, ?_, ?_, ?_, ?_⟩, hC⟩
  · intro j o' hj
    rw [alook_cons] at hj
    by_cases e : j = i
    · subst e
      rw [if_pos rfl] at hj
      cases hj
      exact ⟨by rw [takeE_at]; exact hx, ho⟩
    · rw [if_neg e, alook_dels] at hj
      split at hj
      · cases hj
      · rename_i hni
        rw [alook_cutO] at hj
        obtain ⟨o0, h0, rfl⟩ := Option.map_eq_some_iff.mp hj
        obtain ⟨h1, h2⟩ := hI.obs j o0 h0
        rw [takeE_ne e hni]
        exact ⟨h1, okOb.carry hC (by rw [takeE_ne e hni]) (fun k => by rw [takeE_ne e hni]) (by rw [takeE_ne e hni]) (fun k hk => hw k (hI.fp j h1 k hk).1 fun h => hI.dis j i e h1 hi k hk h) h2⟩
  · have key : ∀ j, j ≠ i → (takeE E i is x j).live → (E j).live ∧ (takeE E i is x j).F = (E j).F ∧ j ∉ is := fun j e hl => by
      by_cases h : j ∈ is
      · rw [takeE_in e h] at hl; exact hl.elim
      · rw [takeE_ne e h] at hl ⊢; exact ⟨hl, rfl, h⟩
    have one : ∀ j k, j ≠ i → (takeE E i is x j).live → x.F k → (takeE E i is x j).F k → False := fun j k e hl h1 h2 => by
      obtain ⟨l1, l2, l3⟩ := key j e hl
      rw [l2] at h2
      rcases hF k h1 with h | ⟨q, hq, h⟩ | ⟨h, _⟩
      · exact hI.dis j i e l1 hi k h2 h
      · exact hI.dis j q (by rintro rfl; exact l3 hq) l1 (his q hq) k h2 h
      · have := (hI.fp j l1 k h2).1
        omega
    intro j j' hij hl hl' k h1 h2
    by_cases e1 : j = i
    · subst e1
      rw [takeE_at] at h1
      exact one j' k (fun e => hij e.symm) hl' h1 h2
    · by_cases e2 : j' = i
      · subst e2
        rw [takeE_at] at h2
        exact one j k e1 hl h2 h1
      · obtain ⟨l1, l2, _⟩ := key j e1 hl
        obtain ⟨m1, m2, _⟩ := key j' e2 hl'
        rw [l2] at h1
        rw [m2] at h2
        exact hI.dis j j' hij l1 m1 k h1 h2
  · intro j hl k hk
    by_cases e : j = i
    · subst e
      rw [takeE_at] at hk
      rcases hF k hk with h | ⟨q, hq, h⟩ | ⟨h, h2⟩
      · obtain ⟨a, b⟩ := hI.fp j hi k h
        exact ⟨by omega, b⟩
      · obtain ⟨a, b⟩ := hI.fp q (his q hq) k h
        exact ⟨by omega, b⟩
      · refine ⟨h2, fun hs => ?_, .inl (Nat.le_trans hI.kept.size h)⟩
        have := hI.slt k hs
        omega
    · by_cases h : j ∈ is
      · rw [takeE_in e h] at hl; exact hl.elim
      · rw [takeE_ne e h] at hl hk
        obtain ⟨a, b⟩ := hI.fp j hl k hk
        exact ⟨by omega, b⟩
  · intro j hl
    by_cases e : j = i
    · subst e; exact hI.nxt j hi
    · by_cases h : j ∈ is
      · rw [takeE_in e h] at hl; exact hl.elim
      · rw [takeE_ne e h] at hl; exact hI.nxt j hl
  · exact ⟨hos.trans hI.kept.os, htp.trans hI.kept.tape, hout.trans hI.kept.output, Nat.le_trans hI.kept.size hsz, fun k hk hm => (hw k (Nat.lt_of_lt_of_le hk hI.kept.size) fun h => by
      rcases (hI.fp i hi k h).2.2 with q | q
      · omega
      · exact hm q).trans (hI.kept.block k hk hm)⟩
end
def elemI (P : Program) (t : TypeId) : Option (TypeId × Nat × Nat) :=
  match P.underlying t with
  | some (.slice e) => match P.info? e with
    | some i => match i.zero with
      | some z => if z.cells.size = i.size then some (e, i.size, i.bytes) else none
      | none => none
    | none => none
  | _ => none
theorem elemI_get {P : Program} {t e : TypeId} {sz by' : Nat} (h : elemI P t = some (e, sz, by')) : ∃ i z, P.underlying t = some (.slice e) ∧ P.info? e = some i ∧ i.zero = some z ∧ i.size = sz ∧ i.bytes = by' ∧ z.cells.size = sz := by
  unfold elemI at h
  split at h
  · rename_i e' hu
    split at h
    · rename_i i hi
      split at h
      · rename_i z hz
        split at h
        · rename_i hs
          cases h
          exact ⟨i, z, hu, hi, hz, rfl, rfl, hs⟩
        · cases h
      · cases h
    · cases h
  · cases h
theorem mulLt {a b n sz : Nat} (h : a < n) (hb : b < sz) : a * sz + b < n * sz := by
  have : (a + 1) * sz ≤ n * sz := Nat.mul_le_mul_right sz h
  rw [Nat.add_mul] at this
  omega
theorem own_slice' {w : World} {e : TypeId} {size n : Nat} {v : Value} {xs : List Value} (h : w.ownsRow 0 e size v n xs) : ∃ A c, v = .slice A n c ∧ n ≤ c := by
  obtain ⟨A, c, h1, h2, _⟩ := own_read h
  exact ⟨A, c, h1, h2⟩
section rules
variable {cx : Cx} {s : St} {k : List Item} {R : Ending → World → Prop} {ops : Array Oper} {rest : List Oper} {dst : Option Nat} {ty : TypeId} {pos : String} {aft : Array Edge}
theorem o_append (i : Nat) {pn : Option Value} {t e : TypeId} {sz by' q : Nat} {x y : Operand} {us : List AC} {deep : Bool} {α : Type} {enc : α → Nat → T} {xs : List α} (z : α) {is : List Nat} (hd : okd dst cx.n = true) (he : elemI cx.P t = some (e, sz, by')) (hpos : Nat.blt 0 sz = true)
    (hx : s.ev x = some (.c (.own i))) (hb : alook s.ob i = some (.row pn e deep sz enc xs)) (hy : s.ev y = some (.c (.bsl q 1))) (hq : alook s.ob q = some (.box us)) (hul : Nat.beq us.length sz = true) (hm : MvL s deep us (enc z) 0 is) (hii : is.all (fun k => !Nat.beq k i) = true) (hlen : (xs.length + 1) * by' ≤ 140737488355328) (hl63 : xs.length + 1 ≤ 9223372036854775807) :
    Os cx s ⟨dst, .call { callee := .builtin .append, args := #[x, y], argTypes := #[t, t] }, ty, pos, aft, none⟩ ((⟨cutT (cutP i is) s.tm, (i, some (.row none e deep sz enc (xs ++ [z]))) :: dels is (cutO (cutP i is) s.ob), s.nx⟩ : St).sets dst (some (.c (.own i)))) false := by
  refine o_gen fun a w hg => ?_
  obtain ⟨E, S, hI, hT, hn, hdf⟩ := hg
  have hpos : 0 < sz := by simpa using hpos
  have hul : us.length = sz := Nat.eq_of_beq_eq_true hul
  obtain ⟨ti, tz, t1, t2, t3, t4, t5, t6⟩ := elemI_get he
  obtain ⟨hli, hux, _⟩ := ev_den hT hx
  obtain ⟨hlq, gq, uq, huy⟩ := ev_den hT hy
  obtain ⟨_, hrd, _, ho⟩ := hI.obs _ _ hb
  obtain ⟨_, _, g', eq', vals, q3, _, q4, q5⟩ := hI.obs _ _ hq
  rw [q3] at uq
  cases uq
  obtain ⟨m1, m2, m3⟩ := hm.den hI q5
  have hvl : vals.length = sz := q5.1.trans hul
  have hnews : ∀ j u, vals[j]? = some u → w.cell? ((⟨gq, 0, none⟩ : Addr).add j) = some u := fun j u hu => by
    rw [add_flat, Nat.zero_add, cell_of_row w gq j _ _ _ q4]
    simpa using hu
  have hown : ∃ cells, w.ownsRow 0 e sz (E i).u xs.length cells ∧ ∀ g, (E i).u.ownBlock = some g → (E i).F g := by
    cases deep
    · simp only [Bool.false_eq_true, if_false] at ho
      obtain ⟨cells, h1, h2, _⟩ := ho
      exact ⟨cells, h1, h2⟩
    · simp only [if_true] at ho
      obtain ⟨cells, G, h1, h2, _⟩ := ho
      exact ⟨cells, h1, h2⟩
  obtain ⟨cells0, hown0, hblk⟩ := hown
  have hrun := fun cells (hc : w.ownsRow 0 e sz (E i).u xs.length cells) => run_append_own_at (P := cx.P) w 0 t ty e ti tz sz by' t1 t2 t3 t4 t5 t6 hpos (E i).u xs.length cells hc ⟨gq, 0, none⟩ 1 1 vals (by omega) hnews q5.ones (by simp only [maxLen]; omega) (by rw [Nat.add_comm] at *; simpa [Nat.add_comm] using hlen) (Nat.zero_le _)
  obtain ⟨v1, w1, r1, r2, r3, _, r5⟩ := hrun cells0 hown0
  -- the row as it is now
  have hsize : w.heap.size ≤ w1.heap.size := r3.size
  have hfresh : v1.ownBlock = some w.heap.size → w.heap.size < w1.heap.size := fun hv => by
    rcases r2.2 with ⟨e1, _⟩ | ⟨g, cap, cur, e1, _, e2, _⟩
    · rw [e1] at hv; simp [Value.ownBlock] at hv
    · rw [e1] at hv
      simp [Value.ownBlock] at hv
      subst hv
      exact (Array.getElem?_eq_some_iff.1 e2).1
  have hkeep : ∀ q, q < w.heap.size → ¬ (E i).F q → w1.heap[q]? = w.heap[q]? := fun q hq hf => r3.block q hq fun hb' => hf (hblk q hb'.symm)
  have his : ∀ q ∈ is, q ≠ i := fun q hq e => by
    have := (List.all_eq_true.1 hii) q hq
    subst e
    simp at this
  have hne1 : ∀ q, q < w.heap.size → some q ≠ (E i).u.ownBlock → v1.ownBlock ≠ some q := fun q hq hn' hv => by
    rcases r5 with h5 | h5
    · rw [h5] at hv; exact hn' hv.symm
    · rw [h5] at hv; cases hv; omega
  let F1 : Nat → Prop := fun k => (E i).F k ∨ v1.ownBlock = some k ∨ ∃ q ∈ is, (E q).F k
  have hlen' : (xs ++ [z]).length = xs.length + 1 := by simp
  have hgetz : ∀ (j : Nat) (b : Nat), b < sz → (cells0 ++ vals)[xs.length * sz + b]? = vals[b]? := fun j b hb => by
    rw [List.getElem?_append_right (by rw [hown0.1]; omega), hown0.1, Nat.add_sub_cancel_left]
  have hobj : okOb (takeE E i is ⟨v1, F1, True, True⟩) S w1 i (.row none e deep sz enc (xs ++ [z])) := by
    refine ⟨by rw [takeE_at]; trivial, fun v hv => (by cases hv), ?_⟩
    rw [takeE_at]
    cases deep
    · simp only [Bool.false_eq_true, if_false] at ho ⊢
      obtain ⟨cells, h1, h2, h3⟩ := ho
      obtain ⟨v2, w2, s1, s2, s3, _, s5⟩ := hrun cells h1
      rw [r1] at s1
      cases s1
      refine ⟨cells ++ vals, by rw [hlen']; exact s2, fun g hg => .inr (.inl hg), fun a x' hx' b hb => ?_⟩
      by_cases ha : a < xs.length
      · rw [List.getElem?_append_left ha] at hx'
        obtain ⟨u', e1, e2⟩ := h3 a x' hx' b hb
        refine ⟨u', ?_, Rd.move (fun _ q => q) (fun k hk => hkeep k (hI.slt k hk) fun hf => (hI.fp i hli k hf).2.1 hk) _ _ e2⟩
        rw [List.getElem?_append_left (by rw [h1.1]; exact mulLt ha hb)]
        exact e1
      · have ha' : a = xs.length := by
          have := (List.getElem?_eq_some_iff.1 hx').1
          rw [hlen'] at this
          omega
        subst ha'
        rw [List.getElem?_append_right (Nat.le_refl _), Nat.sub_self] at hx'
        cases hx'
        obtain ⟨u', e1, e2⟩ := (m2 rfl).2 b (by omega)
        refine ⟨u', ?_, Rd.move (fun _ q => q) (fun k hk => hkeep k (hI.slt k hk) fun hf => (hI.fp i hli k hf).2.1 hk) _ _ (by simpa using e2)⟩
        rw [List.getElem?_append_right (by rw [h1.1]; omega), h1.1, Nat.add_sub_cancel_left]
        exact e1
    · simp only [if_true] at ho ⊢
      obtain ⟨cells, G, h1, h2, h3, h4, h5⟩ := ho
      obtain ⟨v2, w2, s1, s2, s3, _, s5⟩ := hrun cells h1
      rw [r1] at s1
      cases s1
      obtain ⟨Gz, g1, g2, g3⟩ := m3 rfl
      have hGzi : ∀ b k, Gz b k → ¬ (E i).F k ∧ k < w.heap.size := fun b k hk => by
        obtain ⟨q, hq, hf⟩ := g1 b k hk
        exact ⟨fun hi' => hI.dis q i (his q hq) (m1 q hq) hli k hf hi', (hI.fp q (m1 q hq) k hf).1⟩
      refine ⟨cells ++ vals, fun a b k => if a < xs.length then G a b k else a = xs.length ∧ Gz b k, by rw [hlen']; exact s2, fun g hg => .inr (.inl hg), fun a b k hk => ?_, fun a b a' b' k hk hk' => ?_, fun a x' hx' b hb => ?_⟩
      · dsimp only at hk
        split at hk
        · obtain ⟨e1, e2⟩ := h3 a b k hk
          exact ⟨.inl e1, hne1 k (hI.fp i hli k e1).1 (fun e => e2 e.symm)⟩
        · obtain ⟨q, hq, hf⟩ := g1 b k hk.2
          obtain ⟨e1, e2⟩ := hGzi b k hk.2
          exact ⟨.inr (.inr ⟨q, hq, hf⟩), hne1 k e2 (fun e => e1 (hblk k e.symm))⟩
      · dsimp only at hk hk'
        split at hk <;> split at hk'
        · exact h4 a b a' b' k hk hk'
        · exact ((hGzi b' k hk'.2).1 (h3 a b k hk).1).elim
        · exact ((hGzi b k hk.2).1 (h3 a' b' k hk').1).elim
        · exact ⟨hk.1.trans hk'.1.symm, g2 b b' k hk.2 hk'.2⟩
      · by_cases ha : a < xs.length
        · rw [List.getElem?_append_left ha] at hx'
          obtain ⟨u', e1, e2⟩ := h5 a x' hx' b hb
          refine ⟨u', ?_, Ow.move _ _ (fun k hk => by dsimp only; rw [if_pos ha]; exact hk) (fun k hk => ?_) e2⟩
          · rw [List.getElem?_append_left (by rw [h1.1]; exact mulLt ha hb)]
            exact e1
          · obtain ⟨e3, e4⟩ := h3 a b k hk
            exact r3.block k (hI.fp i hli k e3).1 (fun e => e4 e.symm)
        · have ha' : a = xs.length := by
            have := (List.getElem?_eq_some_iff.1 hx').1
            rw [hlen'] at this
            omega
          subst ha'
          rw [List.getElem?_append_right (Nat.le_refl _), Nat.sub_self] at hx'
          cases hx'
          obtain ⟨u', e1, e2⟩ := g3 b (by omega)
          rw [Nat.zero_add] at e2
          refine ⟨u', ?_, Ow.move (F := Gz b) _ _ (fun k hk => by dsimp only; rw [if_neg (by omega)]; exact ⟨rfl, hk⟩) (fun k hk => ?_) e2⟩
          · rw [List.getElem?_append_right (by rw [h1.1]; omega), h1.1, Nat.add_sub_cancel_left]
            exact e1
          · obtain ⟨e3, e4⟩ := hGzi b k hk
            exact hkeep k e4 e3
  have hW := hI.write (i := i) (is := is) (x := ⟨v1, F1, True, True⟩) (cutP i is) hli m1 trivial (fun a ha => by
      simp only [cutP, Bool.or_eq_false_iff] at ha
      refine ⟨fun q hq => ?_, fun hn' => by (rw [ha.1] at hn'; cases hn'), fun hr _ => by (have := reads_names hr; rw [ha.1] at this; cases this)⟩
      have := List.any_eq_false.1 ha.2 q hq
      simpa using this)
    (fun k hk => by
      rcases hk with hk | hk | hk
      · exact .inl hk
      · rcases r5 with h5 | h5
        · rw [h5] at hk; exact .inl (hblk k hk)
        · have := hfresh h5
          rw [h5] at hk
          cases hk
          exact .inr (.inr ⟨Nat.le_refl _, this⟩)
      · exact .inr (.inl hk))
    hsize r3.os r3.tape r3.output hkeep hobj
  refine ⟨.value v1, w1, ?_, .inl ⟨v1, rfl, takeE E i is ⟨v1, F1, True, True⟩, S, ?_, denT_puts (s := ⟨cutT (cutP i is) s.tm, (i, some (.row none e deep sz enc (xs ++ [z]))) :: dels is (cutO (cutP i is) s.ob), s.nx⟩) hd hn (denT.cut hW.2 hT) (fun v' e' => ?_), by rw [put_size]; exact hn, by rw [put_defers]; exact hdf⟩, fun h => by (cases h)⟩
  · simp only [execOp, resolve, invoke, builtin, Sem.run_bind, Sem.run_pure, Result.andThen_ok, List.map_toArray, List.map_cons, List.map_nil, hux, huy]
    show ((Builtin.append_ #[t, t] ty #[(E i).u, .slice (some ⟨gq, 0, none⟩) 1 1]).run cx.P w).andThen _ = _
    rw [r1]
    rfl
  · rw [sets_ob, sets_nx]
    exact hW.1
  · cases e'
    refine ⟨by rw [takeE_at]; trivial, by rw [takeE_at], ?_⟩
    obtain ⟨A, c, e1, _⟩ := own_slice' r2
    rw [e1]
    rfl
end rules
end Go.Eng
