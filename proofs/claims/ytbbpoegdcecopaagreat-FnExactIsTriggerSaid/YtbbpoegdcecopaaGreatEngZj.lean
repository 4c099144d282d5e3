/- The engine, part Zj: a slice against nil, least and greatest of two; models of the union. -/
import Derived.Test.YtbbpoegdcecopaaGreatEngZi
import Derived.Laws.Small
set_option linter.unusedVariables false
set_option linter.unusedSimpArgs false
namespace Go.Eng
open Go Go.RowKit
section rules
variable {cx : Cx} {s : St} {k : List Item} {R : Ending → World → Prop} {ops : Array Oper} {rest : List Oper} {dst : Option Nat} {ty : TypeId} {pos : String} {aft : Array Edge}
theorem r_eqnil {t yt : TypeId} {x : Operand} {r : Option Nat} {α : Type} {sz : Nat} {enc : α → Nat → T} {xs : List α} (hd : okd dst cx.n = true) (ht : isSl cx.P t = true) (hx : s.ev x = some (.c (.t r (.sl sz enc xs))))
    (h1 : xs = [] → Wr cx (s.sets dst (some (sc (.bool true)))) ops rest k R) (h2 : Wr cx (s.sets dst (some (sc (.bool false)))) ops rest k R) :
    Wr cx s ops (⟨dst, .binOp .eql t x (.const (.slice none 0 0)) yt, ty, pos, aft, none⟩ :: rest) k R := by
  intro a w hg
  refine wpList_plain rfl fun K hK => ?_
  obtain ⟨E, S, hI, hT, hn, hdf⟩ := hg
  obtain ⟨e, he⟩ := isSl_iff ht
  obtain ⟨_, A, cap, hu, hc, hr⟩ := ev_den hT hx
  have hrun : (execOp a.eval ⟨dst, .binOp .eql t x (.const (.slice none 0 0)) yt, ty, pos, aft, none⟩).run cx.P w = .ok (.value (.bool A.isNone)) w := by
    simp only [execOp, hu]
    have e1 : (eqGuard .eql t x (.const (.slice none 0 0)) (.slice A xs.length cap) (a.eval (.const (.slice none 0 0)))).run cx.P w = .ok () w := rfl
    have e2 : (binOp .eql t (.slice A xs.length cap) (a.eval (.const (.slice none 0 0)))).run cx.P w = .ok (.bool A.isNone) w := Go.Lib.run_eql_slice_nil w t e A _ _ 0 0 he
    rw [Sem.run_bind, Sem.run_bind, e1, Result.andThen_ok, e2]
    rfl
  have fin : ∀ b : Bool, Gm cx (s.sets dst (some (sc (.bool b)))) (a.put dst (.bool b)) w := fun b =>
    ⟨E, S, by rw [sets_ob, sets_nx]; exact hI, denT_puts hd hn hT (fun v' e => by cases e; exact sc_mk rfl), by rw [put_size]; exact hn, by rw [put_defers]; exact hdf⟩
  unfold Oper.wp
  rw [hrun]
  cases A with
  | none =>
    have : xs = [] := by
      cases xs with
      | nil => rfl
      | cons y ys =>
        obtain ⟨ad, h, _⟩ := hr 0 y rfl
        cases h
    exact hK _ _ (h1 this _ _ (fin true))
  | some ad => exact hK _ _ (h2 _ _ (fin false))
theorem p_min {t t' : TypeId} {x y : Operand} {kk : IntKind} {a b : Int} (hx : s.ev x = some (sc (.int kk a))) (hy : s.ev y = some (sc (.int kk b))) :
    Ps cx s (.call { callee := .builtin .min, args := #[x, y], argTypes := #[t, t'] }) (sc (.int kk (if b < a then b else a))) :=
  fun A w E S hI hT => by
    refine ⟨_, fun w' hW _ _ _ _ _ => ?_, sc_mk rfl⟩
    have hm : Array.map A.eval #[x, y] = #[.int kk a, .int kk b] := by simp [sc_den (ev_den hT hx), sc_den (ev_den hT hy)]
    simp only [execOp, resolve, invoke, builtin, hm, Sem.run_bind, Sem.run_pure, Result.andThen_ok]
    rw [run_min_int2]
    rfl
theorem o_min {t t' : TypeId} {x y : Operand} {kk : IntKind} {a b : Int} (hd : okd dst cx.n = true) (hx : s.ev x = some (sc (.int kk a))) (hy : s.ev y = some (sc (.int kk b))) :
    Os cx s ⟨dst, .call { callee := .builtin .min, args := #[x, y], argTypes := #[t, t'] }, ty, pos, aft, none⟩ (s.sets dst (some (sc (.int kk (if b < a then b else a))))) true := o_value hd (p_min hx hy)
theorem p_max {t t' : TypeId} {x y : Operand} {kk : IntKind} {a b : Int} (hx : s.ev x = some (sc (.int kk a))) (hy : s.ev y = some (sc (.int kk b))) :
    Ps cx s (.call { callee := .builtin .max, args := #[x, y], argTypes := #[t, t'] }) (sc (.int kk (if a < b then b else a))) :=
  fun A w E S hI hT => by
    refine ⟨_, fun w' hW _ _ _ _ _ => ?_, sc_mk rfl⟩
    have hm : Array.map A.eval #[x, y] = #[.int kk a, .int kk b] := by simp [sc_den (ev_den hT hx), sc_den (ev_den hT hy)]
    simp only [execOp, resolve, invoke, builtin, hm, Sem.run_bind, Sem.run_pure, Result.andThen_ok]
    rw [run_max_int2]
    rfl
theorem o_max {t t' : TypeId} {x y : Operand} {kk : IntKind} {a b : Int} (hd : okd dst cx.n = true) (hx : s.ev x = some (sc (.int kk a))) (hy : s.ev y = some (sc (.int kk b))) :
    Os cx s ⟨dst, .call { callee := .builtin .max, args := #[x, y], argTypes := #[t, t'] }, ty, pos, aft, none⟩ (s.sets dst (some (sc (.int kk (if a < b then b else a))))) true := o_value hd (p_max hx hy)
end rules
def memU (l : List Int) (v : Int) : Bool := decide (-40 ≤ v ∧ v ≤ 9) && (decide (0 ≤ v) || decide (-1 - v < l.length))
def findU (l : List Int) (v : Int) : Int := if (-40 ≤ v ∧ v ≤ -1) ∧ -1 - v < l.length ∧ ufOk l = true then l.getD (-1 - v).toNat 0 else v
def uniC (l : List Int) (a b : Int) : Int := if ufOk l = false ∨ memU l a = false ∨ memU l b = false then 2 else if findU l a = findU l b then 0 else if 0 ≤ findU l a ∧ 0 ≤ findU l b then 2 else 1
def repU (x y : Int) : Int → Int := fun v => if v = (if y < x then y else x) then (if x < y then y else x) else v
def uniL (l : List Int) (a b : Int) : List Int := if uniC l a b = 1 then l.map (repU (findU l a) (findU l b)) else l
theorem findU_at {l : List Int} {v n y : Int} (h1 : -40 ≤ v ∧ v ≤ -1) (h2 : -1 - v < l.length) (h3 : ufOk l = true) (hn : n = -1 - v) (hy : l[n.toNat]? = some y) : findU l v = y := by
  subst hn
  unfold findU
  rw [if_pos ⟨h1, h2, h3⟩]
  simp [List.getD, hy]
theorem findU_no {l : List Int} {v : Int} (h : ¬ ((-40 ≤ v ∧ v ≤ -1) ∧ -1 - v < l.length ∧ ufOk l = true)) : findU l v = v := if_neg h
theorem repU_hit {x y z : Int} (h : z = if y < x then y else x) : (if x < y then y else x) = repU x y z := by unfold repU; exact (if_pos h).symm
theorem repU_miss {x y z : Int} (h : ¬ z = if y < x then y else x) : repU x y z = z := if_neg h
theorem memU_of {l : List Int} {v : Int} (h : -40 ≤ v ∧ v ≤ 9) (h2 : 0 ≤ v ∨ -1 - v < l.length) : memU l v = true := by
  unfold memU
  rw [decide_eq_true h, Bool.true_and, Bool.or_eq_true]
  exact h2.imp decide_eq_true decide_eq_true
theorem memU_not {l : List Int} {v : Int} (h : ¬ (-40 ≤ v ∧ v ≤ 9) ∨ (v < 0 ∧ l.length ≤ -1 - v)) : memU l v = false := by
  unfold memU
  rcases h with h | h
  · rw [decide_eq_false h]; rfl
  · rw [decide_eq_false (by omega : ¬ 0 ≤ v), decide_eq_false (by omega : ¬ -1 - v < (l.length : Int))]; simp
theorem uniC_bad {l : List Int} {a b : Int} (h : ufOk l = false ∨ memU l a = false ∨ memU l b = false) : uniC l a b = 2 := if_pos h
theorem uniC_ok {l : List Int} {a b : Int} (h0 : ufOk l = true) (h1 : memU l a = true) (h2 : memU l b = true) : uniC l a b = if findU l a = findU l b then 0 else if 0 ≤ findU l a ∧ 0 ≤ findU l b then 2 else 1 := if_neg (by rw [h0, h1, h2]; simp)
theorem uniC_same {l : List Int} {a b : Int} (h0 : ufOk l = true) (h1 : memU l a = true) (h2 : memU l b = true) (h : findU l a = findU l b) : uniC l a b = 0 := by rw [uniC_ok h0 h1 h2, if_pos h]
theorem uniC_const {l : List Int} {a b : Int} (h0 : ufOk l = true) (h1 : memU l a = true) (h2 : memU l b = true) (h : ¬ findU l a = findU l b) (h3 : 0 ≤ findU l a ∧ 0 ≤ findU l b) : uniC l a b = 2 := by rw [uniC_ok h0 h1 h2, if_neg h, if_pos h3]
theorem uniC_done {l : List Int} {a b : Int} (h0 : ufOk l = true) (h1 : memU l a = true) (h2 : memU l b = true) (h : ¬ findU l a = findU l b) (h3 : ¬ (0 ≤ findU l a ∧ 0 ≤ findU l b)) : uniC l a b = 1 := by rw [uniC_ok h0 h1 h2, if_neg h, if_neg h3]
theorem uniL_keep {l : List Int} {a b n : Int} (h : uniC l a b = n) (hn : n ≠ 1) : l = uniL l a b := by unfold uniL; rw [if_neg (by omega)]
theorem uniL_done {l : List Int} {a b : Int} {m : Nat} (h : uniC l a b = 1) (hm : l.length ≤ m) : (l.take m).map (repU (findU l a) (findU l b)) ++ l.drop m = uniL l a b := by
  rw [List.take_of_length_le hm, List.drop_eq_nil_of_le hm, List.append_nil]; unfold uniL; rw [if_pos h]
theorem tupU {l : List Int} {a b n : Int} (h : uniC l a b = n) : AV.tup [(true, [.own 2]), (false, [.t none (.v (.int .i64 n))])] = AV.tup [(true, [.own 2]), (false, [.t none (.v (.int .i64 (uniC l a b)))])] := by rw [h]
theorem uni_len (l : List Int) (a b : Int) : (uniL l a b).length = l.length := by unfold uniL; split <;> simp
section
variable {l : List Int} {f : Int → Int} {m : Nat} {z : Int}
theorem map_at (h : ((l.take m).map f ++ l.drop m)[m]? = some z) (hm : m ≤ l.length) : l[m]? = some z := by
  rw [List.getElem?_append_right (by simp; omega)] at h
  simp only [List.length_map, List.length_take, Nat.min_eq_left hm, Nat.sub_self, List.getElem?_drop] at h
  simpa using h
theorem map_set {y : Int} (h : l[m]? = some z) (hy : y = f z) : ((l.take m).map f ++ l.drop m).set m y = (l.take (m + 1)).map f ++ l.drop (m + 1) := by
  obtain ⟨hm, hz⟩ := List.getElem?_eq_some_iff.1 h
  rw [List.set_append_right _ _ (by simp; omega)]
  simp only [List.length_map, List.length_take, Nat.min_eq_left (by omega : m ≤ l.length), Nat.sub_self]
  rw [List.drop_eq_getElem_cons hm, List.set_cons_zero, List.take_add_one, h, hy]
  simp
theorem map_skip (h : l[m]? = some z) (hz : f z = z) : (l.take m).map f ++ l.drop m = (l.take (m + 1)).map f ++ l.drop (m + 1) := by
  obtain ⟨hm, e⟩ := List.getElem?_eq_some_iff.1 h
  rw [List.drop_eq_getElem_cons hm, List.take_add_one, h]
  simp [hz, e]
end
end Go.Eng
