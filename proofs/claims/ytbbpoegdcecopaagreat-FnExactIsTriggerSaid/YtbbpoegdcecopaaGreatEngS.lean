/- The engine, part S: strings (told as lists of bytes), least and greatest. -/
import Derived.Test.YtbbpoegdcecopaaGreatEngP
import Derived.Laws.Strings
import Derived.Laws.Cover1
set_option linter.unusedVariables false
set_option linter.unusedSimpArgs false
namespace Go.Eng
open Go Go.RowKit

theorem bl_irrefl : ∀ x : List UInt8, Op.bytesLess x x = false
  | [] => rfl
  | a :: x => by simp [Op.bytesLess, bl_irrefl x]
theorem bl_asymm : ∀ x y : List UInt8, Op.bytesLess x y = true → Op.bytesLess y x = false
  | x, [] => fun h => by cases x <;> simp [Op.bytesLess] at h
  | [], b :: y => fun _ => rfl
  | a :: x, b :: y => fun h => by
    simp only [Op.bytesLess, Bool.or_eq_true, Bool.and_eq_true, decide_eq_true_eq, beq_iff_eq] at h
    rcases h with h | ⟨rfl, h⟩
    · have h1 : ¬ b < a := by simp only [UInt8.lt_iff_toNat_lt] at h ⊢; omega
      have h2 : ¬ b = a := by rintro rfl; simp [UInt8.lt_iff_toNat_lt] at h
      simp [Op.bytesLess, h1, h2]
    · simp [Op.bytesLess, bl_asymm x y h, UInt8.lt_iff_toNat_lt]
theorem bl_total : ∀ x y : List UInt8, Op.bytesLess y x = false → Op.bytesLess x y = true ∨ x = y
  | [], [] => fun _ => .inr rfl
  | [], _ :: _ => fun _ => .inl rfl
  | a :: x, [] => fun h => by simp [Op.bytesLess] at h
  | a :: x, b :: y => fun h => by
    simp only [Op.bytesLess, Bool.or_eq_false_iff, decide_eq_false_iff_not] at h
    by_cases he : a = b
    · subst he
      have h2 : Op.bytesLess y x = false := by simpa using h.2
      rcases bl_total x y h2 with h3 | rfl
      · exact .inl (by simp [Op.bytesLess, h3])
      · exact .inr rfl
    · have h1 : a < b := by
        have h3 := h.1
        have h4 : a.toNat ≠ b.toNat := fun z => he (UInt8.toNat_inj.1 z)
        simp only [UInt8.lt_iff_toNat_lt] at h3 ⊢
        omega
      exact .inl (by simp [Op.bytesLess, h1])
theorem bl_leq (x y : List UInt8) : (Op.bytesLess x y || x == y) = !Op.bytesLess y x := by
  cases h : Op.bytesLess y x
  · rcases bl_total x y h with h | h <;> simp [h]
  · have h1 := bl_asymm _ _ h
    have h2 : ¬ x = y := by rintro rfl; rw [bl_irrefl] at h; cases h
    simp [h1, h2]

theorem mkS_toList (l : List UInt8) : (mkS l).toList = l := ByteArray.toList_mk l
theorem mkS_data (b : ByteArray) : mkS b.data.toList = b := rfl
theorem mkS_app (a b : List UInt8) : mkS a ++ mkS b = mkS (a ++ b) := by
  show ByteArray.append _ _ = _
  apply ByteArray.ext
  simp [mkS]
def strV (op : BinOp) (a b : List UInt8) : Option Value :=
  match op with
  | .eql => some (.bool (decide (a = b)))
  | .neq => some (.bool (decide (a ≠ b)))
  | .lss => some (.bool (Op.bytesLess a b))
  | .leq => some (.bool (!(Op.bytesLess b a)))
  | .gtr => some (.bool (Op.bytesLess b a))
  | .geq => some (.bool (!(Op.bytesLess a b)))
  | _ => none
theorem beq_decL (a b : List UInt8) : (a == b) = decide (a = b) := by
  by_cases h : a = b <;> simp [h]
theorem run_str {P : Program} {op : BinOp} {a b : List UInt8} {v : Value} (h : strV op a b = some v) (t : TypeId) (x y : Operand) (w : World) : (do eqGuard op t x y (.string (mkS a)) (.string (mkS b)); binOp op t (.string (mkS a)) (.string (mkS b)) : Sem Value).run P w = .ok v w ∧ v.oneCell' = true := by
  cases op <;> simp only [strV] at h <;> first | (cases h; done) | (cases h; refine ⟨?_, rfl⟩; simp [eqGuard, binOp_string_eql, binOp_string_neq, binOp_string_lss, binOp_string_leq, binOp_string_gtr, binOp_string_geq, mkS_toList, beq_decL, bl_leq]; done) | (cases h; refine ⟨?_, rfl⟩; simp only [eqGuard, binOp_string_eql, binOp_string_neq, binOp_string_lss, binOp_string_leq, binOp_string_gtr, binOp_string_geq, mkS_toList, bl_leq, Bool.not_not]; simp [beq_decL]; done)
section rules
variable {cx : Cx} {s : St} {dst : Option Nat} {ty : TypeId} {pos : String} {aft : Array Edge}
theorem p_str {op : BinOp} {t yt : TypeId} {x y : Operand} {a b : List UInt8} {v : Value} (hx : s.ev x = some (sc (.string (mkS a)))) (hy : s.ev y = some (sc (.string (mkS b)))) (hv : strV op a b = some v) :
    Ps cx s (.binOp op t x y yt) (sc v) :=
  fun A w E S hI hT => by
    have h1 := sc_den (ev_den hT hx)
    have h2 := sc_den (ev_den hT hy)
    have h3 := fun w' => (run_str (P := cx.P) hv t x y w').1
    have h4 := (run_str (P := cx.P) hv t x y w).2
    refine ⟨v, fun w' hW _ _ _ _ _ => ?_, sc_mk h4⟩
    simp only [execOp, h1, h2]
    rw [Sem.run_bind, h3]
    rfl
theorem o_str {op : BinOp} {t yt : TypeId} {x y : Operand} {a b : List UInt8} {v : Value} (hd : okd dst cx.n = true) (hx : s.ev x = some (sc (.string (mkS a)))) (hy : s.ev y = some (sc (.string (mkS b)))) (hv : strV op a b = some v) :
    Os cx s ⟨dst, .binOp op t x y yt, ty, pos, aft, none⟩ (s.sets dst (some (sc v))) true := o_value hd (p_str hx hy hv)
theorem p_cat {t yt : TypeId} {x y : Operand} {a b : List UInt8} (hx : s.ev x = some (sc (.string (mkS a)))) (hy : s.ev y = some (sc (.string (mkS b)))) (hn : a.length + b.length ≤ 9223372036854775807) :
    Ps cx s (.binOp .add t x y yt) (sc (.string (mkS (a ++ b)))) :=
  fun A w E S hI hT => by
    have h1 := sc_den (ev_den hT hx)
    have h2 := sc_den (ev_den hT hy)
    refine ⟨.string (mkS (a ++ b)), fun w' hW _ _ _ _ _ => ?_, sc_mk rfl⟩
    simp only [execOp, h1, h2]
    have e : ¬ (((mkS a).size + (mkS b).size : Nat) : Int) > IntKind.i64.max := by
      show ¬ ((a.length + b.length : Nat) : Int) > _
      rw [show IntKind.i64.max = (9223372036854775807 : Int) from rfl]
      omega
    simp only [eqGuard, binOp_string_add, Op.stringOp, e, if_false]
    rw [← mkS_app]
    rfl
theorem o_cat {t yt : TypeId} {x y : Operand} {a b : List UInt8} (hd : okd dst cx.n = true) (hx : s.ev x = some (sc (.string (mkS a)))) (hy : s.ev y = some (sc (.string (mkS b)))) (hn : a.length + b.length ≤ 9223372036854775807) :
    Os cx s ⟨dst, .binOp .add t x y yt, ty, pos, aft, none⟩ (s.sets dst (some (sc (.string (mkS (a ++ b)))))) true := o_value hd (p_cat hx hy hn)
theorem p_lenS {t : TypeId} {x : Operand} {b : List UInt8} (ht : cx.P.underlying t = some .string) (hx : s.ev x = some (sc (.string (mkS b)))) :
    Ps cx s (.call { callee := .builtin .len, args := #[x], argTypes := #[t] }) ((sc (.int .i64 (b.length : Int)))) := p_lens ht hx
theorem o_lenS {t : TypeId} {x : Operand} {b : List UInt8} (hd : okd dst cx.n = true) (ht : cx.P.underlying t = some .string) (hx : s.ev x = some (sc (.string (mkS b)))) :
    Os cx s ⟨dst, .call { callee := .builtin .len, args := #[x], argTypes := #[t] }, ty, pos, aft, none⟩ (s.sets dst (some (sc (.int .i64 (b.length : Int))))) true := o_value hd (p_lenS ht hx)
theorem p_indexS {t : TypeId} {x y : Operand} {b : List UInt8} {kk : IntKind} {n : Int} {z : UInt8} (ht : cx.P.underlying t = some .string) (hx : s.ev x = some (sc (.string (mkS b)))) (hy : s.ev y = some (sc (.int kk n))) (h0 : 0 ≤ n) (hz : b[n.toNat]? = some z) :
    Ps cx s (.index t x y) (sc (.int .u8 (z.toNat : Int))) :=
  fun A w E S hI hT => by
    refine ⟨_, fun w' hW _ _ _ _ _ => ?_, sc_mk rfl⟩
    simp only [execOp, sc_den (ev_den hT hx), sc_den (ev_den hT hy)]
    obtain ⟨hl, hz⟩ := List.getElem?_eq_some_iff.1 hz
    rw [Sem.run_bind, run_index_string w' t _ kk n ht, dif_pos (by constructor; exact h0; show n < ((b.length : Nat) : Int); omega)]
    subst hz
    rfl
theorem o_indexS {t : TypeId} {x y : Operand} {b : List UInt8} {kk : IntKind} {n : Int} {z : UInt8} (hd : okd dst cx.n = true) (ht : cx.P.underlying t = some .string) (hx : s.ev x = some (sc (.string (mkS b)))) (hy : s.ev y = some (sc (.int kk n))) (h0 : 0 ≤ n) (hz : b[n.toNat]? = some z) :
    Os cx s ⟨dst, .index t x y, ty, pos, aft, none⟩ (s.sets dst (some (sc (.int .u8 (z.toNat : Int))))) true := o_value hd (p_indexS ht hx hy h0 hz)
end rules
end Go.Eng
