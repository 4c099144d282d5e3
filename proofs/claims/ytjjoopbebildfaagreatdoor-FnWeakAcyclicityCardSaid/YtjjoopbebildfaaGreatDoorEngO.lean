/- Texts: strings.Join and strconv.Itoa by the shelf's contracts. -/
import Derived.Test.YtjjoopbebildfaaGreatDoorEngN
import Derived.Ground.NamesProg
import Derived.Shelf.Lay
import Derived.Shelf.Strings.OnBuilder
import Derived.Shelf.Strconv.Itoa3
set_option linter.unusedVariables false
set_option linter.unusedSimpArgs false
namespace Go.Eng
open Go Go.RowKit Go.Proofs
/-- A call that hands back a string and keeps what was there. -/
theorem pu_str {P : Program} {f : FuncId} {args : List AV} {t : List UInt8} (h : ∀ (w : World) (S : Nat → Prop) (vs : List Value), (∀ k, S k → k < w.heap.size) → denA (fun _ => dead) S w args vs → Calls P f vs.toArray w fun e w' => e = .returned (.string (mkS t)) ∧ Below w.heap.size w w') :
    Pu P f args [] 0 (.c (.t none (.v (.string (mkS t))))) := by
  intro n w S vs hS hA
  refine (h w S vs hS hA).mono fun e w' ⟨he, hb⟩ => ⟨_, fun _ => dead, S, he, ⟨fun k hk => Nat.lt_of_lt_of_le (hS k hk) hb.size, fun k hk => .inl hk, fun i o h => by simp [alook] at h, fun i j _ h => h.elim, fun i h => h.elim, fun i h => h.elim, ⟨hb.os, hb.tape, hb.output, hb.size, fun k hk _ => hb.block k hk⟩⟩, ⟨trivial, rfl, rfl⟩⟩
theorem itoa_pu {P : Program} {ρ : Go.Shelf.Ren} (L : Go.Proofs.Lays.n171 P ρ) (i : Int) (h : 0 ≤ i ∧ i < 100) :
    Pu P (ρ.f 171) [.c (.t none (.v (.int .i64 i)))] [] 0 (.c (.t none (.v (.string (mkS (Lib.decDigits i.toNat)))))) := by
  refine pu_str fun w S vs hS hA => ?_
  obtain ⟨u0, e0, d0⟩ := hA.2 0 _ rfl
  have hvs : vs = [u0] := by
    have h := hA.1
    match vs, h, e0 with
    | [x], _, e0 => cases e0; rfl
  subst hvs
  obtain ⟨_, rfl, _⟩ := d0
  have := Go.Proofs.Any.strconv_Itoa_small L i.toNat (by omega) w
  rw [Int.toNat_of_nonneg h.1] at this
  exact this.mono fun e w' ⟨h1, h2⟩ => ⟨h1, h2 ▸ Below.refl _ _⟩
section
variable {cx : Cx} {s : St} {dst : Option Nat} {ty : TypeId} {pos : String} {aft : Array Edge}
end
/-! ### texts of numbers -/
def fmtN (n : Int) : List UInt8 := if n = 0 then [48] else digs n.toNat
theorem digs_dec {u : Nat} (h : 0 < u) : digs u = Lib.decDigits u := by
  induction u using Nat.strongRecOn with
  | _ u ih =>
    rw [digs_step h, Lib.decDigits]
    by_cases h1 : u < 10
    · rw [dif_pos h1, Nat.div_eq_of_lt h1, Nat.mod_eq_of_lt h1]
      simp [digs]
    · rw [dif_neg h1, ih (u / 10) (by omega) (by omega)]
theorem fmtN_dec {n : Int} (h : 0 ≤ n) : Lib.decDigits n.toNat = fmtN n := by
  unfold fmtN
  split
  · rename_i h0
    subst h0
    rw [show (0 : Int).toNat = 0 from rfl, Lib.decDigits, dif_pos (by decide)]
    rfl
  · exact (digs_dec (by omega)).symm
def fmtT (t : Int) : List UInt8 := if 0 ≤ t ∧ t ≤ 4 then (([120, 121, 122, 117, 118] : List UInt8).drop t.toNat).take 1 else if -10 ≤ t ∧ t ≤ -1 then fmtN (-1 - t) else []
end Go.Eng
