import Derived.Test.YthcggkagkihamaaGreatDoorEngN
import Derived.Ground.NamesProg
import Derived.Shelf.Lay
import Derived.Shelf.Strings.OnBuilder
import Derived.Shelf.Strconv.Itoa3
set_option linter.unusedVariables false
set_option linter.unusedSimpArgs false
namespace Go.Eng
open Go Go.RowKit Go.Proofs
theorem pu_str {P : Program} {f : FuncId} {args : List AV} {t : List UInt8} (h : ∀ (w : World) (S : Nat → Prop) (vs : List Value), (∀ k, S k → k < w.heap.size) → denA (fun _ => dead) S w args vs → Calls P f vs.toArray w fun e w' => e = .returned (.string (mkS t)) ∧ Below w.heap.size w w') :
  Pu P f args [] 0 (.c (.t none (.v (.string (mkS t))))) := by
 intro n w S vs hS hA
 refine (h w S vs hS hA).mono fun e w' ⟨he, hb⟩ => ⟨_, fun _ => dead, S, he, ⟨fun k hk => Nat.lt_of_lt_of_le (hS k hk) hb.size, fun k hk => .inl hk, fun i o h => by simp [alook] at h, fun i j _ h => h.elim, fun i h => h.elim, fun i h => h.elim, ⟨hb.os, hb.tape, hb.output, hb.size, fun k hk _ => hb.block k hk⟩⟩, ⟨trivial, rfl, rfl⟩⟩
theorem join_pu {P : Program} {ρ : Go.Shelf.Ren} (L : Go.Proofs.Lays.n156 P ρ) (X : Go.Proofs.Builder.Extra P ρ) (xs : List (List UInt8)) (sep : List UInt8) (h1 : xs.length ≤ 140737488355328) (h2 : (Lib.join xs sep).length ≤ 140737488355328) :
  Pu P (ρ.f 156) [.c (.t none (.sl 1 encS xs)), .c (.t none (.v (.string (mkS sep))))] [] 0 (.c (.t none (.v (.string (mkS (Lib.join xs sep)))))) := by
 refine pu_str fun w S vs hS hA => ?_
 obtain ⟨u0, e0, d0⟩ := hA.2 0 _ rfl
 obtain ⟨u1, e1, d1⟩ := hA.2 1 _ rfl
 have hvs : vs = [u0, u1] := by
  have h := hA.1
  match vs, h, e0, e1 with
  | [x, y], _, e0, e1 => cases e0; cases e1; rfl
 subst hvs
 obtain ⟨_, A, cap, rfl, hc, hr⟩ := d0
 obtain ⟨_, rfl, _⟩ := d1
 have hm : (xs.map fun x => mkS x).map (·.data.toList) = xs := by
  rw [List.map_map]
  conv => rhs; rw [← List.map_id xs]
  exact List.map_congr_left fun x _ => by simp
 cases xs with
 | nil =>
  refine (Go.Proofs.Any.strings_Join_none L X A cap (mkS sep) w).mono ?_
  rintro e w' ⟨rfl, rfl⟩
  exact ⟨rfl, Below.refl _ _⟩
 | cons x r =>
  obtain ⟨ad, rfl, hs, hq⟩ := hr 0 x rfl
  have hcell : ∀ (j : Nat) y, (x :: r)[j]? = some y → ad.spot = none ∧ w.cell? ⟨ad.block, ad.off + j, none⟩ = some (.string (mkS y)) := by
   intro j y hj
   obtain ⟨ad', ha, _, hq'⟩ := hr j y hj
   cases ha
   obtain ⟨u', hc', hd'⟩ := hq' 0 (by decide)
   have hu : u' = .string (mkS y) := hd'.1
   subst hu
   have hsp : ad.spot = none := by
    obtain ⟨u0, hc0, _⟩ := hq 0 (by decide)
    simp only [Nat.zero_mul, Nat.add_zero, Addr.add, if_true] at hc0
    unfold World.cell? at hc0
    split at hc0
    ·split at hc0
     ·cases hc0
     ·rename_i hn
      cases hsp : ad.spot with
      | none => rfl
      | some k => rw [hsp] at hn; simp at hn
    ·cases hc0
   refine ⟨hsp, ?_⟩
   have hadd : ad.add (j * 1 + 0) = ⟨ad.block, ad.off + j, none⟩ := by
    unfold Addr.add
    split
    ·rename_i h0
     have : j = 0 := by omega
     subst this
     cases ad
     simp_all
    ·simp
   rw [hadd] at hc'
   exact hc'
  have had : ad = ⟨ad.block, ad.off, none⟩ := by
   have := (hcell 0 x rfl).1
   cases ad
   simp_all
  have hlen : (Lib.join (((x :: r).map fun x => mkS x).map (·.data.toList)) (mkS sep).data.toList).length ≤ 140737488355328 := by rw [hm]; exact h2
  have := Go.Proofs.Any.strings_Join L X ad.block ad.off cap ((x :: r).map fun x => mkS x) (mkS sep) w (fun j y hj => by
   rw [List.getElem?_map] at hj
   obtain ⟨y', h1, rfl⟩ := Option.map_eq_some_iff.mp hj
   exact (hcell j y' h1).2) (hS _ hs) (by rw [List.length_map]; exact h1) (by rw [List.length_map]; exact hc) hlen
  rw [hm, List.length_map, ← had] at this
  exact this
theorem itoa_pu {P : Program} {ρ : Go.Shelf.Ren} (L : Go.Proofs.Lays.n171 P ρ) (i : Int) (h : 0 ≤ i ∧ i < 100) :
  Pu P (ρ.f 171) [.c (.t none (.v (.int .i64 i)))] [] 0 (.c (.t none (.v (.string (mkS (Lib.decDigits i.toNat)))))) := by
 refine pu_str fun w S vs hS hA => ?_
 obtain ⟨u0, e0, d0⟩ := hA.2 0 _ rfl
 have hvs : vs = [u0] := by
  have h := hA.1
  match vs, h, e0 with
  | [x], _, e0 => cases e0; rfl
 subst hvs
 obtain ⟨_, rfl, _⟩ := d0
 have := Go.Proofs.Any.strconv_Itoa_small L i.toNat (by omega) w
 rw [Int.toNat_of_nonneg h.1] at this
 exact this.mono fun e w' ⟨h1, h2⟩ => ⟨h1, h2 ▸ Below.refl _ _⟩
theorem ext_mkS (b : List UInt8) (i j : Nat) : (mkS b).extract i j = mkS ((b.take j).drop i) := by
 apply ByteArray.ext
 apply Array.ext'
 rw [ByteArray.data_extract]
 simp [Array.toList_extract, List.extract_eq_take_drop, List.drop_take]
section
variable {cx : Cx} {s : St} {dst : Option Nat} {ty : TypeId} {pos : String} {aft : Array Edge}
theorem p_subS {t : TypeId} {x y z : Operand} {k k' : IntKind} {b : List UInt8} {i j : Int} (ht : cx.P.underlying t = some .string) (hx : s.ev x = some (sc (.string (mkS b)))) (hy : s.ev y = some (sc (.int k i))) (hz : s.ev z = some (sc (.int k' j))) (h0 : 0 ≤ i) (h1 : i ≤ j) (h2 : j ≤ b.length) :
  Ps cx s (.slice t x (some y) (some z) none) (sc (.string (mkS ((b.take j.toNat).drop i.toNat)))) :=
 fun A w E S hI hT => by
  refine ⟨.string (mkS ((b.take j.toNat).drop i.toNat)), fun w' hW _ _ _ _ _ => ?_, trivial, rfl, rfl⟩
  have h3 : j ≤ ((mkS b).size : Int) := by show j ≤ ((b.toArray.size : Nat) : Int); simpa using h2
  simp only [execOp, Option.map_some, Option.map_none]
  rw [sc_den (ev_den hT hx), sc_den (ev_den hT hy), sc_den (ev_den hT hz), Sem.run_bind, run_sliceAt_string _ _ _ _ _ _ ht, run_slice_string _ _ _ _ _ _ _ ht h0 h1 h3, ext_mkS]
  rfl
theorem o_subS {t : TypeId} {x y z : Operand} {k k' : IntKind} {b : List UInt8} {i j : Int} (hd : okd dst cx.n = true) (ht : cx.P.underlying t = some .string) (hx : s.ev x = some (sc (.string (mkS b)))) (hy : s.ev y = some (sc (.int k i))) (hz : s.ev z = some (sc (.int k' j))) (h0 : 0 ≤ i) (h1 : i ≤ j) (h2 : j ≤ b.length) :
  Os cx s ⟨dst, .slice t x (some y) (some z) none, ty, pos, aft, none⟩ (s.sets dst (some (sc (.string (mkS ((b.take j.toNat).drop i.toNat)))))) true := o_value hd (p_subS ht hx hy hz h0 h1 h2)
end
def fmtN (n : Int) : List UInt8 := if n = 0 then [48] else digs n.toNat
theorem digs_dec {u : Nat} (h : 0 < u) : digs u = Lib.decDigits u := by
 induction u using Nat.strongRecOn with
 | _ u ih =>
  rw [digs_step h, Lib.decDigits]
  by_cases h1 : u < 10
  ·rw [dif_pos h1, Nat.div_eq_of_lt h1, Nat.mod_eq_of_lt h1]
   simp [digs]
  ·rw [dif_neg h1, ih (u / 10) (by omega) (by omega)]
theorem fmtN_dec {n : Int} (h : 0 ≤ n) : Lib.decDigits n.toNat = fmtN n := by
 unfold fmtN
 split
 ·rename_i h0
  subst h0
  rw [show (0 : Int).toNat = 0 from rfl, Lib.decDigits, dif_pos (by decide)]
  rfl
 ·exact (digs_dec (by omega)).symm
def fmtT (t : Int) : List UInt8 := if 0 ≤ t ∧ t ≤ 4 then (([120, 121, 122, 117, 118] : List UInt8).drop t.toNat).take 1 else if -10 ≤ t ∧ t ≤ -1 then fmtN (-1 - t) else []
end Go.Eng
