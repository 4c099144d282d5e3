import Derived.Test.YthcggkagkihamaaGreatEngE
import Derived.Shelf.SortM.Plain
import Derived.Shelf.SortM.SortNone
import Derived.Shelf.SlGeneric
import Derived.Ground.SlgmProg
import Derived.Laws.CopyRow
set_option linter.unusedVariables false
set_option linter.unusedSimpArgs false
namespace Go.Eng
open Go Go.RowKit

theorem put_heap (w : World) (k g : Nat) (d : Array Int) (os : Array Obj) (cur : Array Value) (e : Nat) (h : w.heap[g]? = some (.cells cur e (0, 0))) :
  (Go.Sort.grow (Go.Sort.putRow (Value.int .i64) (Go.Sort.ahead w k) g 0 d) os).heap[g]? = some (.cells (Go.Sort.putCells (Value.int .i64) 0 d cur) e (0, 0)) := by
 have hg : g < w.heap.size := (Array.getElem?_eq_some_iff.1 h).1
 rw [Go.Sort.heap_grow_old _ _ (by simpa using hg)]
 show ((Go.Sort.ahead w k).heap.modify g _)[g]? = _
 rw [Array.getElem?_modify, if_pos rfl]
 show Option.map _ (w.heap[g]?) = _
 rw [h]
 rfl
theorem put_other (w : World) (k g : Nat) (d : Array Int) (os : Array Obj) {b : Nat} (hb : b < w.heap.size) (hne : b ≠ g) :
  (Go.Sort.grow (Go.Sort.putRow (Value.int .i64) (Go.Sort.ahead w k) g 0 d) os).heap[b]? = w.heap[b]? := by
 rw [Go.Sort.heap_grow_old _ _ (by simpa using hb)]
 show ((Go.Sort.ahead w k).heap.modify g _)[b]? = _
 rw [Array.getElem?_modify, if_neg (Ne.symm hne)]
 rfl
theorem put_take (l : List Int) (cur : Array Value) (h : l.length ≤ cur.size) : (Go.Sort.putCells (Value.int .i64) 0 l.toArray cur).toList.take l.length = l.map (Value.int .i64) := by
 apply List.ext_getElem?
 intro j
 rw [List.getElem?_take, List.getElem?_map]
 by_cases hj : j < l.length
 ·rw [if_pos hj, Array.getElem?_toList]
  unfold Go.Sort.putCells
  rw [Array.getElem?_mapIdx, Array.getElem?_eq_getElem (by omega), Option.map_some, if_pos ⟨Nat.zero_le _, by simpa using hj⟩, List.getElem?_eq_getElem hj, Option.map_some]
  congr 1
  rw [getElem!_pos l.toArray _ (by simpa using hj)]
  simp
 ·rw [if_neg hj, List.getElem?_eq_none (by omega)]
  rfl
theorem sort_mu {P : Program} {ρ : Go.Shelf.Ren} (Ly : Go.Proofs.SlLaysM.n5 P ρ) (U : Nat → Value) (e0 : Nat) (l : List Int) (hl : l.length < 4611686018427387904) :
  Mu P (ρ.f 5) [.c (.own 0)] [(0, some (.row (some (U 0)) e0 true 1 encI l))] 1 [(0, some (.row (some (U 0)) e0 true 1 encI (sortI l)))] 1 (.tup []) := by
 intro n w E S vs hI hA
 obtain ⟨hl0, hrd, hpn, ho⟩ := hI.obs 0 _ rfl
 obtain ⟨v, hv, hdv⟩ := hA.2 0 _ rfl
 have hvs : vs = [(E 0).u] := by
  have h1 := hA.1
  match vs, h1, hv with
  | [x], _, hv => cases hv; rw [hdv.2.1]
 subst hvs
 simp only [if_true] at ho
 obtain ⟨cells, G, hown, hF, hG, hd, hx⟩ := ho
 have hdone : ∀ w' : World, denV E S w' (.tup []) (.tuple #[]) := fun w' => ⟨[], rfl, rfl, fun j b cs h => by simp at h⟩
 have hown0 := hown
 obtain ⟨hlen, hor⟩ := hown
 by_cases h0 : l = []
 ·subst h0
  have hE : ∃ A cap, (E 0).u = .slice A 0 cap := by
   rcases hor with ⟨h, _⟩ | ⟨g, cap, cur, h, _⟩
   ·exact ⟨_, _, h⟩
   ·exact ⟨_, _, h⟩
  obtain ⟨A, cap, hu⟩ := hE
  rw [hu]
  refine (Go.Proofs.AnyM.slices_Sort_int_none Ly A cap w).mono ?_
  rintro e w' ⟨rfl, rfl⟩
  have hs : sortI [] = [] := List.eq_nil_of_length_eq_zero (sortI_len [])
  rw [hs]
  exact ⟨_, E, S, rfl, hI, hdone _⟩
 ·rcases hor with ⟨_, hn⟩ | ⟨g, cap, cur, hu, _, hh, hcap, hmax, hsz, htk⟩
  ·exact absurd (List.eq_nil_of_length_eq_zero hn) h0
  ·have hg : g < w.heap.size := (Array.getElem?_eq_some_iff.1 hh).1
   have hblk : (E 0).F g := hF g (by rw [hu]; rfl)
   have hH : Go.Sort.Holds (Value.int .i64) w g 0 l.toArray := by
    intro j hj
    have hj' : j < l.length := by simpa using hj
    obtain ⟨u', h1, h2⟩ := hx j l[j] (List.getElem?_eq_getElem hj') 0 Nat.one_pos
    have h3 : u' = .int .i64 l[j] := h2.1
    subst h3
    rw [Nat.mul_one, Nat.add_zero] at h1
    refine ⟨?_, ?_⟩
    ·have h4 := World.ownsRow.cells hown0 (g := g) (by rw [hu]; rfl) j _ h1
     rw [getElem!_pos l.toArray j hj, Nat.zero_add]
     have h5 : (⟨g, 0, none⟩ : Addr).add j = ⟨g, j, none⟩ := by simp [Addr.add]; exact fun h => h.symm
     rw [h5] at h4
     simpa using h4
    ·simp [World.frozen?, hh]
   rw [hu]
   refine (Go.Proofs.AnyM.slices_Sort_int Ly g 0 cap l w hH hg hl).mono ?_
   rintro e w' ⟨rfl, k, os, rfl⟩
   have hs : (l.mergeSort fun x y => decide (x ≤ y)) = sortI l := rfl
   rw [hs]
   have hsl := sortI_len l
   have hgr : w.heap.size ≤ (Go.Sort.grow (Go.Sort.putRow (Value.int .i64) (Go.Sort.ahead w k) g 0 (sortI l).toArray) os).heap.size := by simp
   refine ⟨_, E, S, rfl, ⟨fun b hb => Nat.lt_of_lt_of_le (hI.slt b hb) hgr, hI.snew, fun j o hj => ?_, hI.dis, fun i hi b hb => ?_, hI.nxt, ?_⟩, hdone _⟩
   ·rw [alook_cons] at hj
    split at hj
    ·rename_i hj0
     subst hj0
     cases hj
     refine ⟨hl0, hrd, hpn, ?_⟩
     simp only [if_true]
     refine ⟨(sortI l).map (Value.int .i64), fun _ _ _ => False, ⟨by simp, .inr ⟨g, cap, _, by rw [hu, hsl], Nat.zero_le _, put_heap w k g _ os cur e0 hh, by omega, hmax, ?_, ?_⟩⟩, hF, fun _ _ _ h => h.elim, fun _ _ _ _ _ h => h.elim, fun i x hi j hj => ?_⟩
     ·simp [Go.Sort.putCells]
      omega
     ·rw [Nat.mul_one]
      exact put_take _ _ (by omega)
     ·have : j = 0 := by omega
      subst this
      refine ⟨.int .i64 x, ?_, rfl, rfl⟩
      rw [Nat.mul_one, Nat.add_zero, List.getElem?_map, hi]
      rfl
    ·simp [alook] at hj
   ·obtain ⟨h1, h2, h3⟩ := hI.fp i hi b hb
    exact ⟨Nat.lt_of_lt_of_le h1 hgr, h2, h3⟩
   ·refine ⟨rfl, rfl, rfl, hgr, fun b hb hM => put_other w k g _ os hb fun h => ?_⟩
    subst h
    exact hM ⟨0, hl0, hblk⟩
end Go.Eng

set_option linter.unusedVariables false
set_option linter.unusedSimpArgs false
namespace Go.Eng
open Go Go.RowKit
def ctA : Int × List Int → Nat := fun x => 1 + x.2.length
def markAT : Int → Int × List Int → Int × List Int := fun k x => (k, seqI (k + 1) x.2.length)
def markATS : Int → List (Int × List Int) → List (Int × List Int) := mkL markAT ctA
theorem ctA_sum (l : List (Int × List Int)) : (l.map ctA).sum = szS (fun (x : Int × List Int) => x.2.length) l := by
 unfold szS
 induction l with
 | nil => rfl
 | cons x l ih =>
  simp only [List.map_cons, List.sum_cons, ih, List.length_cons]
  unfold ctA
  omega
theorem ctA_part (l : List (Int × List Int)) (m : Nat) : szT ctA l m ≤ szS (fun (x : Int × List Int) => x.2.length) l := by
 rw [← ctA_sum]
 unfold szT
 have h : ((l.take m).map ctA).sum + ((l.drop m).map ctA).sum = (l.map ctA).sum := by
  rw [← List.sum_append, ← List.map_append, List.take_append_drop]
 omega
theorem markATS_idem (k : Int) (l : List (Int × List Int)) : markATS k (markATS k l) = markATS k l := mkL_idem (fun k x => by simp [markAT, seqI_length]) (fun k x => by simp [markAT, ctA, seqI_length]) k l
theorem markATS_sum (k : Int) (l : List (Int × List Int)) : ((markATS k l).map ctA).sum = (l.map ctA).sum := mkL_sum (fun k x => by simp [markAT, ctA, seqI_length]) k l
theorem markAT_set {k : Int} {l : List (Int × List Int)} {m : Nat} {z y y1 : Int × List Int} (h : l[m]? = some z) (hy : y = markAT (k + ((szT ctA l m : Nat) : Int)) z) : ((mkL markAT ctA k (l.take m) ++ l.drop m).set m y1).set m y = mkL markAT ctA k (l.take (m + 1)) ++ l.drop (m + 1) := by
 rw [List.set_set]
 exact mkL_set h hy
theorem set_at {α : Type} {l : List α} {n : Nat} {y z : α} (h : (l.set n y)[n]? = some z) : z = y := by
 rw [List.getElem?_set] at h
 simp only [if_true] at h
 split at h
 ·exact (Option.some.inj h).symm
 ·cases h
section
variable {α : Type} {p : α → Bool} {l : List α} {m : Nat} {z : α}
theorem filt_more (h : l[m]? = some z) (hp : p z = true) : (l.take (m + 1)).filter p = (l.take m).filter p ++ [z] := by
 rw [List.take_add_one, h, List.filter_append]
 simp [hp]
theorem filt_same (h : l[m]? = some z) (hp : p z = false) : (l.take (m + 1)).filter p = (l.take m).filter p := by
 rw [List.take_add_one, h, List.filter_append]
 simp [hp]
theorem filt_end (h : l.length ≤ m) : (l.take m).filter p = l.filter p := by rw [List.take_of_length_le h]
theorem filt_len : ((l.take m).filter p).length ≤ l.length := Nat.le_trans (List.length_filter_le _ _) (by rw [List.length_take]; omega)
end
def selV (q : Bool) (B H : List Int) : List Int := H.filter fun x => hasI B x == q
theorem selV_len (q : Bool) (B H : List Int) : (selV q B H).length ≤ H.length := List.length_filter_le _ _
end Go.Eng

set_option linter.unusedVariables false
set_option linter.unusedSimpArgs false
namespace Go.Eng
open Go Go.RowKit
def isN (v : Int) : Bool := decide (-40 ≤ v ∧ v ≤ -1)
def numN (v : Int) : Int := if -40 ≤ v ∧ v ≤ -1 then -1 - v else 0
def nulV (l : List Int) : List Int := (l.filter isN).map numN
theorem nulV_len (l : List Int) : (nulV l).length ≤ l.length := by unfold nulV; rw [List.length_map]; exact List.length_filter_le _ _
theorem nulV_more {l : List Int} {n : Nat} {z : Int} (h : l[n]? = some z) (hz : decide (-40 ≤ z ∧ z ≤ -1) = true) : nulV (l.take (n + 1)) = nulV (l.take n) ++ [if -40 ≤ z ∧ z ≤ -1 then -1 - z else 0] := by
 unfold nulV
 rw [filt_more h hz, List.map_append]
 rfl
theorem nulV_same {l : List Int} {n : Nat} {z : Int} (h : l[n]? = some z) (hz : decide (-40 ≤ z ∧ z ≤ -1) = false) : nulV (l.take (n + 1)) = nulV (l.take n) := by
 unfold nulV
 rw [filt_same h hz]
theorem nulV_end {l : List Int} {n : Nat} (h : l.length ≤ n) : nulV (l.take n) = nulV l := by rw [List.take_of_length_le h]
theorem nulV_part (l : List Int) (n : Nat) : (nulV (l.take n)).length ≤ l.length := Nat.le_trans (nulV_len _) (by rw [List.length_take]; omega)
theorem nulV_app (a b : List Int) : nulV (a ++ b) = nulV a ++ nulV b := by simp [nulV]
def flatT (l : List (Int × List Int)) : List Int := l.flatMap fun a => a.2
theorem flatT_step {l : List (Int × List Int)} {m : Nat} {z : Int × List Int} (h : l[m]? = some z) : flatT (l.take (m + 1)) = flatT (l.take m) ++ z.2 := by
 rw [List.take_add_one, h]
 simp [flatT]
theorem flatT_end {l : List (Int × List Int)} {m : Nat} (h : l.length ≤ m) : flatT (l.take m) = flatT l := by rw [List.take_of_length_le h]
theorem flatT_size (l : List (Int × List Int)) : (flatT l).length ≤ szS (fun x => x.2.length) l := by
 unfold szS flatT
 induction l with
 | nil => simp
 | cons a l ih =>
  simp only [List.flatMap_cons, List.length_append, List.map_cons, List.sum_cons, List.length_cons]
  omega
theorem flatT_part {l : List (Int × List Int)} {m : Nat} {z : Int × List Int} (h : l[m]? = some z) : (flatT (l.take m)).length + z.2.length ≤ (flatT l).length := by
 have h1 := flatT_step h
 have h2 : flatT l = flatT (l.take (m + 1)) ++ flatT (l.drop (m + 1)) := by
  unfold flatT
  rw [← List.flatMap_append, List.take_append_drop]
 rw [h2, h1]
 simp only [List.length_append]
 omega
theorem flatT_ok {l : List (Int × List Int)} (h : ∀ z ∈ l, ∀ x ∈ z.2, okI x) : ∀ x ∈ flatT l, okI x := fun x hx => by
 obtain ⟨z, h1, h2⟩ := List.mem_flatMap.1 hx
 exact h z h1 x h2
theorem setI_app (a b : List Int) : setI (a ++ setI b) = setI (a ++ b) :=
 strict_ext _ _ (setI_sorted _) (setI_sorted _) fun z => by simp only [setI_mem, List.mem_append]
theorem snoc_at {α : Type} (a : List α) {s : List α} {n : Nat} {z : α} (h : s[n]? = some z) : a ++ s.take (n + 1) = (a ++ s.take n) ++ [z] := by
 rw [List.take_add_one, h, List.append_assoc]
 rfl
def nextN (s : List Int) : Int := if s.length = 0 then 0 else IntKind.i64.wrap (s.getD (s.length - 1) 0 + 1)
theorem nextN_at {s : List Int} {n : Nat} {z : Int} (hz : s[n]? = some z) (h : n = s.length - 1) : nextN s = IntKind.i64.wrap (z + 1) := by
 have hn := (List.getElem?_eq_some_iff.1 hz).1
 unfold nextN
 rw [if_neg (by omega), ← h, List.getD_eq_getElem?_getD, hz]
 rfl
theorem nextN_none {s : List Int} (h : s.length = 0) : nextN s = 0 := by unfold nextN; rw [if_pos h]
def valOk (v : Int) : Bool := decide (-40 ≤ v ∧ v ≤ 9)
def factOk (rs : Rels) (r : Int) (ts : List Int) : Bool :=
 relsOk rs && (decide (0 ≤ r ∧ r ≤ (rs.length : Int) - 1) && ((match rs[r.toNat]? with | some x => decide (((ts.length : Nat) : Int) = x.2.1) | none => false) && !ts.any fun t => !valOk t))
section
variable {rs : Rels} {r : Int} {ts : List Int}
theorem fact_no1 (h : relsOk rs = false) : factOk rs r ts = false := by unfold factOk; rw [h]; rfl
theorem fact_no2 (h : ¬ (0 ≤ r ∧ r ≤ (rs.length : Int) - 1)) : factOk rs r ts = false := by unfold factOk; rw [decide_eq_false h]; simp
theorem fact_no3 {z : List UInt8 × Int × Bool} (hz : rs[r.toNat]? = some z) (h : ((ts.length : Nat) : Int) ≠ z.2.1) : factOk rs r ts = false := by unfold factOk; rw [hz]; simp [h]
theorem fact_yes {z : List UInt8 × Int × Bool} (h : relsOk rs = true) (h2 : 0 ≤ r ∧ r ≤ (rs.length : Int) - 1) (hz : rs[r.toNat]? = some z) (h3 : ((ts.length : Nat) : Int) = z.2.1) : factOk rs r ts = !ts.any fun t => !valOk t := by
 unfold factOk; rw [h, decide_eq_true h2, hz]; simp [h3]
theorem fact_idx (h : factOk rs r ts = true) : 0 ≤ r ∧ r < rs.length := by
 unfold factOk at h
 simp only [Bool.and_eq_true, decide_eq_true_eq] at h
 omega
end
def cmpI (x y : Int) : Int := if x < y then -1 else if y < x then 1 else 0
theorem cmpI_eq {x y : Int} (h : cmpI x y = 0) : x = y := by
 unfold cmpI at h
 split at h
 ·omega
 ·split at h
  ·omega
  ·omega
theorem cmpL_cmpI {a b : List Int} {m : Nat} {x y : Int} (h : a.take m = b.take m) (hx : a[m]? = some x) (hy : b[m]? = some y) (hne : cmpI x y ≠ 0) : cmpI x y = cmpL a b := by
 obtain ⟨h1, h2⟩ := cmpL_at h hx hy
 unfold cmpI at hne ⊢
 by_cases q : x < y
 ·rw [if_pos q, h1 q]
 ·by_cases q2 : y < x
  ·rw [if_neg q, if_pos q2, h2 q2]
  ·rw [if_neg q, if_neg q2] at hne
   exact absurd rfl hne
def orI : List Int → Int
 | [] => 0
 | x :: l => if x ≠ 0 then x else orI l
theorem orI_at : ∀ {l : List Int} {m : Nat} {z : Int}, (∀ j y, j < m → l[j]? = some y → y = 0) → l[m]? = some z → z ≠ 0 → orI l = z
 | [], m, z, h, hz, hn => by simp at hz
 | x :: l, 0, z, h, hz, hn => by
  have : x = z := by simpa using hz
  subst this
  rw [orI, if_pos hn]
 | x :: l, m + 1, z, h, hz, hn => by
  rw [orI, if_neg (by rw [h 0 x (by omega) rfl]; simp)]
  exact orI_at (m := m) (fun j y hj hy => h (j + 1) y (by omega) (by simpa using hy)) (by simpa using hz) hn
theorem orI_none : ∀ {l : List Int}, (∀ j y, j < l.length → l[j]? = some y → y = 0) → orI l = 0
 | [], h => rfl
 | x :: l, h => by
  rw [orI, if_neg (by rw [h 0 x (by simp) rfl]; simp)]
  exact orI_none fun j y hj hy => h (j + 1) y (by simp; omega) (by simpa using hy)
theorem zero_step {l : List Int} {m n : Nat} {z : Int} (h : ∀ j y, j < m → l[j]? = some y → y = 0) (hz : l[n]? = some z) (e : n = m) (hx : z = 0) : ∀ j y, j < m + 1 → l[j]? = some y → y = 0 := by
 subst e
 intro j y hj hy
 by_cases hjn : j < n
 ·exact h j y hjn hy
 ·obtain rfl : j = n := by omega
  rw [hz] at hy
  cases hy
  exact hx
def cmpF (f g : Int × List Int) : Int := if f.1 < g.1 then -1 else if g.1 < f.1 then 1 else cmpL f.2 g.2
theorem cmpF_or (f g : Int × List Int) : orI [cmpI f.1 g.1, cmpL f.2 g.2] = cmpF f g := by
 unfold orI orI orI cmpI cmpF
 by_cases h1 : f.1 < g.1
 ·simp [h1]
 ·by_cases h2 : g.1 < f.1
  ·simp [h1, h2]
  ·by_cases h3 : cmpL f.2 g.2 = 0 <;> simp [h1, h2, h3]
def instStep (rs : Rels) (l : Atoms) (j : Nat) : Bool := match l[j]? with
 | some z => factOk rs z.1 z.2 && ((decide (j = 0) || match l[j - 1]? with | some y => decide (cmpF y z < 0) | none => false) && !(srcA rs z && decide (0 < (setI (nulV z.2)).length)))
 | none => true
def instOk (rs : Rels) (l : Atoms) : Bool := decide (∀ j, j < l.length → instStep rs l j = true) && (relsOk rs && decide (l.length ≤ 30))
section
variable {rs : Rels} {l : Atoms} {m : Nat}
theorem instOk_not (hm : m < l.length) (h : instStep rs l m = false) : instOk rs l = false := by
 unfold instOk
 rw [decide_eq_false (fun q => by rw [q m hm] at h; cases h)]
 rfl
theorem instOk_end (h : ∀ j, j < m → instStep rs l j = true) (hm : l.length ≤ m) : instOk rs l = (relsOk rs && decide (l.length ≤ 30)) := by
 unfold instOk
 rw [decide_eq_true (fun j hj => h j (by omega))]
 rfl
theorem instOk_no (h : (relsOk rs && decide (l.length ≤ 30)) = false) : instOk rs l = false := by
 unfold instOk
 rw [h, Bool.and_false]
theorem instStep_at {z : Int × List Int} (hz : l[m]? = some z) : instStep rs l m = (factOk rs z.1 z.2 && ((decide (m = 0) || match l[m - 1]? with | some y => decide (cmpF y z < 0) | none => false) && !(srcA rs z && decide (0 < (setI (nulV z.2)).length)))) := by
 unfold instStep; rw [hz]
theorem instStep_bad {z : Int × List Int} (hz : l[m]? = some z) (h : factOk rs z.1 z.2 = false) : instStep rs l m = false := by
 rw [instStep_at hz, h]; rfl
theorem instStep_pos {z y : Int × List Int} {n : Nat} (hz : l[m]? = some z) (h0 : m ≠ 0) (hy : l[n]? = some y) (hn : n = m - 1) : instStep rs l m = (factOk rs z.1 z.2 && (decide (cmpF y z < 0) && !(srcA rs z && decide (0 < (setI (nulV z.2)).length)))) := by
 subst hn
 rw [instStep_at hz, hy, decide_eq_false h0]
 simp
theorem instStep_zero {z : Int × List Int} (hz : l[m]? = some z) (h0 : m = 0) : instStep rs l m = (factOk rs z.1 z.2 && !(srcA rs z && decide (0 < (setI (nulV z.2)).length))) := by
 rw [instStep_at hz, decide_eq_true h0]
 simp
end
end Go.Eng

set_option linter.unusedVariables false
set_option linter.unusedSimpArgs false
namespace Go.Eng
open Go Go.RowKit
section rules
variable {cx : Cx} {s : St} {dst : Option Nat} {ty : TypeId} {pos : String} {aft : Array Edge}
theorem o_appendD (i : Nat) {pn pn2 : Option Value} {t e e2 q0 : TypeId} {sz by' : Nat} {x y : Operand} {α : Type} {enc : α → Nat → T} {xs ys : List α} (hd : okd dst cx.n = true) (he : elemI cx.P t = some (e, sz, by')) (hpos : Nat.blt 0 sz = true)
  (hx : s.ev x = some (.c (.own i))) (hb : alook s.ob i = some (.row pn e true sz enc xs)) (hy : s.ev y = some (.c (.own q0))) (hq0 : alook s.ob q0 = some (.row pn2 e2 true sz enc ys)) (hqi : Nat.beq q0 i = false) (hlen : (xs.length + ys.length) * by' ≤ 140737488355328) (hl63 : xs.length + ys.length ≤ 9223372036854775807) :
  Os cx s ⟨dst, .call { callee := .builtin .append, args := #[x, y], argTypes := #[t, t] }, ty, pos, aft, none⟩ ((⟨cutT (cutP i [q0]) s.tm, (i, some (.row none e true sz enc (xs ++ ys))) :: dels [q0] (cutO (cutP i [q0]) s.ob), s.nx⟩ : St).sets dst (some (.c (.own i)))) false := by
 refine o_gen fun a w hg => ?_
 obtain ⟨E, S, hI, hT, hn, hdf⟩ := hg
 have hpos : 0 < sz := by simpa using hpos
 obtain ⟨ti, tz, t1, t2, t3, t4, t5, t6⟩ := elemI_get he
 obtain ⟨hli, hux, _⟩ := ev_den hT hx
 have hqi : q0 ≠ i := fun h => by subst h; simp at hqi
 obtain ⟨hlq, huq, _⟩ := ev_den hT hy
 obtain ⟨_, _, _, ho2⟩ := hI.obs _ _ hq0
 simp only [if_true] at ho2
 obtain ⟨cells2, G2, k1, k2, k3, k4, k5⟩ := ho2
 obtain ⟨A, cap, hu2, hcap⟩ := own_slice' k1
 have huy : a.eval y = .slice A ys.length cap := by rw [huq, hu2]
 have hdd : ∀ k, (E i).F k → ¬ (E q0).F k := hI.dis i q0 (Ne.symm hqi) hli hlq
 obtain ⟨_, hrd, _, ho⟩ := hI.obs _ _ hb
 simp only [if_true] at ho
 obtain ⟨cells, G, h1, h2, h3, h4, h5⟩ := ho
 have hexec : ∀ (v1 : Value) (w1 : World), (Builtin.append_ #[t, t] ty #[(E i).u, .slice A ys.length cap]).run cx.P w = .ok v1 w1 → (execOp a.eval ⟨dst, .call { callee := .builtin .append, args := #[x, y], argTypes := #[t, t] }, ty, pos, aft, none⟩).run cx.P w = .ok (.value v1) w1 := fun v1 w1 hr => by
  have hm : Array.map a.eval #[x, y] = #[(E i).u, .slice A ys.length cap] := by simp [hux, huy]
  simp only [execOp, resolve, invoke, builtin, hm, Sem.run_bind, Sem.run_pure, Result.andThen_ok]
  rw [hr]
  rfl
 have fin : ∀ (v1 : Value) (w1 : World) (news : List Value), w1.ownsRow 0 e sz v1 (xs.length + ys.length) (cells ++ news) → (∀ b y', ys[b]? = some y' → ∀ c, c < sz → ∃ u', news[b * sz + c]? = some u' ∧ Ow w (enc y' c) u' (G2 b c)) → w.heap.size ≤ w1.heap.size → w1.os = w.os → w1.tape = w.tape → w1.output = w.output → (∀ q, q < w.heap.size → some q ≠ (E i).u.ownBlock → w1.heap[q]? = w.heap[q]?) → (v1.ownBlock = (E i).u.ownBlock ∨ v1.ownBlock = some w.heap.size) → v1.oneCell' = true →
   Gm cx ((⟨cutT (cutP i [q0]) s.tm, (i, some (.row none e true sz enc (xs ++ ys))) :: dels [q0] (cutO (cutP i [q0]) s.ob), s.nx⟩ : St).sets dst (some (.c (.own i)))) (a.put dst v1) w1 := fun v1 w1 news r2 hnw r3 ros rt rop rb r5 hone => by
  have hkeep : ∀ q, q < w.heap.size → ¬ (E i).F q → w1.heap[q]? = w.heap[q]? := fun q hq hf => rb q hq fun hb' => hf (h2 q hb'.symm)
  have hne1 : ∀ q, q < w.heap.size → some q ≠ (E i).u.ownBlock → v1.ownBlock ≠ some q := fun q hq hn' hv => by
   rcases r5 with h5 | h5
   ·rw [h5] at hv; exact hn' hv.symm
   ·rw [h5] at hv; cases hv; omega
  have hfresh : v1.ownBlock = some w.heap.size → w.heap.size < w1.heap.size := fun hv => by
   rcases r2.2 with ⟨e1, _⟩ | ⟨g, cap, cur, e1, _, e2, _⟩
   ·rw [e1] at hv; simp [Value.ownBlock] at hv
   ·rw [e1] at hv
    simp [Value.ownBlock] at hv
    subst hv
    exact (Array.getElem?_eq_some_iff.1 e2).1
  have hlen' : (xs ++ ys).length = xs.length + ys.length := by simp
  have hobj : okOb (takeE E i [q0] ⟨v1, fun k => (E i).F k ∨ v1.ownBlock = some k ∨ ∃ b c, G2 b c k, True, True⟩) S w1 i (.row none e true sz enc (xs ++ ys)) := by
   refine ⟨by rw [takeE_at]; trivial, fun v hv => (by cases hv), ?_⟩
   rw [takeE_at]
   simp only [if_true]
   refine ⟨cells ++ news, fun b c k => if b < xs.length then G b c k else G2 (b - xs.length) c k, by rw [hlen']; exact r2, fun g hg => .inr (.inl hg), fun b c k hk => ?_, fun b c b' c' k hk hk' => ?_, fun b x' hx' c hc => ?_⟩
   ·dsimp only at hk
    split at hk
    ·obtain ⟨e1, e2⟩ := h3 b c k hk
     exact ⟨.inl e1, hne1 k (hI.fp i hli k e1).1 (fun e => e2 e.symm)⟩
    ·have e1 := (k3 _ c k hk).1
     exact ⟨.inr (.inr ⟨_, _, hk⟩), hne1 k (hI.fp q0 hlq k e1).1 (fun e => hdd k (h2 k e.symm) e1)⟩
   ·dsimp only at hk hk'
    split at hk <;> split at hk'
    ·exact h4 b c b' c' k hk hk'
    ·exact absurd (k3 _ _ _ hk').1 (hdd k (h3 _ _ _ hk).1)
    ·exact absurd (k3 _ _ _ hk).1 (hdd k (h3 _ _ _ hk').1)
    ·obtain ⟨e1, e2⟩ := k4 _ _ _ _ k hk hk'
     exact ⟨by omega, e2⟩
   ·by_cases hb1 : b < xs.length
    ·rw [List.getElem?_append_left hb1] at hx'
     obtain ⟨u', e1, e2⟩ := h5 b x' hx' c hc
     refine ⟨u', ?_, Ow.move _ _ (fun k hk => by dsimp only; rw [if_pos hb1]; exact hk) (fun k hk => ?_) e2⟩
     ·rw [List.getElem?_append_left (by rw [h1.1]; exact mulLt hb1 hc)]
      exact e1
     ·obtain ⟨e3, e4⟩ := h3 b c k hk
      exact rb k (hI.fp i hli k e3).1 (fun e => e4 e.symm)
    ·rw [List.getElem?_append_right (by omega)] at hx'
     obtain ⟨u', e1, e2⟩ := hnw _ x' hx' c hc
     refine ⟨u', ?_, Ow.move _ _ (fun k hk => by dsimp only; rw [if_neg hb1]; exact hk) (fun k hk => ?_) e2⟩
     rotate_left
     ·have e3 := (k3 _ _ k hk).1
      exact hkeep k (hI.fp q0 hlq k e3).1 (fun e4 => hdd k e4 e3)
     have hle : xs.length * sz ≤ b * sz := Nat.mul_le_mul_right _ (by omega)
     rw [List.getElem?_append_right (by rw [h1.1]; omega), h1.1, show b * sz + c - xs.length * sz = (b - xs.length) * sz + c by rw [Nat.sub_mul]; omega]
     exact e1
  have hW := hI.write (w' := w1) (i := i) (is := [q0]) (x := ⟨v1, fun k => (E i).F k ∨ v1.ownBlock = some k ∨ ∃ b c, G2 b c k, True, True⟩) (cutP i [q0]) hli (fun q hq => by rw [List.mem_singleton] at hq; subst hq; exact hlq) trivial (fun a' ha' => by
    simp only [cutP, List.any_cons, List.any_nil, Bool.or_false, Bool.or_eq_false_iff] at ha'
    exact ⟨fun q hq => by rw [List.mem_singleton] at hq; subst hq; exact ha'.2, fun hn' => (by rw [ha'.1] at hn'; cases hn'), fun hr _ => by (have := ha'.1; rw [reads_names hr] at this; cases this)⟩)
   (fun k hk => by
    rcases hk with hk | hk | ⟨b, c, hk⟩
    ·exact .inl hk
    ·rcases r5 with h5 | h5
     ·rw [h5] at hk; exact .inl (h2 k hk)
     ·have h6 := hfresh h5
      rw [h5] at hk
      cases hk
      exact .inr (.inr ⟨Nat.le_refl _, h6⟩)
    ·exact .inr (.inl ⟨q0, by simp, (k3 _ _ _ hk).1⟩))
   r3 ros rt rop hkeep hobj
  refine ⟨_, S, ?_, denT_puts (s := ⟨cutT (cutP i [q0]) s.tm, (i, some (.row none e true sz enc (xs ++ ys))) :: dels [q0] (cutO (cutP i [q0]) s.ob), s.nx⟩) hd hn (denT.cut hW.2 hT) (fun v' e' => ?_), by rw [put_size]; exact hn, by rw [put_defers]; exact hdf⟩
  ·rw [sets_ob, sets_nx]; exact hW.1
  ·cases e'
   exact ⟨by rw [takeE_at]; trivial, by rw [takeE_at], hone⟩
 cases A with
 | none =>
  have hy0 : ys = [] := by
   rcases k1.2 with ⟨_, hn0⟩ | ⟨g, cap', cur, e1, _⟩
   ·exact List.eq_nil_of_length_eq_zero hn0
   ·rw [hu2] at e1; cases e1
  subst hy0
  obtain ⟨A', c', hu, hc⟩ := own_slice' h1
  refine ⟨.value (E i).u, w, hexec _ _ ?_, .inl ⟨_, rfl, ?_⟩, fun h => by (cases h)⟩
  ·rw [hu]
   exact run_append_none t1 t2 A' _ c' cap hc w
  ·exact fin _ w [] (by simpa using h1) (fun b y' hb' => by simp at hb') (Nat.le_refl _) rfl rfl rfl (fun _ _ _ => rfl) (.inl rfl) (by rw [hu]; rfl)
 | some ad =>
  have had : ∃ g, ad = ⟨g, 0, none⟩ := by
   rcases k1.2 with ⟨e1, _⟩ | ⟨g, cap', cur, e1, _⟩
   ·rw [hu2] at e1; cases e1
   ·rw [hu2] at e1; cases e1; exact ⟨g, rfl⟩
  obtain ⟨g0, rfl⟩ := had
  have hone2 : ∀ u ∈ cells2, u.oneCell' = true := fun u hu => by
   obtain ⟨j, hj⟩ := List.getElem?_of_mem hu
   have hjl := (List.getElem?_eq_some_iff.1 hj).1
   rw [k1.1] at hjl
   have hqs : j / sz < ys.length := by rw [Nat.div_lt_iff_lt_mul hpos]; exact hjl
   obtain ⟨u', e1, e2⟩ := k5 (j / sz) _ (List.getElem?_eq_getElem hqs) (j % sz) (Nat.mod_lt _ hpos)
   rw [show j / sz * sz + j % sz = j by rw [Nat.mul_comm]; exact Nat.div_add_mod j sz, hj] at e1
   cases e1
   exact Rd.one (Ow.rd _ _ e2)
  obtain ⟨v1, w1, r1, r2, r3, _, r5⟩ := run_append_own_at (P := cx.P) w 0 t ty e ti tz sz by' t1 t2 t3 t4 t5 t6 hpos (E i).u xs.length cells h1 ⟨g0, 0, none⟩ ys.length cap cells2 k1.1 (fun j u hu => World.ownsRow.cells k1 (g := g0) (by rw [hu2]; rfl) j u hu) hone2 (by simp only [maxLen]; omega) hlen (Nat.zero_le _)
  refine ⟨.value v1, w1, hexec _ _ r1, .inl ⟨_, rfl, ?_⟩, fun h => by (cases h)⟩
  refine fin v1 w1 cells2 r2 (fun b y' hb' c hc => k5 b y' hb' c hc) r3.size r3.os r3.tape r3.output r3.block r5 ?_
  obtain ⟨A', c', hu, _⟩ := own_slice' r2
  rw [hu]; rfl
theorem Gm.nil0 {a : Act} {w : World} (hg : Gm cx s a w) (i : Nat) {et sz : Nat} (deep : Bool) {α : Type} (enc : α → Nat → T) (hi : s.nx = i) :
  Gm cx ⟨s.tm, (i, some (.row none et deep sz enc [])) :: s.ob, i + 1⟩ a w := by
 subst hi
 obtain ⟨E, S, hI, hT, hn, hdf⟩ := hg
 let E' := upd E s.nx ⟨.slice none 0 0, fun _ => False, True, True⟩
 have hC : Carry E E' S S w w no := {
  sub := fun _ h => h
  keep := fun _ _ => rfl
  place := fun a _ i _ hl => by
   have := hI.nxt i hl
   show (upd E s.nx _ i).live ∧ (upd E s.nx _ i).u = _
   rw [upd_ne (by omega)]
   exact ⟨hl, rfl⟩
  reads := fun a _ i _ hl => by
   have := hI.nxt i hl.1
   show ((upd E s.nx _ i).live ∧ (upd E s.nx _ i).rd) ∧ (∀ k, _ → (upd E s.nx _ i).F k) ∧ _
   rw [upd_ne (by omega)]
   exact ⟨hl, fun _ q => q, fun _ _ => rfl⟩ }
 refine ⟨E', S, ⟨hI.slt, hI.snew, fun j o hj => ?_, fun j j' hij hj hj' k h1 h2 => ?_, fun j hj k hk => ?_, fun j hj => ?_, hI.kept⟩, fun t' v hv' => ?_, hn, hdf⟩
 ·rw [alook_cons] at hj
  by_cases e : j = s.nx
  ·subst e
   rw [if_pos rfl] at hj
   cases hj
   refine ⟨by show (upd E s.nx _ s.nx).live; rw [upd_at]; trivial, by show (upd E s.nx _ s.nx).rd; rw [upd_at]; trivial, fun v hv => (by cases hv), ?_⟩
   show if deep = true then OwE w et sz enc [] (upd E s.nx _ s.nx).u (upd E s.nx _ s.nx).F else Ro w S et sz enc [] (upd E s.nx _ s.nx).u (upd E s.nx _ s.nx).F
   rw [upd_at]
   cases deep
   ·exact ⟨[], World.ownsRow_nil _ _ _ _, fun g h => by simp [Value.ownBlock] at h, fun i x h => by simp at h⟩
   ·exact ⟨[], fun _ _ _ => False, World.ownsRow_nil _ _ _ _, fun g h => by simp [Value.ownBlock] at h, fun _ _ _ h => h.elim, fun _ _ _ _ _ h => h.elim, fun i x h => by simp at h⟩
  ·rw [if_neg e] at hj
   obtain ⟨h1, h2⟩ := hI.obs j o hj
   refine ⟨by show (upd E s.nx _ j).live; rw [upd_ne e]; exact h1, ?_⟩
   have := okOb.carry hC (i := j) (by show (upd E s.nx _ j).u = _; rw [upd_ne e]) (fun k => by show (upd E s.nx _ j).F k ↔ _; rw [upd_ne e]) (by show (upd E s.nx _ j).rd ↔ _; rw [upd_ne e]) (fun _ _ => rfl) h2
   rwa [Ob.cut_none] at this
 ·have h1' : (upd E s.nx ⟨.slice none 0 0, fun _ => False, True, True⟩ j).F k := h1
  have h2' : (upd E s.nx ⟨.slice none 0 0, fun _ => False, True, True⟩ j').F k := h2
  have hj1 : (upd E s.nx ⟨.slice none 0 0, fun _ => False, True, True⟩ j).live := hj
  have hj2 : (upd E s.nx ⟨.slice none 0 0, fun _ => False, True, True⟩ j').live := hj'
  by_cases e1 : j = s.nx
  ·subst e1; rw [upd_at] at h1'; exact h1'
  ·by_cases e2 : j' = s.nx
   ·subst e2; rw [upd_at] at h2'; exact h2'
   ·rw [upd_ne e1] at h1' hj1; rw [upd_ne e2] at h2' hj2
    exact hI.dis j j' hij hj1 hj2 k h1' h2'
 ·have hk' : (upd E s.nx ⟨.slice none 0 0, fun _ => False, True, True⟩ j).F k := hk
  have hj1 : (upd E s.nx ⟨.slice none 0 0, fun _ => False, True, True⟩ j).live := hj
  by_cases e1 : j = s.nx
  ·subst e1; rw [upd_at] at hk'; exact hk'.elim
  ·rw [upd_ne e1] at hk' hj1; exact hI.fp j hj1 k hk'
 ·have hj1 : (upd E s.nx ⟨.slice none 0 0, fun _ => False, True, True⟩ j).live := hj
  by_cases e1 : j = s.nx
  ·show j < s.nx + 1; omega
  ·rw [upd_ne e1] at hj1
   have := hI.nxt j hj1
   show j < s.nx + 1
   omega
 ·exact denT.carry hC hT t' v hv'

theorem o_lit2 (i : Nat) {t e sz : Nat} {zs : List Value} {parts : Array (Nat × Operand)} {vs : List (Nat × AV)} {us : List AC} {α : Type} {enc : α → Nat → T} (z : α) {is : List Nat} (hi : s.nx = i) (hd : okd dst cx.n = true) (he : elemOf' cx.P t = some (e, sz, zs)) (hz : Nat.beq zs.length sz = true) (h1 : zs.all (·.oneCell') = true) (hsmall : Nat.ble (1 * sz) 16777216 = true) (hv : evL (s.obj i (.row none e true sz enc [])) parts.toList = some vs) (hc : fillL (fun i => some (i * sz, sz)) (List.replicate (1 * sz) .top) vs = some us) (hul : Nat.beq us.length sz = true)
  (hm : MvL (s.obj i (.row none e true sz enc [])) true us (enc z) 0 is) (hii : is.all (fun k => !Nat.beq k i) = true) :
  Os cx s ⟨dst, .buildSlice t 1 parts, ty, pos, aft, none⟩ ((⟨cutT (cutP i is) s.tm, (i, some (.row none e true sz enc [z])) :: dels is (cutO (cutP i is) (s.obj i (.row none e true sz enc [])).ob), i + 1⟩ : St).sets dst (some (.c (.own i)))) false := by
 refine o_gen fun a w hg => ?_
 have hg0 : Gm cx (s.obj i (.row none e true sz enc [])) a w := Gm.nil0 (et := e) (sz := sz) hg i true enc hi
 obtain ⟨E, S, hI, hT, hn, hdf⟩ := hg0
 have hz := Nat.eq_of_beq_eq_true hz
 have hul := Nat.eq_of_beq_eq_true hul
 have htop : denL E S w (List.replicate (1 * sz) .top) ((Array.range (1 * sz)).map (zs.toArray[· % zs.length]!)).toList := by
  refine ⟨by simp, fun j c hj => ?_⟩
  rw [List.getElem?_replicate] at hj
  split at hj
  ·rename_i hlt
   cases hj
   have hpos : 0 < zs.length := by
    rcases Nat.eq_zero_or_pos zs.length with h0 | h0
    ·rw [h0] at hz; subst hz; simp at hlt
    ·exact h0
   have hm : j % zs.length < zs.length := Nat.mod_lt _ hpos
   rw [Nat.one_mul] at hlt
   refine ⟨zs[j % zs.length], by simp [hlt, hm], ?_⟩
   exact (List.all_eq_true.1 h1) _ (List.getElem_mem hm)
  ·cases hj
 obtain ⟨us', h4, h5⟩ := fill_den hT parts.toList vs _ us _ hv hc htop
 have hr := run_litS (P := cx.P) he hz 1 (parts.map fun (i, x) => (i, a.eval x)) us' (by simpa using hsmall) w (by rw [Array.toList_map]; exact h4)
 have hob : alook (s.obj i (.row none e true sz enc [])).ob i = some (.row none e true sz enc []) := by
  show alook ((i, _) :: s.ob) i = _
  rw [alook_cons, if_pos rfl]
 obtain ⟨hli, hrd, _, _⟩ := hI.obs _ _ hob
 obtain ⟨m1, _, m3⟩ := hm.den hI h5
 obtain ⟨Gz, g1, g2, g3⟩ := m3 rfl
 have hlen : us'.toList.length = sz := h5.1.trans hul
 have his : ∀ q ∈ is, q ≠ i := fun q hq e => by
  have := (List.all_eq_true.1 hii) q hq
  subst e
  simp at this
 have hGlt : ∀ c k, Gz c k → k < w.heap.size := fun c k hk => by
  obtain ⟨q, hq, hf⟩ := g1 c k hk
  exact (hI.fp q (m1 q hq) k hf).1
 let w1 := w.alloc (.cells us'.toList.toArray e (0, 0))
 have hkeep : ∀ k, k < w.heap.size → w1.heap[k]? = w.heap[k]? := fun k hk => heap_alloc_old w _ hk
 refine ⟨.value (.slice (some ⟨w.heap.size, 0, none⟩) 1 1), w1, ?_, .inl ⟨_, rfl, ?_⟩, fun h => by (cases h)⟩
 ·simp only [execOp]
  rw [Sem.run_bind, hr]
  rfl
 ·let x : EE := ⟨.slice (some ⟨w.heap.size, 0, none⟩) 1 1, fun k => k = w.heap.size ∨ ∃ q ∈ is, (E q).F k, True, True⟩
  have hobj : okOb (takeE E i is x) S w1 i (.row none e true sz enc [z]) := by
   refine ⟨by rw [takeE_at]; trivial, fun v hv => (by cases hv), ?_⟩
   rw [takeE_at]
   simp only [if_true]
   refine ⟨us'.toList, fun b c k => b = 0 ∧ Gz c k, ⟨by simp [hlen], .inr ⟨w.heap.size, 1, _, rfl, Nat.zero_le _, heap_alloc_new w _, Nat.le_refl _, by simp [maxLen], by rw [Nat.one_mul]; simpa using hlen, by rw [List.length_singleton, Nat.one_mul]; exact List.take_of_length_le (Nat.le_of_eq hlen)⟩⟩, fun g hg => .inl (by simp only [Value.ownBlock, x, Option.some.injEq] at hg; exact hg.symm), fun b c k hk => ⟨?_, ?_⟩, fun b c b' c' k hk hk' => ⟨by rw [hk.1, hk'.1], g2 c c' k hk.2 hk'.2⟩, fun b y hb c hc => ?_⟩
   ·obtain ⟨q, hq, hf⟩ := g1 c k hk.2
    exact .inr ⟨q, hq, hf⟩
   ·have := hGlt c k hk.2
    simp only [Value.ownBlock, x, ne_eq, Option.some.injEq]
    omega
   ·match b, hb with
    | 0, hb =>
     cases hb
     obtain ⟨u', e1, e2⟩ := g3 c (by omega)
     refine ⟨u', by simpa using e1, ?_⟩
     rw [Nat.zero_add] at e2
     exact Ow.move _ _ (fun k hk => ⟨rfl, hk⟩) (fun k hk => hkeep k (hGlt c k hk)) e2
  have hW := hI.write (w' := w1) (i := i) (is := is) (x := x) (cutP i is) hli m1 trivial (fun a' ha' => by
    simp only [cutP, Bool.or_eq_false_iff] at ha'
    exact ⟨fun q hq => by
     have := ha'.2
     rw [List.any_eq_false] at this
     simpa using this q hq, fun hn' => (by rw [ha'.1] at hn'; cases hn'), fun hr _ => (by have := ha'.1; rw [reads_names hr] at this; cases this)⟩)
   (fun k hk => by
    rcases hk with hk | ⟨q, hq, hk⟩
    ·exact .inr (.inr ⟨by omega, by subst hk; simp [w1]⟩)
    ·exact .inr (.inl ⟨q, hq, hk⟩))
   (by simp [w1]) rfl rfl rfl (fun k hk _ => hkeep k hk) hobj
  refine ⟨_, S, ?_, denT_puts (s := ⟨cutT (cutP i is) s.tm, (i, some (.row none e true sz enc [z])) :: dels is (cutO (cutP i is) (s.obj i (.row none e true sz enc [])).ob), i + 1⟩) hd hn (denT.cut hW.2 hT) (fun v' e' => ?_), by rw [put_size]; exact hn, by rw [put_defers]; exact hdf⟩
  ·rw [sets_ob, sets_nx]; exact hW.1
  ·cases e'
   exact ⟨by rw [takeE_at]; trivial, by rw [takeE_at], rfl⟩
end rules
end Go.Eng

set_option linter.unusedVariables false
set_option linter.unusedSimpArgs false
namespace Go.Eng
open Go Go.RowKit
theorem rec_on {motive : Nat → Prop} (h : ∀ n, (∀ m, m < n → motive m) → motive n) : ∀ n, motive n := fun n => Nat.strongRecOn n h
section rules
variable {cx : Cx} {s : St} {dst : Option Nat} {ty : TypeId} {pos : String} {aft : Array Edge}
theorem o_callD (i : Nat) {g : FuncId} {xs : Array Operand} {ats : Array TypeId} {cargs : List AV} {pn : Option Value} {e sz : Nat} {α : Type} {enc : α → Nat → T} {l : List α} {e2 sz2 : Nat} {β : Type} {enc2 : β → Nat → T} (l' : List β) {nx' : Nat} (hE : Go.Proofs.Enters cx.P g)
  (hC : ∀ U : Nat → Value, Mu cx.P g cargs [(0, some (.row (some (U 0)) e true sz enc l))] 1 [(0, some (.row none e2 true sz2 enc2 l'))] nx' (.c (.own 0))) (hd : okd dst cx.n = true) (hb : alook s.ob i = some (.row pn e true sz enc l)) (ha : ArgsH s [⟨i, pn, e, sz, α, enc, l, l⟩] xs.toList cargs) :
  Os cx s ⟨dst, .call { callee := .value (.func g), args := xs, argTypes := ats }, ty, pos, aft, none⟩ ((⟨cutT (cutP i []) s.tm, (i, some (.row none e2 true sz2 enc2 l')) :: dels [] (cutO (cutP i []) s.ob), s.nx⟩ : St).sets dst (some (.c (.own i)))) false := by
 intro Q a w hg
 obtain ⟨E, S, hI, hT, hn, hdf⟩ := hg
 obtain ⟨hl, hrd, hpn, ho⟩ := hI.obs _ _ hb
 unfold Oper.wp
 rw [execOp_call_go, hE]
 have hargs : #[] ++ Array.map a.eval xs ++ #[] = (xs.toList.map a.eval).toArray := by
  apply Array.ext'
  simp
 rw [hargs, Oper.upon_enter]
 let hs : List Hd := [⟨i, pn, e, sz, α, enc, l, l⟩]
 let S' : Nat → Prop := fun k => k < w.heap.size ∧ ¬ (E i).F k
 have e0 : mapE E hs 0 = E i := rfl
 have hlive : ∀ j, (mapE E hs j).live → j = 0 := fun j h => by
  match j with
  | 0 => rfl
  | j + 1 => exact h.elim
 have hI0 : Inv ⟨cx.P, g, 0, w, S', handed (mapE E hs)⟩ [(0, some (.row (some (E i).u) e true sz enc l))] 1 (mapE E hs) S' w := by
  refine ⟨fun k h => h.1, fun k h => .inl h, fun j o hj => ?_, fun j j' hij hj hj' => absurd ((hlive j hj).trans (hlive j' hj').symm) hij, fun j hj k hk => ?_, fun j hj => by rw [hlive j hj]; exact Nat.one_pos, Kept.refl _ _⟩
  ·rw [alook_cons] at hj
   split at hj
   ·rename_i hj0
    subst hj0
    cases hj
    rw [e0]
    refine ⟨hl, by rw [e0]; exact hrd, fun v hv => by rw [e0]; exact Option.some.inj hv, ?_⟩
    rw [e0]
    exact ho
   ·simp [alook] at hj
  ·have hj0 := hlive j hj
   subst hj0
   rw [e0] at hk
   exact ⟨(hI.fp i hl k hk).1, fun h => h.2 hk, .inr ⟨0, by rw [e0]; exact hl, by rw [e0]; exact hk⟩⟩
 have hSS : ∀ k, S k → S' k := fun k h => ⟨hI.slt k h, fun hf => (hI.fp i hl k hf).2.1 h⟩
 refine (hC (fun _ => (E i).u) 0 w (mapE E hs) S' (xs.toList.map a.eval) hI0 (ha.den hSS hT)).mono ?_
 rintro en w' ⟨u, E', S2, rfl, hI', hu⟩
 obtain ⟨hl', hrd', _, ho'⟩ := hI'.obs 0 _ rfl
 obtain ⟨_, hu0, hu1⟩ := hu
 have hM : ∀ k, handed (mapE E hs) k → (E i).F k := fun k ⟨j, h1, h2⟩ => by
  have := hlive j h1
  subst this
  rwa [e0] at h2
 have hobj : okOb (takeE E i [] ⟨u, (E' 0).F, True, True⟩) S w' i (.row none e2 true sz2 enc2 l') := by
  refine ⟨by rw [takeE_at]; trivial, fun v hv => (by cases hv), ?_⟩
  rw [takeE_at]
  simp only [if_true] at ho' ⊢
  rw [← hu0] at ho'
  exact ho'
 have hW := hI.write (w' := w') (i := i) (is := []) (x := ⟨u, (E' 0).F, True, True⟩) (cutP i []) hl (fun q hq => by simp at hq) trivial (fun a' ha' => by
   simp only [cutP, List.any_nil, Bool.or_false] at ha'
   exact ⟨fun q hq => by simp at hq, fun hn' => (by rw [ha'] at hn'; cases hn'), fun hr _ => by (rw [reads_names hr] at ha'; cases ha')⟩)
  (fun k hk => by
   obtain ⟨h1, _, h3⟩ := hI'.fp 0 hl' k hk
   rcases h3 with h3 | h3
   ·exact .inr (.inr ⟨h3, h1⟩)
   ·exact .inl (hM k h3))
  hI'.kept.size hI'.kept.os hI'.kept.tape hI'.kept.output (fun k hk hf => hI'.kept.block k hk fun h => hf (hM k h)) hobj
 refine ⟨⟨takeE E i [] ⟨u, (E' 0).F, True, True⟩, S, ?_, denT_puts (s := ⟨cutT (cutP i []) s.tm, (i, some (.row none e2 true sz2 enc2 l')) :: dels [] (cutO (cutP i []) s.ob), s.nx⟩) hd hn (denT.cut hW.2 hT) (fun v' e' => ?_), by rw [put_size]; exact hn, by rw [put_defers]; exact hdf⟩, fun h => by (cases h)⟩
 ·rw [sets_ob, sets_nx]
  exact hW.1
 ·cases e'
  exact ⟨by rw [takeE_at]; trivial, by rw [takeE_at], hu1⟩
theorem gt_as0b {R : Ending → World → Prop} {todo : List Item} (t i t2 : Nat) {v2 : Value} {pn : Option Value} {e sz : Nat} {deep : Bool} {α : Type} {enc : α → Nat → T} {xs : List α} (ht : alook s.tm t = some (.c (.own i))) (ht2 : alook s.tm t2 = some (sc v2)) (hb : alook s.ob i = some (.row pn e deep sz enc xs)) (hne : Nat.beq t2 t = false)
  (h : Wt cx ⟨[(t, some (.c (.own 0))), (t2, some (sc v2))], [(0, some (.row none e deep sz enc xs))], 1⟩ todo R) : Wt cx s todo R := by
 intro a w hg
 refine h a w ?_
 obtain ⟨E, S, hI, hT, hsz, hdf⟩ := hg
 obtain ⟨h1, h2, h3, h4⟩ := hI.obs _ _ hb
 let X : Nat → EE := fun j => if j = 0 then E i else dead
 have e0 : X 0 = E i := rfl
 have hl : ∀ j, (X j).live → j = 0 := fun j hj => by
  match j, hj with
  | 0, _ => rfl
  | j + 1, hj => exact hj.elim
 refine ⟨X, S, ⟨hI.slt, hI.snew, fun j o hj => ?_, fun j j' hij hj hj' => absurd ((hl j hj).trans (hl j' hj').symm) hij, fun j hj k hk => ?_, fun j hj => by rw [hl j hj]; exact Nat.one_pos, hI.kept⟩, fun t' v' ht' => ?_, hsz, hdf⟩
 ·rw [alook_cons] at hj
  split at hj
  ·rename_i ej
   subst ej
   cases hj
   refine ⟨by rw [e0]; exact h1, by rw [e0]; exact h2, fun v hv => (by cases hv), ?_⟩
   rw [e0]
   exact h4
  ·simp [alook] at hj
 ·have ej := hl j hj
  subst ej
  rw [e0] at hk
  exact hI.fp i h1 k hk
 ·rw [alook_cons] at ht'
  split at ht'
  ·rename_i ej
   subst ej
   cases ht'
   obtain ⟨q1, q2, q3⟩ := hT _ _ ht
   exact ⟨by rw [e0]; exact q1, by rw [e0]; exact q2, q3⟩
  ·rw [alook_cons] at ht'
   split at ht'
   ·rename_i ej2
    subst ej2
    cases ht'
    have := hT _ _ ht2
    exact ⟨trivial, this.2⟩
   ·simp [alook] at ht'
end rules
def fitStep (b : List Int) (p : Int × Int) : Option (List Int) :=
 if p.1 < 0 then (if -1 - p.1 = p.2 then some b else none)
 else match b[p.1.toNat]? with
  | some y => if y = 10 ∨ y = p.2 then some (b.set p.1.toNat p.2) else none
  | none => none
def fitP : List Int → List (Int × Int) → List Int × Bool
 | b, [] => (b, true)
 | b, p :: ps => match fitStep b p with
  | some b' => fitP b' ps
  | none => (b, false)
theorem fitStep_len {b b' : List Int} {p : Int × Int} (h : fitStep b p = some b') : b'.length = b.length := by
 unfold fitStep at h
 split at h
 ·split at h
  ·cases h; rfl
  ·cases h
 ·split at h
  ·split at h
   ·cases h; simp
   ·cases h
  ·cases h
theorem fitP_len : ∀ (ps : List (Int × Int)) (b : List Int), (fitP b ps).1.length = b.length
 | [], b => rfl
 | p :: ps, b => by
  unfold fitP
  split
  ·rename_i b' h
   rw [fitP_len ps b', fitStep_len h]
  ·rfl
theorem fitP_app : ∀ (ps qs : List (Int × Int)) (b q : List Int), fitP b ps = (q, true) → fitP b (ps ++ qs) = fitP q qs
 | [], qs, b, q, h => by
  simp only [fitP, Prod.mk.injEq, and_true] at h
  subst h
  rfl
 | p :: ps, qs, b, q, h => by
  simp only [List.cons_append, fitP] at h ⊢
  cases hs : fitStep b p with
  | some b' =>
   simp only [hs] at h ⊢
   exact fitP_app ps qs b' q h
  | none =>
   simp only [hs] at h
   cases h
section
variable {ts vs b q : List Int} {m n n' : Nat} {t v y : Int}
theorem zip_at (ht : ts[n]? = some t) (hv : vs[n']? = some v) (e : n = m) (e' : n' = m) : (ts.zip vs)[m]? = some (t, v) := by
 subst e e'
 rw [List.getElem?_zip_eq_some]
 exact ⟨ht, hv⟩
theorem fit_more {q' : List Int} (h : fitP b ((ts.zip vs).take m) = (q, true)) (hz : (ts.zip vs)[m]? = some (t, v)) (hs : fitStep q (t, v) = some q') : fitP b ((ts.zip vs).take (m + 1)) = (q', true) := by
 rw [List.take_add_one, hz, fitP_app _ _ _ _ h]
 simp only [Option.toList_some, fitP, hs]
theorem fit_bad (h : fitP b ((ts.zip vs).take m) = (q, true)) (hz : (ts.zip vs)[m]? = some (t, v)) (hs : fitStep q (t, v) = none) : fitP b (ts.zip vs) = (q, false) := by
 have hm := (List.getElem?_eq_some_iff.1 hz).1
 have hz2 := (List.getElem?_eq_some_iff.1 hz).2
 rw [← List.take_append_drop m (ts.zip vs), fitP_app _ _ _ _ h, List.drop_eq_getElem_cons hm, hz2]
 simp only [fitP, hs]
theorem fit_end (h : fitP b ((ts.zip vs).take m) = (q, true)) (hm : ts.length ≤ m) : fitP b (ts.zip vs) = (q, true) := by
 rw [← h, List.take_of_length_le]
 rw [List.length_zip]
 omega
theorem fs_neg (ht : t < 0) (hv : -1 - t = v) : fitStep q (t, v) = some q := by unfold fitStep; rw [if_pos ht, if_pos hv]
theorem fs_neg_bad (ht : t < 0) (hv : -1 - t ≠ v) : fitStep q (t, v) = none := by unfold fitStep; rw [if_pos ht, if_neg hv]
theorem fs_set (ht : ¬ t < 0) (hy : q[t.toNat]? = some y) (hv : y = 10 ∨ y = v) : fitStep q (t, v) = some (q.set t.toNat v) := by
 unfold fitStep; rw [if_neg ht]; simp only [hy]; rw [if_pos hv]
theorem fs_bad (ht : ¬ t < 0) (hy : q[t.toNat]? = some y) (h1 : y ≠ 10) (h2 : y ≠ v) : fitStep q (t, v) = none := by
 unfold fitStep; rw [if_neg ht]; simp only [hy]; rw [if_neg (fun h => h.elim h1 h2)]
theorem fs_same (ht : ¬ t < 0) (hy : q[t.toNat]? = some y) (hv : y = v) : fitStep q (t, v) = some q := by
 rw [fs_set ht hy (.inr hv)]
 subst hv
 obtain ⟨h1, h2⟩ := List.getElem?_eq_some_iff.1 hy
 rw [← h2, List.set_getElem_self]
end
def fitF (a f : Int × List Int) (b : List Int) : List Int × Bool := if a.1 = f.1 then fitP b (a.2.zip f.2) else (b, false)
theorem fitF_len (a f : Int × List Int) (b : List Int) : (fitF a f b).1.length = b.length := by
 unfold fitF
 split
 ·exact fitP_len _ _
 ·rfl
theorem fitF_yes {r r2 : Int} {ts vs b : List Int} {x : List Int × Bool} (h : r = r2) (e : fitP b (ts.zip vs) = x) : fitF (r, ts) (r2, vs) b = x := (if_pos h).trans e
theorem fitF_no {r r2 : Int} {ts vs b : List Int} (h : ¬ r = r2) : fitF (r, ts) (r2, vs) b = (b, false) := if_neg h
def matchL (fs : List (Int × List Int)) : List (Int × List Int) → List Int → List (List Int)
 | [], b => [b]
 | a :: al, b => fs.flatMap fun f => if (fitF a f b).2 = true then matchL fs al (fitF a f b).1 else []
theorem matchL_len (fs : List (Int × List Int)) : ∀ (l : List (Int × List Int)) (b : List Int), (matchL fs l b).length ≤ fs.length ^ l.length
 | [], b => by simp [matchL]
 | a :: al, b => by
  unfold matchL
  have h : ∀ gs : List (Int × List Int), (gs.flatMap fun f => if (fitF a f b).2 = true then matchL fs al (fitF a f b).1 else []).length ≤ gs.length * fs.length ^ al.length := by
   intro gs
   induction gs with
   | nil => simp
   | cons g gs ih =>
    rw [List.flatMap_cons, List.length_append, List.length_cons, Nat.succ_mul]
    have h1 : (if (fitF a g b).2 = true then matchL fs al (fitF a g b).1 else []).length ≤ fs.length ^ al.length := by
     split
     ·exact matchL_len fs al _
     ·simp
    omega
  have := h fs
  rw [List.length_cons, Nat.pow_succ, Nat.mul_comm]
  exact this
theorem matchL_most {fs l : List (Int × List Int)} (hf : fs.length ≤ 30) (hl : l.length ≤ 3) (b : List Int) : (matchL fs l b).length ≤ 27000 := by
 refine Nat.le_trans (matchL_len fs l b) ?_
 calc fs.length ^ l.length ≤ 30 ^ l.length := Nat.pow_le_pow_left hf _
  _ ≤ 30 ^ 3 := Nat.pow_le_pow_right (by decide) hl
def matchM (fs : List (Int × List Int)) (l : List (Int × List Int)) (b : List Int) (m : Nat) : List (List Int) := match l with
 | [] => [b]
 | a :: al => (fs.take m).flatMap fun f => if (fitF a f b).2 = true then matchL fs al (fitF a f b).1 else []
section
variable {fs l : List (Int × List Int)} {b : List Int} {m n n' : Nat} {a f : Int × List Int}
theorem matchM_step (ha : l[n]? = some a) (e : n = 0) (hf : fs[n']? = some f) (e' : n' = m) : matchM fs l b (m + 1) = matchM fs l b m ++ (if (fitF a f b).2 = true then matchL fs (l.drop 1) (fitF a f b).1 else []) := by
 subst e e'
 cases l with
 | nil => simp at ha
 | cons a' l =>
  cases ha
  simp only [matchM]
  rw [List.take_add_one, hf, List.flatMap_append]
  simp
theorem matchM_yes (ha : l[n]? = some a) (e : n = 0) (hf : fs[n']? = some f) (e' : n' = m) (h : (fitF a f b).2 = true) : matchM fs l b (m + 1) = matchM fs l b m ++ matchL fs (l.drop 1) (fitF a f b).1 := by
 rw [matchM_step ha e hf e', if_pos h]
theorem matchM_no (ha : l[n]? = some a) (e : n = 0) (hf : fs[n']? = some f) (e' : n' = m) (h : (fitF a f b).2 = false) : matchM fs l b (m + 1) = matchM fs l b m := by
 rw [matchM_step ha e hf e', h]
 simp
theorem matchM_end (hl : l ≠ []) (hm : fs.length ≤ m) : matchM fs l b m = matchL fs l b := by
 cases l with
 | nil => exact absurd rfl hl
 | cons a l =>
  simp only [matchM, matchL]
  rw [List.take_of_length_le hm]
theorem matchM_le (hl : l ≠ []) : (matchM fs l b m).length ≤ (matchL fs l b).length := by
 cases l with
 | nil => exact absurd rfl hl
 | cons a l =>
  simp only [matchM, matchL]
  have key : ∀ g : Int × List Int → List (List Int), ((fs.take m).flatMap g).length ≤ (fs.flatMap g).length := fun g => by
   conv => rhs; rw [← List.take_append_drop m fs]
   rw [List.flatMap_append, List.length_append]
   omega
  exact key _
theorem ne_nil_of {l : List (Int × List Int)} (h : ¬ ((l.length : Nat) : Int) = 0) : l ≠ [] := fun e => by subst e; exact h rfl
theorem matchM_z (h : ¬ ((l.length : Nat) : Int) = 0) : matchM fs l b 0 = [] := by
 cases l with
 | nil => exact absurd rfl h
 | cons a l => simp [matchM]
theorem matchL_nil (h : ((l.length : Nat) : Int) = 0) : matchL fs l b = [b] := by
 cases l with
 | nil => simp [matchL]
 | cons a l => simp at h; omega
theorem room_m {l2 : List (Int × List Int)} {b2 : List Int} (hf : fs.length ≤ 30) (hl : l.length ≤ 3) (hne : l ≠ []) (hl2 : l2.length ≤ 3) : (matchM fs l b m).length + (matchL fs l2 b2).length ≤ 54000 := by
 have e8 := matchL_most hf hl b
 have e9 := matchM_le (fs := fs) (b := b) (m := m) hne
 have e10 := matchL_most hf hl2 b2
 omega
theorem mem_tail {x : Int × List Int} {k : Nat} (h : x ∈ (l.take k).drop 1) : x ∈ l := List.mem_of_mem_take (List.mem_of_mem_drop h)
theorem drop_ne {k : Int} (h : ¬ k = ((l.length : Nat) : Int)) (hk : 0 ≤ k ∧ k ≤ l.length) : l.drop k.toNat ≠ [] := fun e => by
 have := congrArg List.length e
 rw [List.length_drop, List.length_nil] at this
 omega
theorem drop_at0 {n : Nat} {z : Int × List Int} (h : l[n]? = some z) : (l.drop n)[0]? = some z := by rw [List.getElem?_drop]; exact h
theorem room_w {k : Int} {l2 : List (Int × List Int)} {b2 : List Int} (hf : fs.length ≤ 30) (hl : l.length ≤ 3) (h : ¬ k = ((l.length : Nat) : Int)) (hk : 0 ≤ k ∧ k ≤ l.length) (hl2 : l2.length ≤ 3) : (matchM fs (l.drop k.toNat) b m).length + (matchL fs l2 b2).length ≤ 54000 := room_m hf (by rw [List.length_drop]; omega) (drop_ne h hk) hl2
theorem walk_yes {k k2 : Int} {b' : List Int} (ha : l[k.toNat]? = some a) (hf : fs[n']? = some f) (e' : n' = m) (h : (fitF a f b).2 = true) (hk : k2.toNat = k.toNat + 1) (hb' : (fitF a f b).1 = b') : matchM fs (l.drop k.toNat) b m ++ matchL fs (l.drop k2.toNat) b' = matchM fs (l.drop k.toNat) b (m + 1) := by
 rw [matchM_yes (drop_at0 ha) rfl hf e' h, List.drop_drop, hk, hb']
theorem walk_no {k : Int} (ha : l[k.toNat]? = some a) (hf : fs[n']? = some f) (e' : n' = m) (h : (fitF a f b).2 = false) : matchM fs (l.drop k.toNat) b m = matchM fs (l.drop k.toNat) b (m + 1) := (matchM_no (drop_at0 ha) rfl hf e' h).symm
theorem walk_z {k : Int} (h : ¬ k = ((l.length : Nat) : Int)) (hk : 0 ≤ k ∧ k ≤ l.length) : matchM fs (l.drop k.toNat) b 0 = [] := by
 have := drop_ne h hk
 cases hd : l.drop k.toNat with
 | nil => exact absurd hd this
 | cons a l => simp [matchM]
theorem walk_nil {k : Int} (h : k = ((l.length : Nat) : Int)) : matchL fs (l.drop k.toNat) b = [b] := by
 rw [h, show ((l.length : Nat) : Int).toNat = l.length from rfl, List.drop_length]
 simp [matchL]
end
def mtOk (rs : Rels) (fs l : Atoms) : Bool := instOk rs fs && (decide (l.length ≤ 3) && !l.any (badA rs))
def hasE (rs : Rels) (fs l : Atoms) (b : List Int) : Bool := mtOk rs fs l && (decide (b.length = 5) && decide (0 < (matchL fs l b).length))
theorem factOk_len {rs : Rels} {r : Int} {ts : List Int} (h : factOk rs r ts = true) : ∃ x, rs[r.toNat]? = some x ∧ ((ts.length : Nat) : Int) = x.2.1 := by
 unfold factOk at h
 simp only [Bool.and_eq_true] at h
 have h4 := h.2.2.1
 cases hx : rs[r.toNat]? with
 | none => rw [hx] at h4; cases h4
 | some x =>
  rw [hx] at h4
  exact ⟨x, rfl, by simpa using h4⟩
theorem inst_fact {rs : Rels} {fs : Atoms} (h : instOk rs fs = true) {f : Int × List Int} (hf : f ∈ fs) : factOk rs f.1 f.2 = true := by
 unfold instOk at h
 simp only [Bool.and_eq_true, decide_eq_true_eq] at h
 obtain ⟨j, hj⟩ := List.getElem?_of_mem hf
 have h1 := h.1 j (List.getElem?_eq_some_iff.1 hj).1
 rw [instStep_at hj] at h1
 simp only [Bool.and_eq_true] at h1
 exact h1.1
theorem inst_len {rs : Rels} {fs : Atoms} (h : instOk rs fs = true) : fs.length ≤ 30 := by
 unfold instOk at h
 simp only [Bool.and_eq_true, decide_eq_true_eq] at h
 exact h.2.2
theorem mt_pre {rs : Rels} {fs l : Atoms} (h : mtOk rs fs l = true) : fs.length ≤ 30 ∧ l.length ≤ 3 ∧ (∀ a ∈ l, ∀ f ∈ fs, a.1 = f.1 → a.2.length = f.2.length) ∧ (∀ a ∈ l, (∀ t ∈ a.2, -10 ≤ t ∧ t ≤ 4) ∧ a.2.length ≤ 4611686018427387904) := by
 unfold mtOk at h
 simp only [Bool.and_eq_true, decide_eq_true_eq, Bool.not_eq_true', List.any_eq_false] at h
 obtain ⟨h1, h2, h3⟩ := h
 have ha : ∀ a ∈ l, atomOk rs a.1 a.2 = true := fun a ha => by
  have := h3 a ha
  simpa [badA] using this
 refine ⟨inst_len h1, h2, fun a haa f hf e => ?_, fun a haa => ⟨fun t ht => ?_, ?_⟩⟩
 ·obtain ⟨_, _, _, _, x, e1, e2⟩ := atomOk_rels (ha a haa)
  obtain ⟨y, e3, e4⟩ := factOk_len (inst_fact h1 hf)
  rw [e, e3] at e1
  cases e1
  omega
 ·have h4 := ha a haa
  unfold atomOk at h4
  simp only [Bool.and_eq_true, Bool.not_eq_true', List.any_eq_false] at h4
  have h5 := h4.2.2.2 t ht
  have h6 : termOk t = true := by simpa using h5
  unfold termOk at h6
  exact of_decide_eq_true h6
 ·have := (atomOk_rels (ha a haa)).2.2.2.1
  omega
end Go.Eng

set_option linter.unusedVariables false
set_option linter.unusedSimpArgs false
namespace Go.Eng
open Go Go.RowKit
def hasF (fs : Atoms) (f : Int × List Int) : Bool := fs.any fun x => decide (cmpF x f = 0)
def varStep (V b : List Int) (j : Nat) : Bool := match b[j]? with
 | some z => decide (z = 10) != hasI V (j : Int)
 | none => true
def varsOk (V b : List Int) : Bool := decide (∀ j, j < b.length → varStep V b j = true)
def trgStep (fs : Atoms) (b : List Int) (a : Int × List Int) : Bool := match instV b a.2 with
 | some v => hasF fs (a.1, v)
 | none => false
def trgOk (rs : Rels) (fs a0 a1 : Atoms) (a2 : Bool) (a3 a4 : Int) (b : List Int) : Bool :=
 (instOk rs fs && (depOk rs a0 a1 a2 a3 a4 && decide (b.length = 5))) && (varsOk (setI (varsL a0)) b && a0.all (trgStep fs b))
theorem vs_bad1 {z : Int} {q : Bool} (h : (decide (z ≠ 10) != q) = true) : (decide (z = 10) != q) = false := by by_cases e : z = 10 <;> cases q <;> simp_all
theorem vs_bad2 {z : Int} {q : Bool} (h : (q == decide (z = 10)) = true) : (decide (z = 10) != q) = false := by by_cases e : z = 10 <;> cases q <;> simp_all
theorem vs_ok1 {z : Int} {q : Bool} (h : (decide (z ≠ 10) != q) = false) : (decide (z = 10) != q) = true := by by_cases e : z = 10 <;> cases q <;> simp_all
theorem vs_ok2 {z : Int} {q : Bool} (h : (q == decide (z = 10)) = false) : (decide (z = 10) != q) = true := by by_cases e : z = 10 <;> cases q <;> simp_all
section
variable {V b : List Int} {m : Nat} {z : Int} {fs : Atoms} {a : Int × List Int}
theorem varStep_at (hz : b[m]? = some z) : varStep V b m = (decide (z = 10) != hasI V (m : Int)) := by unfold varStep; rw [hz]
theorem varsOk_not (hm : m < b.length) (h : varStep V b m = false) : varsOk V b = false := by
 unfold varsOk
 exact decide_eq_false fun q => by rw [q m hm] at h; cases h
theorem varsOk_end (h : ∀ j, j < m → varStep V b j = true) (hm : b.length ≤ m) : varsOk V b = true := decide_eq_true fun j hj => h j (by omega)
theorem trg_none (h : instV b a.2 = none) : trgStep fs b a = false := by unfold trgStep; rw [h]
theorem trg_some {v : List Int} (h : instV b a.2 = some v) : trgStep fs b a = hasF fs (a.1, v) := by unfold trgStep; rw [h]
theorem all_not {α : Type} {p : α → Bool} {l : List α} {x : α} {n : Nat} (hx : l[n]? = some x) (h : p x = false) : l.all p = false := by
 rw [List.all_eq_false]
 exact ⟨x, List.mem_of_getElem? hx, by simp [h]⟩
theorem all_yes {α : Type} {p : α → Bool} {l : List α} {n : Nat} (h : ∀ (j : Nat) z, j < n → l[j]? = some z → p z = true) (hn : l.length ≤ n) : l.all p = true := by
 rw [List.all_eq_true]
 intro x hx
 obtain ⟨j, hj⟩ := List.getElem?_of_mem hx
 exact h j x (by have := (List.getElem?_eq_some_iff.1 hj).1; omega) hj
theorem yes_step {α : Type} {p : α → Bool} {l : List α} {m n : Nat} {x : α} (h : ∀ (j : Nat) z, j < m → l[j]? = some z → p z = true) (hx : l[n]? = some x) (e : n = m) (hp : p x = true) : ∀ (j : Nat) z, j < m + 1 → l[j]? = some z → p z = true := by
 subst e
 intro j z hj hz
 by_cases e : j < n
 ·exact h j z e hz
 ·obtain rfl : j = n := by omega
  rw [hx] at hz
  cases hz
  exact hp
end
end Go.Eng

set_option linter.unusedVariables false
set_option linter.unusedSimpArgs false
namespace Go.Eng
open Go Go.RowKit
def actOk (rs : Rels) (fs a0 a1 : Atoms) (a2 : Bool) (a3 a4 : Int) (b : List Int) : Bool :=
 trgOk rs fs a0 a1 a2 a3 a4 b && (if a2 = true then decide (b.getD a3.toNat 0 ≠ b.getD a4.toNat 0) else !hasE rs fs a1 b)
theorem var_range {rs : Rels} {a0 : Atoms} {most x : Int} (h : atomsOk rs a0 most = true) (hx : hasI (setI (varsL a0)) x = true) : 0 ≤ x ∧ x < 5 := by
 unfold hasI at hx
 rw [List.any_eq_true] at hx
 obtain ⟨y, hy, e⟩ := hx
 have e : y = x := of_decide_eq_true e
 subst e
 rw [setI_mem] at hy
 obtain ⟨a, ha, hy⟩ := List.mem_flatMap.1 hy
 unfold nonneg at hy
 rw [List.mem_filter] at hy
 have h0 : 0 ≤ y := of_decide_eq_true hy.2
 have h1 := (atomsOk_all h).2.2 a ha
 unfold atomOk at h1
 simp only [Bool.and_eq_true, Bool.not_eq_true', List.any_eq_false] at h1
 have h2 := h1.2.2.2 y hy.1
 have h3 : termOk y = true := by simpa using h2
 unfold termOk at h3
 have := of_decide_eq_true h3
 omega
theorem trg_idx {rs : Rels} {fs a0 a1 : Atoms} {a2 : Bool} {a3 a4 : Int} {b : List Int} (h : trgOk rs fs a0 a1 a2 a3 a4 b = true) (h2 : a2 = true) : (0 ≤ a3 ∧ a3 < b.length) ∧ (0 ≤ a4 ∧ a4 < b.length) := by
 unfold trgOk at h
 simp only [Bool.and_eq_true, decide_eq_true_eq] at h
 obtain ⟨⟨_, hd, hb⟩, _⟩ := h
 unfold depOk at hd
 rw [if_pos h2] at hd
 simp only [Bool.and_eq_true] at hd
 obtain ⟨h3, _, _, h4, h5⟩ := hd
 have h6 := var_range h3 h4
 have h7 := var_range h3 h5
 omega
theorem getD_at {b : List Int} {n : Nat} {z : Int} (h : b[n]? = some z) : b.getD n 0 = z := by rw [List.getD_eq_getElem?_getD, h]; rfl
end Go.Eng

set_option linter.unusedVariables false
set_option linter.unusedSimpArgs false
namespace Go.Eng
open Go Go.RowKit
def encK {α : Type} (enc : α → Nat → T) : Value ⊕ α → Nat → T
 | .inl v, _ => .v v
 | .inr x, j => enc x j
def tkL {α : Type} (vs : List Value) (L : List α) : List (Value ⊕ α) := vs.map .inl ++ (L.drop vs.length).map .inr
section
variable {α : Type} {vs : List Value} {L : List α} {m : Nat} {l : α} {v : Value}
theorem tkL_len (h : vs.length ≤ L.length) : (tkL vs L).length = L.length := by unfold tkL; simp; omega
theorem tkL_at (h : vs.length = m) (hl : L[m]? = some l) : (tkL vs L)[m]? = some (.inr l) := by
 unfold tkL
 rw [List.getElem?_append_right (by simp; omega)]
 simp [h, hl]
theorem tkL_set (h : vs.length = m) (hm : m < L.length) : (tkL vs L).set m (.inl v) = tkL (vs ++ [v]) L := by
 subst h
 unfold tkL
 rw [List.set_append_right _ _ (by simp), List.length_map, Nat.sub_self, List.drop_eq_getElem_cons hm, List.map_cons, List.set_cons_zero]
 simp only [List.map_append, List.map_cons, List.map_nil, List.length_append, List.length_cons, List.length_nil, List.append_assoc, List.singleton_append, Nat.zero_add]
theorem tk_got (h : vs.length = m) (hm : m < L.length) : ((tkL vs L).set m (.inl v))[m]? = some (.inl v) := by
 rw [List.getElem?_set_self]
 rw [tkL_len (by omega)]
 exact hm
theorem tk_len2 (h : vs.length ≤ L.length) : ((tkL vs L).set m (.inl v)).length = L.length := by rw [List.length_set, tkL_len h]
end
section rules
variable {cx : Cx} {s : St} {dst : Option Nat} {ty : TypeId} {pos : String} {aft : Array Edge} {R : Ending → World → Prop} {todo : List Item}
theorem gt_sum (i : Nat) {pn : Option Value} {e sz : Nat} {α : Type} {enc : α → Nat → T} {xs : List α} (hb : alook s.ob i = some (.row pn e true sz enc xs))
  (h : Wt cx ⟨s.tm, (i, some (.row pn e true sz (encK enc) (tkL [] xs))) :: s.ob, s.nx⟩ todo R) : Wt cx s todo R := by
 intro a w hg
 refine h a w ?_
 obtain ⟨E, S, hI, hT, hsz, hdf⟩ := hg
 refine ⟨E, S, ⟨hI.slt, hI.snew, fun j o hj => ?_, hI.dis, hI.fp, hI.nxt, hI.kept⟩, hT, hsz, hdf⟩
 rw [alook_cons] at hj
 split at hj
 ·rename_i ej
  subst ej
  cases hj
  obtain ⟨h1, h2, h3, h4⟩ := hI.obs _ _ hb
  refine ⟨h1, h2, h3, ?_⟩
  simp only [if_true] at h4 ⊢
  obtain ⟨cells, G, q1, q2, q3, q4, q5⟩ := h4
  have e0 : tkL [] xs = xs.map .inr := by simp [tkL]
  rw [e0]
  refine ⟨cells, G, by rw [List.length_map]; exact q1, q2, q3, q4, fun b x hx c hc => ?_⟩
  rw [List.getElem?_map] at hx
  obtain ⟨y, hy, rfl⟩ := Option.map_eq_some_iff.mp hx
  exact q5 b y hy c hc
 ·exact hI.obs _ _ hj
theorem gt_take0 (k i : Nat) {a : Nat} {pn : Option Value} {e szi : Nat} {α : Type} {enci : α → Nat → T} {xs : List (Value ⊕ List α)} {l : List α} (hk : s.nx = k) (hb : alook s.ob i = some (.row pn e true 1 (encK (enSl szi enci)) xs)) (hz : xs[a]? = some (.inr l))
  (h : ∀ (e' : Nat) (v : Value), Wt cx ⟨cutT (cutR i []) s.tm, (k, some (.row (some v) e' true szi enci l)) :: (i, some (.row pn e true 1 (encK (enSl szi enci)) (xs.set a (.inl v)))) :: cutO (cutR i []) s.ob, k + 1⟩ todo R) : Wt cx s todo R := by
 intro ac w hg
 obtain ⟨E, S, hI, hT, hsz, hdf⟩ := hg
 subst hk
 obtain ⟨h1, h2, h3, h4⟩ := hI.obs _ _ hb
 simp only [if_true] at h4
 obtain ⟨cells, G, q1, q2, q3, q4, q5⟩ := h4
 obtain ⟨v, c1, c2⟩ := q5 a _ hz 0 Nat.one_pos
 rw [Nat.mul_one, Nat.add_zero] at c1
 have c2' : Ow w (.sl szi enci l) v (G a 0) := c2
 obtain ⟨e', c3⟩ := c2'
 have hone : v.oneCell' = true := Rd.one (Ow.rd _ _ c2)
 have hik : i ≠ s.nx := fun e => by have := hI.nxt i h1; omega
 refine h e' v ac w ?_
 let X : Nat → EE := fun j => if j = s.nx then ⟨v, G a 0, True, True⟩ else if j = i then ⟨(E i).u, fun g => (E i).F g ∧ ¬ G a 0 g, True, True⟩ else E j
 have xk : X s.nx = ⟨v, G a 0, True, True⟩ := if_pos rfl
 have xi : X i = ⟨(E i).u, fun g => (E i).F g ∧ ¬ G a 0 g, True, True⟩ := by
  show (if i = s.nx then _ else if i = i then _ else _) = _
  rw [if_neg hik, if_pos rfl]
 have xo : ∀ j, j ≠ s.nx → j ≠ i → X j = E j := fun j a1 a2 => by
  show (if j = s.nx then _ else if j = i then _ else _) = _
  rw [if_neg a1, if_neg a2]
 have hlt : ∀ j, (E j).live → j ≠ s.nx := fun j hj e => by have := hI.nxt j hj; omega
 have hC : Carry E X S S w w (cutR i []) := {
  sub := fun _ h => h
  keep := fun _ _ => rfl
  place := fun b hb' j hn hl => by
   have a1 := hlt j hl
   by_cases a2 : j = i
   ·subst a2; rw [xi]; exact ⟨trivial, rfl⟩
   ·rw [xo j a1 a2]; exact ⟨hl, rfl⟩
  reads := fun b hb' j hn hl => by
   have a1 := hlt j hl.1
   have a2 : j ≠ i := fun e => by
    subst e
    simp only [cutR, List.any_nil, Bool.or_false] at hb'
    rw [hn] at hb'
    cases hb'
   rw [xo j a1 a2]
   exact ⟨hl, fun _ q => q, fun _ _ => rfl⟩ }
 refine ⟨X, S, ⟨hI.slt, hI.snew, fun j o hj => ?_, fun j j' hij hj hj' g hg hg' => ?_, fun j hj g hg => ?_, fun j hj => ?_, hI.kept⟩, denT.cut hC hT, hsz, hdf⟩
 ·rw [alook_cons] at hj
  by_cases ek : j = s.nx
  ·subst ek
   rw [if_pos rfl] at hj
   cases hj
   refine ⟨by rw [xk]; trivial, by rw [xk]; trivial, fun v' hv' => by rw [xk]; exact Option.some.inj hv', ?_⟩
   rw [xk]
   exact c3
  ·rw [if_neg ek, alook_cons] at hj
   by_cases ei : j = i
   ·subst ei
    rw [if_pos rfl] at hj
    cases hj
    refine ⟨by rw [xi]; trivial, by rw [xi]; trivial, fun v' hv' => by rw [xi]; exact h3 v' hv', ?_⟩
    rw [xi]
    simp only [if_true]
    refine ⟨cells, fun b c g => if b = a then False else G b c g, by rw [List.length_set]; exact q1, fun g hg => ⟨q2 g hg, fun hg' => (q3 a 0 g hg').2 hg⟩, fun b c g hg => ?_, fun b c b' c' g hg hg' => ?_, fun b x hx c hc => ?_⟩
    ·dsimp only at hg
     split at hg
     ·exact hg.elim
     ·rename_i hne
      obtain ⟨r1, r2⟩ := q3 b c g hg
      exact ⟨⟨r1, fun hg' => hne (q4 b c a 0 g hg hg').1⟩, r2⟩
    ·dsimp only at hg hg'
     split at hg
     ·exact hg.elim
     ·split at hg'
      ·exact hg'.elim
      ·exact q4 b c b' c' g hg hg'
    ·by_cases eb : b = a
     ·subst eb
      have hlt' := (List.getElem?_eq_some_iff.1 hz).1
      rw [List.getElem?_set_self hlt'] at hx
      cases hx
      obtain rfl : c = 0 := by omega
      exact ⟨v, by rw [Nat.mul_one, Nat.add_zero]; exact c1, rfl, hone⟩
     ·rw [List.getElem?_set_ne (Ne.symm eb)] at hx
      obtain ⟨u', r1, r2⟩ := q5 b x hx c hc
      exact ⟨u', r1, Ow.move _ _ (fun g hg => by dsimp only; rw [if_neg eb]; exact hg) (fun _ _ => rfl) r2⟩
   ·rw [if_neg ei, alook_cutO] at hj
    obtain ⟨o0, h0, rfl⟩ := Option.map_eq_some_iff.mp hj
    obtain ⟨r1, r2⟩ := hI.obs j o0 h0
    refine ⟨by rw [xo j ek ei]; exact r1, ?_⟩
    exact okOb.carry hC (i := j) (by rw [xo j ek ei]) (fun g => by rw [xo j ek ei]) (by rw [xo j ek ei]) (fun _ _ => rfl) r2
 ·by_cases a1 : j = s.nx
  ·subst a1
   rw [xk] at hg
   by_cases b2 : j' = i
   ·subst b2
    rw [xi] at hg'
    exact hg'.2 hg
   ·have b1 : j' ≠ s.nx := fun e => hij e.symm
    rw [xo j' b1 b2] at hg' hj'
    exact hI.dis i j' (Ne.symm b2) h1 hj' g (q3 a 0 g hg).1 hg'
  ·by_cases a2 : j = i
   ·subst a2
    rw [xi] at hg
    by_cases b1 : j' = s.nx
    ·subst b1
     rw [xk] at hg'
     exact hg.2 hg'
    ·rw [xo j' b1 (Ne.symm hij)] at hg' hj'
     exact hI.dis _ j' hij h1 hj' g hg.1 hg'
   ·rw [xo j a1 a2] at hg hj
    by_cases b1 : j' = s.nx
    ·subst b1
     rw [xk] at hg'
     exact hI.dis i j (Ne.symm a2) h1 hj g (q3 a 0 g hg').1 hg
    ·by_cases b2 : j' = i
     ·subst b2
      rw [xi] at hg'
      exact hI.dis j _ hij hj h1 g hg hg'.1
     ·rw [xo j' b1 b2] at hg' hj'
      exact hI.dis j j' hij hj hj' g hg hg'
 ·by_cases a1 : j = s.nx
  ·subst a1
   rw [xk] at hg
   exact hI.fp i h1 g (q3 a 0 g hg).1
  ·by_cases a2 : j = i
   ·subst a2
    rw [xi] at hg
    exact hI.fp _ h1 g hg.1
   ·rw [xo j a1 a2] at hg hj
    exact hI.fp j hj g hg
 ·by_cases a1 : j = s.nx
  ·show j < s.nx + 1; omega
  ·have : (E j).live := by
    by_cases a2 : j = i
    ·subst a2; exact h1
    ·rw [xo j a1 a2] at hj; exact hj
   have := hI.nxt j this
   show j < s.nx + 1
   omega
theorem p_loadpin {t : TypeId} {x : Operand} {i e o k e0 e1 sz1 : Nat} {pn : Option Value} {v : Value} {α β : Type} {enc : α → Nat → T} {enc1 : β → Nat → T} {xs : List (Value ⊕ α)} {l : List β} (ha : aggOf cx.P t = some false) (hx : s.ev x = some (.c (.poe i e 1 0))) (hb : alook s.ob i = some (.row pn e0 true 1 (encK enc) xs)) (hy : xs[e]? = some (.inl v)) (hk : alook s.ob k = some (.row (some v) e1 true sz1 enc1 l)) :
  Ps cx s (.load t x) (.c (.own k)) :=
 fun A w E S hI hT => by
  obtain ⟨hlv, g, n, cap, h1, h2⟩ := ev_den hT hx
  obtain ⟨hl, hb⟩ := hI.obs _ _ hb
  obtain ⟨A', cap', h3, _, _, h5⟩ := row_read hl hb
  obtain ⟨hlk, _, hpk, _⟩ := hI.obs _ _ hk
  rw [h1] at h3
  cases h3
  obtain ⟨u, h6, h7⟩ := h5 g rfl e _ hy 0 Nat.one_pos
  have h8 : u = v ∧ v.oneCell' = true := h7.2
  refine ⟨u, fun w' hW _ _ _ _ _ => ?_, hlk, by rw [h8.1, hpk v rfl], by rw [h8.1]; exact h8.2⟩
  simp only [execOp, h2]
  rw [Sem.run_bind, run_load1 ha (hW.cell h6)]
  rfl
theorem o_loadpin {t : TypeId} {x : Operand} {i e o k e0 e1 sz1 : Nat} {pn : Option Value} {v : Value} {α β : Type} {enc : α → Nat → T} {enc1 : β → Nat → T} {xs : List (Value ⊕ α)} {l : List β} (hd : okd dst cx.n = true) (ha : aggOf cx.P t = some false) (hx : s.ev x = some (.c (.poe i e 1 0))) (hb : alook s.ob i = some (.row pn e0 true 1 (encK enc) xs)) (hy : xs[e]? = some (.inl v)) (hk : alook s.ob k = some (.row (some v) e1 true sz1 enc1 l)) :
  Os cx s ⟨dst, .load t x, ty, pos, aft, none⟩ (s.sets dst (some (.c (.own k)))) true := o_value hd (p_loadpin (o := o) ha hx hb hy hk)
end rules
end Go.Eng

set_option linter.unusedVariables false
set_option linter.unusedSimpArgs false
namespace Go.Eng
open Go Go.RowKit
def hasR (out : List (List Int)) (x : List Int) : Bool := out.any fun y => decide (y = x)
def dedL (l : List (List Int)) : List (List Int) := l.foldl (fun out x => if hasR out x = true then out else out ++ [x]) []
section
variable {l : List (List Int)} {m n : Nat} {z : List Int}
theorem dedL_snoc : dedL (l ++ [z]) = if hasR (dedL l) z = true then dedL l else dedL l ++ [z] := by
 unfold dedL
 rw [List.foldl_append]
 rfl
theorem ded_same (hz : l[n]? = some z) (e : n = m) (h : hasR (dedL (l.take m)) z = true) : dedL (l.take (m + 1)) = dedL (l.take m) := by
 subst e
 rw [List.take_add_one, hz]
 show dedL (l.take n ++ [z]) = _
 rw [dedL_snoc, if_pos h]
theorem ded_more (hz : l[n]? = some z) (e : n = m) (h : hasR (dedL (l.take m)) z = false) : dedL (l.take (m + 1)) = dedL (l.take m) ++ [z] := by
 subst e
 rw [List.take_add_one, hz]
 show dedL (l.take n ++ [z]) = _
 rw [dedL_snoc, h]
 rfl
theorem dedL_len (l : List (List Int)) : (dedL l).length ≤ l.length := by
 unfold dedL
 have : ∀ (l out : List (List Int)), (l.foldl (fun out x => if hasR out x = true then out else out ++ [x]) out).length ≤ out.length + l.length := by
  intro l
  induction l with
  | nil => intro out; simp
  | cons x l ih =>
   intro out
   rw [List.foldl_cons]
   refine Nat.le_trans (ih _) ?_
   split
   ·simp only [List.length_cons]; omega
   ·simp only [List.length_append, List.length_cons, List.length_nil]; omega
 simpa using this l []
theorem dedL_mem : ∀ (l : List (List Int)) (x : List Int), x ∈ dedL l → x ∈ l := by
 have : ∀ (l out : List (List Int)) (x : List Int), x ∈ (l.foldl (fun out x => if hasR out x = true then out else out ++ [x]) out) → x ∈ out ∨ x ∈ l := by
  intro l
  induction l with
  | nil => intro out x h; exact .inl h
  | cons y l ih =>
   intro out x h
   rw [List.foldl_cons] at h
   rcases ih _ x h with h | h
   ·split at h
    ·exact .inl h
    ·rcases List.mem_append.1 h with h | h
     ·exact .inl h
     ·rw [List.mem_singleton] at h
      exact .inr (by rw [h]; simp)
   ·exact .inr (List.mem_cons_of_mem _ h)
 intro l x h
 rcases this l [] x h with h | h
 ·simp at h
 ·exact h
theorem hasR_step {q : List (List Int)} {y x : List Int} {k n : Nat} (hy : q[n]? = some y) (e : n = k) : hasR (q.take (k + 1)) x = (hasR (q.take k) x || decide (y = x)) := by
 subst e
 unfold hasR
 rw [List.take_add_one, hy]
 simp
theorem hasR_end {q : List (List Int)} {x : List Int} {k : Nat} (h : q.length ≤ k) : hasR (q.take k) x = hasR q x := by rw [List.take_of_length_le h]
end
def freeB : List Int := [10, 10, 10, 10, 10]
def findL (rs : Rels) (fs l : Atoms) : List (List Int) := if mtOk rs fs l = true then dedL (matchL fs l freeB) else []
theorem findL_len (rs : Rels) (fs l : Atoms) : (findL rs fs l).length ≤ 27000 := by
 unfold findL
 split
 ·rename_i h
  obtain ⟨h1, h2, _⟩ := mt_pre h
  exact Nat.le_trans (dedL_len _) (matchL_most h1 h2 _)
 ·simp
theorem fitStep_ok {b b' : List Int} {p : Int × Int} {Q : Int → Prop} (hb : ∀ x ∈ b, Q x) (hp : Q p.2) (h : fitStep b p = some b') : ∀ x ∈ b', Q x := by
 unfold fitStep at h
 split at h
 ·split at h
  ·cases h; exact hb
  ·cases h
 ·split at h
  ·split at h
   ·cases h
    intro x hx
    rcases List.mem_or_eq_of_mem_set hx with hx | rfl
    ·exact hb x hx
    ·exact hp
   ·cases h
  ·cases h
theorem fitP_ok {Q : Int → Prop} : ∀ (ps : List (Int × Int)) (b : List Int), (∀ x ∈ b, Q x) → (∀ p ∈ ps, Q p.2) → ∀ x ∈ (fitP b ps).1, Q x
 | [], b, hb, hp => hb
 | p :: ps, b, hb, hp => by
  unfold fitP
  cases hs : fitStep b p with
  | some b' =>
   exact fitP_ok ps b' (fitStep_ok hb (hp p (by simp)) hs) (fun q hq => hp q (List.mem_cons_of_mem _ hq))
  | none => exact hb
theorem matchL_ok {Q : Int → Prop} (fs : Atoms) (hf : ∀ f ∈ fs, ∀ x ∈ f.2, Q x) : ∀ (l : Atoms) (b : List Int), (∀ x ∈ b, Q x) → ∀ r ∈ matchL fs l b, ∀ x ∈ r, Q x
 | [], b, hb, r, hr => by
  simp only [matchL, List.mem_singleton] at hr
  subst hr
  exact hb
 | a :: al, b, hb, r, hr => by
  simp only [matchL, List.mem_flatMap] at hr
  obtain ⟨f, hff, hr⟩ := hr
  split at hr
  ·refine matchL_ok fs hf al _ ?_ r hr
   unfold fitF
   split
   ·refine fitP_ok _ _ hb fun p hp => ?_
    exact hf f hff _ (List.of_mem_zip hp).2
   ·exact hb
  ·simp at hr
theorem matchL_five (fs : Atoms) : ∀ (l : Atoms) (b : List Int), ∀ r ∈ matchL fs l b, r.length = b.length
 | [], b, r, hr => by
  simp only [matchL, List.mem_singleton] at hr
  rw [hr]
 | a :: al, b, r, hr => by
  simp only [matchL, List.mem_flatMap] at hr
  obtain ⟨f, hff, hr⟩ := hr
  split at hr
  ·rw [matchL_five fs al _ r hr, fitF_len]
  ·simp at hr
theorem findL_mem {rs : Rels} {fs l : Atoms} {r : List Int} (h : r ∈ findL rs fs l) : r ∈ matchL fs l freeB := by
 unfold findL at h
 split at h
 ·exact dedL_mem _ _ h
 ·simp at h
theorem findL_five {rs : Rels} {fs l : Atoms} {r : List Int} (h : r ∈ findL rs fs l) : r.length = 5 := matchL_five fs l freeB r (findL_mem h)
theorem findL_ok {rs : Rels} {fs l : Atoms} (hf : ∀ f ∈ fs, ∀ x ∈ f.2, okI x) {r : List Int} (h : r ∈ findL rs fs l) : ∀ x ∈ r, okI x := matchL_ok fs hf l freeB (fun x hx => by
 unfold freeB at hx
 simp at hx
 subst hx
 unfold okI
 omega) r (findL_mem h)
def actL (rs : Rels) (fs a0 a1 : Atoms) (a2 : Bool) (a3 a4 : Int) : List (List Int) :=
 if depOk rs a0 a1 a2 a3 a4 = true then (findL rs fs a0).filter (actOk rs fs a0 a1 a2 a3 a4) else []
end Go.Eng

set_option linter.unusedVariables false
set_option linter.unusedSimpArgs false
namespace Go.Eng
open Go Go.RowKit
section rules
variable {cx : Cx} {s : St} {dst : Option Nat} {ty : TypeId} {pos : String} {aft : Array Edge}
theorem copyG {t et e0 i off n k : Nat} {pn : Option Value} {α : Type} {enc : α → Nat → T} {xs ys : List α} {x y : Operand} (hd : okd dst cx.n = true) (hx : ∀ (a : Act) (E : Nat → EE) (S : Nat → Prop) (w : World), Inv cx s.ob s.nx E S w → denT E S w s.tm a.tmps → (E i).live ∧ ∃ g m cap cap', (E i).u = .slice (some ⟨g, 0, none⟩) m cap ∧ a.eval x = .slice (some ⟨g, off, none⟩) n cap')
  (hy : ∀ (a : Act) (E : Nat → EE) (S : Nat → Prop) (w : World), Inv cx s.ob s.nx E S w → denT E S w s.tm a.tmps → ∃ S', Rd w S' (.sl 1 enc ys) (a.eval y)) (hb : alook s.ob i = some (.row pn e0 true 1 enc xs)) (he : cx.P.underlying t = some (.slice et)) (hs : (cx.P.info? et).map (·.size) = some 1) (hsc : ∀ y j, ∃ v, enc y j = .v v) (hk : k = Nat.min ys.length n) (hn : off + n ≤ xs.length) (hpos : 0 < k) :
  Os cx s ⟨dst, .call { callee := .builtin .copy, args := #[x, y], argTypes := #[t, t] }, ty, pos, aft, none⟩ ((⟨cutT (cutR i []) s.tm, (i, some (.row pn e0 true 1 enc (xs.take off ++ ys.take k ++ xs.drop (off + k)))) :: dels [] (cutO (cutR i []) s.ob), s.nx⟩ : St).sets dst (some (sc (.int .i64 (k : Int))))) false := by
 refine o_gen fun ac w hg => ?_
 obtain ⟨E, S, hI, hT, hsz, hdf⟩ := hg
 obtain ⟨hli, g, m, cap, cap', hu, hux⟩ := hx ac E S w hI hT
 obtain ⟨S', A, ycap, huy, hyc, hrd'⟩ := hy ac E S w hI hT
 obtain ⟨_, hrd, hpn, ho⟩ := hI.obs _ _ hb
 simp only [if_true] at ho
 obtain ⟨cells, G, q1, q2, q3, q4, q5⟩ := ho
 rw [hu] at q1
 have hmx : m = xs.length := by
  rcases q1.2 with ⟨e, _⟩ | ⟨g', c', cur, e, _⟩
  ·cases e
  ·cases e; rfl
 subst hmx
 have hkn : k ≤ n := by rw [hk]; exact Nat.min_le_right _ _
 have hky : k ≤ ys.length := by rw [hk]; exact Nat.min_le_left _ _
 have hgF : (E i).F g := q2 g (by rw [hu]; rfl)
 obtain ⟨ad, rfl⟩ : ∃ ad, A = some ad := by
  obtain ⟨ad, h, _⟩ := hrd' 0 (ys[0]'(by omega)) (List.getElem?_eq_getElem (by omega))
  exact ⟨ad, h⟩
 obtain ⟨cs, hcl0, hcs⟩ := pickL (p := fun j u => w.cell? (ad.add j) = some u ∧ u.oneCell' = true ∧ ∃ y', ys[j]? = some y' ∧ enc y' 0 = .v u) k (fun j hj => by
  obtain ⟨ad', e0, _, hc⟩ := hrd' j _ (List.getElem?_eq_getElem (by omega : j < ys.length))
  cases e0
  obtain ⟨u', e1, e2⟩ := hc 0 Nat.one_pos
  rw [Nat.mul_one, Nat.add_zero] at e1
  obtain ⟨v, hv⟩ := hsc (ys[j]'(by omega)) 0
  rw [hv] at e2
  obtain ⟨rfl, e3⟩ := e2
  exact ⟨u', e1, e3, _, List.getElem?_eq_getElem (by omega), hv⟩)
 obtain ⟨cur, hg1, hg2, hown⟩ := own_put (us := cs) (q := off) q1 (by omega)
 have hput : cur.toArray.toList.take off ++ cs ++ cur.toArray.toList.drop (off + cs.length) = putL cur off cs := rfl
 have hrun := run_copy_row (P := cx.P) w t t ty et g off n cap' ad ys.length ycap cur.toArray e0 cs he hs hg1 (by rw [hcl0]; exact hk) (fun j v hv => (hcs j v hv).1) (by simpa using hg2) (fun v hv => by
  obtain ⟨j, hj⟩ := List.getElem?_of_mem hv
  exact (hcs j v hj).2.1)
 rw [hput, hcl0] at hrun
 have hcl : cells.length = xs.length := by have := q1.1; omega
 have hobj : okOb (takeE E i [] ⟨(E i).u, (E i).F, True, True⟩) S (w.setRow g (putL cur off cs).toArray) i (.row pn e0 true 1 enc (xs.take off ++ ys.take k ++ xs.drop (off + k))) := by
  refine ⟨by rw [takeE_at]; trivial, by rw [takeE_at]; exact hpn, ?_⟩
  rw [takeE_at]
  simp only [if_true]
  have hlen : (xs.take off ++ ys.take k ++ xs.drop (off + k)).length = xs.length := by simp; omega
  refine ⟨putL cells off cs, fun b c q => if off ≤ b ∧ b < off + k then False else G b c q, by rw [hlen, hu]; exact hown, q2, fun b c q hq => ?_, fun b c b' c' q hq hq' => ?_, fun b x' hx' c hc => ?_⟩
  ·dsimp only at hq
   split at hq
   ·exact hq.elim
   ·exact q3 b c q hq
  ·dsimp only at hq hq'
   split at hq <;> split at hq'
   ·exact hq.elim
   ·exact hq.elim
   ·exact hq'.elim
   ·exact q4 b c b' c' q hq hq'
  ·obtain rfl : c = 0 := by omega
   rw [Nat.mul_one, Nat.add_zero, putL_get (by omega), hcl0]
   by_cases hb1 : b < off
   ·rw [if_pos hb1]
    rw [List.append_assoc, List.getElem?_append_left (by simp; omega), List.getElem?_take, if_pos hb1] at hx'
    obtain ⟨u', e1, e2⟩ := q5 b x' hx' 0 (by omega)
    rw [Nat.mul_one, Nat.add_zero] at e1
    refine ⟨u', e1, Ow.move (F := G b 0) _ _ (fun q hq => by (try dsimp only); rw [if_neg (by omega)]; exact hq) (fun q hq => setRow_other w g q _ (by rintro rfl; exact (q3 b 0 q hq).2 (by rw [hu]; rfl))) e2⟩
   ·rw [if_neg hb1]
    by_cases hb2 : b < off + k
    ·rw [if_pos hb2]
     have hto : (xs.take off).length = off := by simp; omega
     rw [List.getElem?_append_left (by simp; omega), List.getElem?_append_right (by omega), hto, List.getElem?_take, if_pos (by omega)] at hx'
     have hj : cs[b - off]? = some (cs[b - off]'(by omega)) := List.getElem?_eq_getElem (by omega)
     obtain ⟨_, h2, y', h3, h4⟩ := hcs _ _ hj
     rw [hx'] at h3
     cases h3
     refine ⟨_, hj, ?_⟩
     rw [h4]
     exact ⟨rfl, h2⟩
    ·rw [if_neg hb2]
     have hlb : (xs.take off ++ ys.take k).length = off + k := by simp; omega
     rw [List.getElem?_append_right (by omega), hlb, List.getElem?_drop, show off + k + (b - (off + k)) = b by omega] at hx'
     obtain ⟨u', e1, e2⟩ := q5 b x' hx' 0 (by omega)
     rw [Nat.mul_one, Nat.add_zero] at e1
     refine ⟨u', e1, Ow.move (F := G b 0) _ _ (fun q hq => by (try dsimp only); rw [if_neg (by omega)]; exact hq) (fun q hq => setRow_other w g q _ (by rintro rfl; exact (q3 b 0 q hq).2 (by rw [hu]; rfl))) e2⟩
 have hW := hI.write (w' := w.setRow g (putL cur off cs).toArray) (i := i) (is := []) (x := ⟨(E i).u, (E i).F, True, True⟩) (cutR i []) hli (fun q hq => by simp at hq) trivial (fun a' ha => by
   simp only [cutR, Bool.or_eq_false_iff] at ha
   exact ⟨fun q hq => by simp at hq, fun _ => rfl, fun hr _ => by (rw [ha.1] at hr; cases hr)⟩)
  (fun q hq => .inl hq) (by simp) rfl rfl rfl (fun q _ hf => setRow_other w g q _ (by rintro rfl; exact hf hgF)) hobj
 refine ⟨.value (goInt k), _, ?_, .inl ⟨_, rfl, takeE E i [] ⟨(E i).u, (E i).F, True, True⟩, S, ?_, denT_puts (s := ⟨cutT (cutR i []) s.tm, (i, some (.row pn e0 true 1 enc (xs.take off ++ ys.take k ++ xs.drop (off + k)))) :: dels [] (cutO (cutR i []) s.ob), s.nx⟩) hd hsz (denT.cut hW.2 hT) (fun v' e' => ?_), by rw [put_size]; exact hsz, by rw [put_defers]; exact hdf⟩, fun h => by (cases h)⟩
 ·have hm : Array.map ac.eval #[x, y] = #[.slice (some ⟨g, off, none⟩) n cap', .slice (some ad) ys.length ycap] := by simp [hux, huy]
  simp only [execOp, resolve, invoke, builtin, hm, Sem.run_bind, Sem.run_pure, Result.andThen_ok]
  rw [hrun]
  rfl
 ·rw [sets_ob, sets_nx]
  exact hW.1
 ·cases e'
  exact sc_mk rfl
theorem o_copyo {t et e0 i k : Nat} {pn : Option Value} {r : Option Nat} {α : Type} {enc : α → Nat → T} {xs ys : List α} {x y : Operand} (hd : okd dst cx.n = true) (hx : s.ev x = some (.c (.own i))) (hb : alook s.ob i = some (.row pn e0 true 1 enc xs)) (hy : s.ev y = some (.c (.t r (.sl 1 enc ys)))) (he : cx.P.underlying t = some (.slice et)) (hs : (cx.P.info? et).map (·.size) = some 1) (hsc : ∀ y j, ∃ v, enc y j = .v v) (hk : k = Nat.min ys.length xs.length) (hpos : 0 < k) :
  Os cx s ⟨dst, .call { callee := .builtin .copy, args := #[x, y], argTypes := #[t, t] }, ty, pos, aft, none⟩ ((⟨cutT (cutR i []) s.tm, (i, some (.row pn e0 true 1 enc (xs.take 0 ++ ys.take k ++ xs.drop (0 + k)))) :: dels [] (cutO (cutR i []) s.ob), s.nx⟩ : St).sets dst (some (sc (.int .i64 (k : Int))))) false := by
 refine copyG hd (fun a E S w hI hT => ?_) (fun a E S w hI hT => ⟨_, (ev_den hT hy).2⟩) hb he hs hsc hk (by omega) hpos
 obtain ⟨_, hu, _⟩ := ev_den hT hx
 obtain ⟨hl, g, cap, h1, _⟩ := row_slice hI hb (by
  have : k ≤ xs.length := by rw [hk]; exact Nat.min_le_right _ _
  omega)
 exact ⟨hl, g, _, cap, cap, h1, by rw [hu, h1]⟩
theorem o_copyv {t et e0 i off n k : Nat} {pn : Option Value} {r : Option Nat} {α : Type} {enc : α → Nat → T} {xs ys : List α} {x y : Operand} (hd : okd dst cx.n = true) (hx : s.ev x = some (.c (.vw i off n 1))) (hb : alook s.ob i = some (.row pn e0 true 1 enc xs)) (hy : s.ev y = some (.c (.t r (.sl 1 enc ys)))) (he : cx.P.underlying t = some (.slice et)) (hs : (cx.P.info? et).map (·.size) = some 1) (hsc : ∀ y j, ∃ v, enc y j = .v v) (hk : k = Nat.min ys.length n) (hn : off + n ≤ xs.length) (hpos : 0 < k) :
  Os cx s ⟨dst, .call { callee := .builtin .copy, args := #[x, y], argTypes := #[t, t] }, ty, pos, aft, none⟩ ((⟨cutT (cutR i []) s.tm, (i, some (.row pn e0 true 1 enc (xs.take off ++ ys.take k ++ xs.drop (off + k)))) :: dels [] (cutO (cutR i []) s.ob), s.nx⟩ : St).sets dst (some (sc (.int .i64 (k : Int))))) false := by
 refine copyG hd (fun a E S w hI hT => ?_) (fun a E S w hI hT => ⟨_, (ev_den hT hy).2⟩) hb he hs hsc hk hn hpos
 obtain ⟨hli, g, m, cap, cap', hu, hux, _⟩ := ev_den hT hx
 exact ⟨hli, g, m, cap, cap', hu, by rw [hux, Nat.mul_one]⟩
def binD (op : BinOp) (k : IntKind) (a b : Int) : Option Value :=
 match op with
 | .quo => if b = 0 then none else some (.int k (k.wrap (a.tdiv b)))
 | .rem => if b = 0 then none else some (.int k (a.tmod b))
 | .and => some (.int k (k.wrap (BitVec.ofInt k.bits a &&& BitVec.ofInt k.bits b).toNat))
 | .xor => some (.int k (k.wrap (BitVec.ofInt k.bits a ^^^ BitVec.ofInt k.bits b).toNat))
 | _ => none
theorem run_binD {P : Program} {op : BinOp} {k : IntKind} {a b : Int} {v : Value} (h : binD op k a b = some v) (t : TypeId) (x y : Operand) (w : World) : (do eqGuard op t x y (.int k a) (.int k b); binOp op t (.int k a) (.int k b) : Sem Value).run P w = .ok v w ∧ v.oneCell' = true := by
 cases op <;> simp only [binD] at h <;> first
  | (cases h; done)
  | (split at h <;> first | (cases h; done) | (cases h; constructor <;> simp_all [eqGuard, binOp, Op.intDiv, Value.oneCell']))
  | (cases h; constructor <;> simp [eqGuard, binOp, Op.intBits, Value.oneCell'])
theorem p_binD {op : BinOp} {t yt : TypeId} {x y : Operand} {kk : IntKind} {a b : Int} {v : Value} (hx : s.ev x = some (sc (.int kk a))) (hy : s.ev y = some (sc (.int kk b))) (hv : binD op kk a b = some v) :
  Ps cx s (.binOp op t x y yt) ((sc v)) :=
 fun A w E S hI hT => by
  have h1 := sc_den (ev_den hT hx)
  have h2 := sc_den (ev_den hT hy)
  have h3 := fun w' => (run_binD (P := cx.P) hv t x y w').1
  have h4 := (run_binD (P := cx.P) hv t x y w).2
  refine ⟨v, fun w' hW _ _ _ _ _ => ?_, sc_mk h4⟩
  simp only [execOp, h1, h2]
  rw [Sem.run_bind, h3]
  rfl
theorem o_binD {op : BinOp} {t yt : TypeId} {x y : Operand} {kk : IntKind} {a b : Int} {v : Value} (hd : okd dst cx.n = true) (hx : s.ev x = some (sc (.int kk a))) (hy : s.ev y = some (sc (.int kk b))) (hv : binD op kk a b = some v) :
  Os cx s ⟨dst, .binOp op t x y yt, ty, pos, aft, none⟩ (s.sets dst (some (sc v))) true := o_value hd (p_binD hx hy hv)
end rules
end Go.Eng
