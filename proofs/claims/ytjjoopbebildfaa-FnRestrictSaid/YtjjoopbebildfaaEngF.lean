/- The engine: the parts Zk, Zl, Zm, Zn, Zo, Zp, Zq, Zr, Zs, Zt. -/
import Derived.Test.YtjjoopbebildfaaEngE
import Derived.Shelf.SortM.Plain
import Derived.Shelf.SortM.SortNone
import Derived.Shelf.SlGeneric
import Derived.Ground.SlgmProg
import Derived.Laws.CopyRow
/- The engine, part Zk: slices.Sort on ints, whatever length: by the shelf's contract. -/
set_option linter.unusedVariables false
set_option linter.unusedSimpArgs false
namespace Go.Eng
open Go Go.RowKit

theorem put_heap (w : World) (k g : Nat) (d : Array Int) (os : Array Obj) (cur : Array Value) (e : Nat) (h : w.heap[g]? = some (.cells cur e (0, 0))) :
    (Go.Sort.grow (Go.Sort.putRow (Value.int .i64) (Go.Sort.ahead w k) g 0 d) os).heap[g]? = some (.cells (Go.Sort.putCells (Value.int .i64) 0 d cur) e (0, 0)) := by
  have hg : g < w.heap.size := (Array.getElem?_eq_some_iff.1 h).1
  rw [Go.Sort.heap_grow_old _ _ (by simpa using hg)]
  show ((Go.Sort.ahead w k).heap.modify g _)[g]? = _
  rw [Array.getElem?_modify, if_pos rfl]
  show Option.map _ (w.heap[g]?) = _
  rw [h]
  rfl
theorem put_other (w : World) (k g : Nat) (d : Array Int) (os : Array Obj) {b : Nat} (hb : b < w.heap.size) (hne : b ≠ g) :
    (Go.Sort.grow (Go.Sort.putRow (Value.int .i64) (Go.Sort.ahead w k) g 0 d) os).heap[b]? = w.heap[b]? := by
  rw [Go.Sort.heap_grow_old _ _ (by simpa using hb)]
  show ((Go.Sort.ahead w k).heap.modify g _)[b]? = _
  rw [Array.getElem?_modify, if_neg (Ne.symm hne)]
  rfl
theorem put_take (l : List Int) (cur : Array Value) (h : l.length ≤ cur.size) : (Go.Sort.putCells (Value.int .i64) 0 l.toArray cur).toList.take l.length = l.map (Value.int .i64) := by
  apply List.ext_getElem?
  intro j
  rw [List.getElem?_take, List.getElem?_map]
  by_cases hj : j < l.length
  · rw [if_pos hj, Array.getElem?_toList]
    unfold Go.Sort.putCells
    rw [Array.getElem?_mapIdx, Array.getElem?_eq_getElem (by omega), Option.map_some, if_pos ⟨Nat.zero_le _, by simpa using hj⟩, List.getElem?_eq_getElem hj, Option.map_some]
    congr 1
    rw [getElem!_pos l.toArray _ (by simpa using hj)]
    simp
  · rw [if_neg hj, List.getElem?_eq_none (by omega)]
    rfl
theorem sort_mu {P : Program} {ρ : Go.Shelf.Ren} (Ly : Go.Proofs.SlLaysM.n5 P ρ) (U : Nat → Value) (e0 : Nat) (l : List Int) (hl : l.length < 4611686018427387904) :
    Mu P (ρ.f 5) [.c (.own 0)] [(0, some (.row (some (U 0)) e0 true 1 encI l))] 1 [(0, some (.row (some (U 0)) e0 true 1 encI (sortI l)))] 1 (.tup []) := by
  intro n w E S vs hI hA
  obtain ⟨hl0, hrd, hpn, ho⟩ := hI.obs 0 _ rfl
  obtain ⟨v, hv, hdv⟩ := hA.2 0 _ rfl
  have hvs : vs = [(E 0).u] := by
    have h1 := hA.1
    match vs, h1, hv with
    | [x], _, hv => cases hv; rw [hdv.2.1]
  subst hvs
  simp only [if_true] at ho
  obtain ⟨cells, G, hown, hF, hG, hd, hx⟩ := ho
  have hdone : ∀ w' : World, denV E S w' (.tup []) (.tuple #[]) := fun w' => ⟨[], rfl, rfl, fun j b cs h => by simp at h⟩
  have hown0 := hown
  obtain ⟨hlen, hor⟩ := hown
  by_cases h0 : l = []
  · subst h0
    have hE : ∃ A cap, (E 0).u = .slice A 0 cap := by
      rcases hor with ⟨h, _⟩ | ⟨g, cap, cur, h, _⟩
      · exact ⟨_, _, h⟩
      · exact ⟨_, _, h⟩
    obtain ⟨A, cap, hu⟩ := hE
    rw [hu]
    refine (Go.Proofs.AnyM.slices_Sort_int_none Ly A cap w).mono ?_
    rintro e w' ⟨rfl, rfl⟩
    have hs : sortI [] = [] := List.eq_nil_of_length_eq_zero (sortI_len [])
    rw [hs]
    exact ⟨_, E, S, rfl, hI, hdone _⟩
  · rcases hor with ⟨_, hn⟩ | ⟨g, cap, cur, hu, _, hh, hcap, hmax, hsz, htk⟩
    · exact absurd (List.eq_nil_of_length_eq_zero hn) h0
    · have hg : g < w.heap.size := (Array.getElem?_eq_some_iff.1 hh).1
      have hblk : (E 0).F g := hF g (by rw [hu]; rfl)
      have hH : Go.Sort.Holds (Value.int .i64) w g 0 l.toArray := by
        intro j hj
        have hj' : j < l.length := by simpa using hj
        obtain ⟨u', h1, h2⟩ := hx j l[j] (List.getElem?_eq_getElem hj') 0 Nat.one_pos
        have h3 : u' = .int .i64 l[j] := h2.1
        subst h3
        rw [Nat.mul_one, Nat.add_zero] at h1
        refine ⟨?_, ?_⟩
        · have h4 := World.ownsRow.cells hown0 (g := g) (by rw [hu]; rfl) j _ h1
          rw [getElem!_pos l.toArray j hj, Nat.zero_add]
          have h5 : (⟨g, 0, none⟩ : Addr).add j = ⟨g, j, none⟩ := by simp [Addr.add]; exact fun h => h.symm
          rw [h5] at h4
          simpa using h4
        · simp [World.frozen?, hh]
      rw [hu]
      refine (Go.Proofs.AnyM.slices_Sort_int Ly g 0 cap l w hH hg hl).mono ?_
      rintro e w' ⟨rfl, k, os, rfl⟩
      have hs : (l.mergeSort fun x y => decide (x ≤ y)) = sortI l := rfl
      rw [hs]
      have hsl := sortI_len l
      have hgr : w.heap.size ≤ (Go.Sort.grow (Go.Sort.putRow (Value.int .i64) (Go.Sort.ahead w k) g 0 (sortI l).toArray) os).heap.size := by simp
      refine ⟨_, E, S, rfl, ⟨fun b hb => Nat.lt_of_lt_of_le (hI.slt b hb) hgr, hI.snew, fun j o hj => ?_, hI.dis, fun i hi b hb => ?_, hI.nxt, ?_⟩, hdone _⟩
      · rw [alook_cons] at hj
        split at hj
        · rename_i hj0
          subst hj0
          cases hj
          refine ⟨hl0, hrd, hpn, ?_⟩
          simp only [if_true]
          refine ⟨(sortI l).map (Value.int .i64), fun _ _ _ => False, ⟨by simp, .inr ⟨g, cap, _, by rw [hu, hsl], Nat.zero_le _, put_heap w k g _ os cur e0 hh, by omega, hmax, ?_, ?_⟩⟩, hF, fun _ _ _ h => h.elim, fun _ _ _ _ _ h => h.elim, fun i x hi j hj => ?_⟩
          · simp [Go.Sort.putCells]
            omega
          · rw [Nat.mul_one]
            exact put_take _ _ (by omega)
          · have : j = 0 := by omega
            subst this
            refine ⟨.int .i64 x, ?_, rfl, rfl⟩
            rw [Nat.mul_one, Nat.add_zero, List.getElem?_map, hi]
            rfl
        · simp [alook] at hj
      · obtain ⟨h1, h2, h3⟩ := hI.fp i hi b hb
        exact ⟨Nat.lt_of_lt_of_le h1 hgr, h2, h3⟩
      · refine ⟨rfl, rfl, rfl, hgr, fun b hb hM => put_other w k g _ os hb fun h => ?_⟩
        subst h
        exact hM ⟨0, hl0, hblk⟩
end Go.Eng

/- The engine, part Zl: marks of lists of atoms; elements selected. -/
set_option linter.unusedVariables false
set_option linter.unusedSimpArgs false
namespace Go.Eng
open Go Go.RowKit
def ctA : Int × List Int → Nat := fun x => 1 + x.2.length
def markAT : Int → Int × List Int → Int × List Int := fun k x => (k, seqI (k + 1) x.2.length)
def markATS : Int → List (Int × List Int) → List (Int × List Int) := mkL markAT ctA
section
variable {α : Type} {p : α → Bool} {l : List α} {m : Nat} {z : α}
theorem filt_more (h : l[m]? = some z) (hp : p z = true) : (l.take (m + 1)).filter p = (l.take m).filter p ++ [z] := by
  rw [List.take_add_one, h, List.filter_append]
  simp [hp]
theorem filt_same (h : l[m]? = some z) (hp : p z = false) : (l.take (m + 1)).filter p = (l.take m).filter p := by
  rw [List.take_add_one, h, List.filter_append]
  simp [hp]
end
/-- Of H the values that B holds (or not). -/
def selV (q : Bool) (B H : List Int) : List Int := H.filter fun x => hasI B x == q
end Go.Eng

/- Models: nulls, facts, instances. -/
set_option linter.unusedVariables false
set_option linter.unusedSimpArgs false
namespace Go.Eng
open Go Go.RowKit
def isN (v : Int) : Bool := decide (-40 ≤ v ∧ v ≤ -1)
def numN (v : Int) : Int := if -40 ≤ v ∧ v ≤ -1 then -1 - v else 0
def nulV (l : List Int) : List Int := (l.filter isN).map numN
theorem nulV_len (l : List Int) : (nulV l).length ≤ l.length := by unfold nulV; rw [List.length_map]; exact List.length_filter_le _ _
theorem nulV_more {l : List Int} {n : Nat} {z : Int} (h : l[n]? = some z) (hz : decide (-40 ≤ z ∧ z ≤ -1) = true) : nulV (l.take (n + 1)) = nulV (l.take n) ++ [if -40 ≤ z ∧ z ≤ -1 then -1 - z else 0] := by
  unfold nulV
  rw [filt_more h hz, List.map_append]
  rfl
theorem nulV_same {l : List Int} {n : Nat} {z : Int} (h : l[n]? = some z) (hz : decide (-40 ≤ z ∧ z ≤ -1) = false) : nulV (l.take (n + 1)) = nulV (l.take n) := by
  unfold nulV
  rw [filt_same h hz]
theorem nulV_end {l : List Int} {n : Nat} (h : l.length ≤ n) : nulV (l.take n) = nulV l := by rw [List.take_of_length_le h]
theorem nulV_part (l : List Int) (n : Nat) : (nulV (l.take n)).length ≤ l.length := Nat.le_trans (nulV_len _) (by rw [List.length_take]; omega)
theorem nulV_app (a b : List Int) : nulV (a ++ b) = nulV a ++ nulV b := by simp [nulV]
/-- All terms, in order. -/
def flatT (l : List (Int × List Int)) : List Int := l.flatMap fun a => a.2
theorem flatT_step {l : List (Int × List Int)} {m : Nat} {z : Int × List Int} (h : l[m]? = some z) : flatT (l.take (m + 1)) = flatT (l.take m) ++ z.2 := by
  rw [List.take_add_one, h]
  simp [flatT]
theorem flatT_end {l : List (Int × List Int)} {m : Nat} (h : l.length ≤ m) : flatT (l.take m) = flatT l := by rw [List.take_of_length_le h]
theorem flatT_size (l : List (Int × List Int)) : (flatT l).length ≤ szS (fun x => x.2.length) l := by
  unfold szS flatT
  induction l with
  | nil => simp
  | cons a l ih =>
    simp only [List.flatMap_cons, List.length_append, List.map_cons, List.sum_cons, List.length_cons]
    omega
theorem flatT_part {l : List (Int × List Int)} {m : Nat} {z : Int × List Int} (h : l[m]? = some z) : (flatT (l.take m)).length + z.2.length ≤ (flatT l).length := by
  have h1 := flatT_step h
  have h2 : flatT l = flatT (l.take (m + 1)) ++ flatT (l.drop (m + 1)) := by
    unfold flatT
    rw [← List.flatMap_append, List.take_append_drop]
  rw [h2, h1]
  simp only [List.length_append]
  omega
theorem flatT_ok {l : List (Int × List Int)} (h : ∀ z ∈ l, ∀ x ∈ z.2, okI x) : ∀ x ∈ flatT l, okI x := fun x hx => by
  obtain ⟨z, h1, h2⟩ := List.mem_flatMap.1 hx
  exact h z h1 x h2
theorem setI_app (a b : List Int) : setI (a ++ setI b) = setI (a ++ b) :=
  strict_ext _ _ (setI_sorted _) (setI_sorted _) fun z => by simp only [setI_mem, List.mem_append]
theorem snoc_at {α : Type} (a : List α) {s : List α} {n : Nat} {z : α} (h : s[n]? = some z) : a ++ s.take (n + 1) = (a ++ s.take n) ++ [z] := by
  rw [List.take_add_one, h, List.append_assoc]
  rfl
def nextN (s : List Int) : Int := if s.length = 0 then 0 else IntKind.i64.wrap (s.getD (s.length - 1) 0 + 1)
/-! facts -/
def valOk (v : Int) : Bool := decide (-40 ≤ v ∧ v ≤ 9)
def factOk (rs : Rels) (r : Int) (ts : List Int) : Bool :=
  relsOk rs && (decide (0 ≤ r ∧ r ≤ (rs.length : Int) - 1) && ((match rs[r.toNat]? with | some x => decide (((ts.length : Nat) : Int) = x.2.1) | none => false) && !ts.any fun t => !valOk t))
section
variable {rs : Rels} {r : Int} {ts : List Int}
theorem fact_no1 (h : relsOk rs = false) : factOk rs r ts = false := by unfold factOk; rw [h]; rfl
theorem fact_no2 (h : ¬ (0 ≤ r ∧ r ≤ (rs.length : Int) - 1)) : factOk rs r ts = false := by unfold factOk; rw [decide_eq_false h]; simp
theorem fact_no3 {z : List UInt8 × Int × Bool} (hz : rs[r.toNat]? = some z) (h : ((ts.length : Nat) : Int) ≠ z.2.1) : factOk rs r ts = false := by unfold factOk; rw [hz]; simp [h]
theorem fact_yes {z : List UInt8 × Int × Bool} (h : relsOk rs = true) (h2 : 0 ≤ r ∧ r ≤ (rs.length : Int) - 1) (hz : rs[r.toNat]? = some z) (h3 : ((ts.length : Nat) : Int) = z.2.1) : factOk rs r ts = !ts.any fun t => !valOk t := by
  unfold factOk; rw [h, decide_eq_true h2, hz]; simp [h3]
theorem fact_idx (h : factOk rs r ts = true) : 0 ≤ r ∧ r < rs.length := by
  unfold factOk at h
  simp only [Bool.and_eq_true, decide_eq_true_eq] at h
  omega
end
def cmpI (x y : Int) : Int := if x < y then -1 else if y < x then 1 else 0
theorem cmpI_eq {x y : Int} (h : cmpI x y = 0) : x = y := by
  unfold cmpI at h
  split at h
  · omega
  · split at h
    · omega
    · omega
theorem cmpL_cmpI {a b : List Int} {m : Nat} {x y : Int} (h : a.take m = b.take m) (hx : a[m]? = some x) (hy : b[m]? = some y) (hne : cmpI x y ≠ 0) : cmpI x y = cmpL a b := by
  obtain ⟨h1, h2⟩ := cmpL_at h hx hy
  unfold cmpI at hne ⊢
  by_cases q : x < y
  · rw [if_pos q, h1 q]
  · by_cases q2 : y < x
    · rw [if_neg q, if_pos q2, h2 q2]
    · rw [if_neg q, if_neg q2] at hne
      exact absurd rfl hne
def orI : List Int → Int
  | [] => 0
  | x :: l => if x ≠ 0 then x else orI l
theorem orI_at : ∀ {l : List Int} {m : Nat} {z : Int}, (∀ j y, j < m → l[j]? = some y → y = 0) → l[m]? = some z → z ≠ 0 → orI l = z
  | [], m, z, h, hz, hn => by simp at hz
  | x :: l, 0, z, h, hz, hn => by
    have : x = z := by simpa using hz
    subst this
    rw [orI, if_pos hn]
  | x :: l, m + 1, z, h, hz, hn => by
    rw [orI, if_neg (by rw [h 0 x (by omega) rfl]; simp)]
    exact orI_at (m := m) (fun j y hj hy => h (j + 1) y (by omega) (by simpa using hy)) (by simpa using hz) hn
theorem orI_none : ∀ {l : List Int}, (∀ j y, j < l.length → l[j]? = some y → y = 0) → orI l = 0
  | [], h => rfl
  | x :: l, h => by
    rw [orI, if_neg (by rw [h 0 x (by simp) rfl]; simp)]
    exact orI_none fun j y hj hy => h (j + 1) y (by simp; omega) (by simpa using hy)
theorem zero_step {l : List Int} {m n : Nat} {z : Int} (h : ∀ j y, j < m → l[j]? = some y → y = 0) (hz : l[n]? = some z) (e : n = m) (hx : z = 0) : ∀ j y, j < m + 1 → l[j]? = some y → y = 0 := by
  subst e
  intro j y hj hy
  by_cases hjn : j < n
  · exact h j y hjn hy
  · obtain rfl : j = n := by omega
    rw [hz] at hy
    cases hy
    exact hx
def cmpF (f g : Int × List Int) : Int := if f.1 < g.1 then -1 else if g.1 < f.1 then 1 else cmpL f.2 g.2
theorem cmpF_or (f g : Int × List Int) : orI [cmpI f.1 g.1, cmpL f.2 g.2] = cmpF f g := by
  unfold orI orI orI cmpI cmpF
  by_cases h1 : f.1 < g.1
  · simp [h1]
  · by_cases h2 : g.1 < f.1
    · simp [h1, h2]
    · by_cases h3 : cmpL f.2 g.2 = 0 <;> simp [h1, h2, h3]
/-! instances -/
def instStep (rs : Rels) (l : Atoms) (j : Nat) : Bool := match l[j]? with
  | some z => factOk rs z.1 z.2 && ((decide (j = 0) || match l[j - 1]? with | some y => decide (cmpF y z < 0) | none => false) && !(srcA rs z && decide (0 < (setI (nulV z.2)).length)))
  | none => true
def instOk (rs : Rels) (l : Atoms) : Bool := decide (∀ j, j < l.length → instStep rs l j = true) && (relsOk rs && decide (l.length ≤ 30))
section
variable {rs : Rels} {l : Atoms} {m : Nat}
theorem instOk_not (hm : m < l.length) (h : instStep rs l m = false) : instOk rs l = false := by
  unfold instOk
  rw [decide_eq_false (fun q => by rw [q m hm] at h; cases h)]
  rfl
theorem instOk_end (h : ∀ j, j < m → instStep rs l j = true) (hm : l.length ≤ m) : instOk rs l = (relsOk rs && decide (l.length ≤ 30)) := by
  unfold instOk
  rw [decide_eq_true (fun j hj => h j (by omega))]
  rfl
theorem instOk_no (h : (relsOk rs && decide (l.length ≤ 30)) = false) : instOk rs l = false := by
  unfold instOk
  rw [h, Bool.and_false]
theorem instStep_at {z : Int × List Int} (hz : l[m]? = some z) : instStep rs l m = (factOk rs z.1 z.2 && ((decide (m = 0) || match l[m - 1]? with | some y => decide (cmpF y z < 0) | none => false) && !(srcA rs z && decide (0 < (setI (nulV z.2)).length)))) := by
  unfold instStep; rw [hz]
theorem instStep_bad {z : Int × List Int} (hz : l[m]? = some z) (h : factOk rs z.1 z.2 = false) : instStep rs l m = false := by
  rw [instStep_at hz, h]; rfl
theorem instStep_pos {z y : Int × List Int} {n : Nat} (hz : l[m]? = some z) (h0 : m ≠ 0) (hy : l[n]? = some y) (hn : n = m - 1) : instStep rs l m = (factOk rs z.1 z.2 && (decide (cmpF y z < 0) && !(srcA rs z && decide (0 < (setI (nulV z.2)).length)))) := by
  subst hn
  rw [instStep_at hz, hy, decide_eq_false h0]
  simp
theorem instStep_zero {z : Int × List Int} (hz : l[m]? = some z) (h0 : m = 0) : instStep rs l m = (factOk rs z.1 z.2 && !(srcA rs z && decide (0 < (setI (nulV z.2)).length))) := by
  rw [instStep_at hz, decide_eq_true h0]
  simp
end
end Go.Eng

/- The engine, part Zn: a deep row appended to a deep row. -/
set_option linter.unusedVariables false
set_option linter.unusedSimpArgs false
namespace Go.Eng
open Go Go.RowKit
section rules
variable {cx : Cx} {s : St} {dst : Option Nat} {ty : TypeId} {pos : String} {aft : Array Edge}
theorem Gm.nil0 {a : Act} {w : World} (hg : Gm cx s a w) (i : Nat) {et sz : Nat} (deep : Bool) {α : Type} (enc : α → Nat → T) (hi : s.nx = i) :
    Gm cx ⟨s.tm, (i, some (.row none et deep sz enc [])) :: s.ob, i + 1⟩ a w := by
  subst hi
  obtain ⟨E, S, hI, hT, hn, hdf⟩ := hg
  let E' := upd E s.nx ⟨.slice none 0 0, fun _ => False, True, True⟩
  have hC : Carry E E' S S w w no := {
    sub := fun _ h => h
    keep := fun _ _ => rfl
    place := fun a _ i _ hl => by
      have := hI.nxt i hl
      show (upd E s.nx _ i).live ∧ (upd E s.nx _ i).u = _
      rw [upd_ne (by omega)]
      exact ⟨hl, rfl⟩
    reads := fun a _ i _ hl => by
      have := hI.nxt i hl.1
      show ((upd E s.nx _ i).live ∧ (upd E s.nx _ i).rd) ∧ (∀ k, _ → (upd E s.nx _ i).F k) ∧ _
      rw [upd_ne (by omega)]
      exact ⟨hl, fun _ q => q, fun _ _ => rfl⟩ }
  refine ⟨E', S, ⟨hI.slt, hI.snew, fun j o hj => ?_, fun j j' hij hj hj' k h1 h2 => ?_, fun j hj k hk => ?_, fun j hj => ?_, hI.kept⟩, fun t' v hv' => ?_, hn, hdf⟩
  · rw [alook_cons] at hj
    by_cases e : j = s.nx
    · subst e
      rw [if_pos rfl] at hj
      cases hj
      refine ⟨by show (upd E s.nx _ s.nx).live; rw [upd_at]; trivial, by show (upd E s.nx _ s.nx).rd; rw [upd_at]; trivial, fun v hv => (by cases hv), ?_⟩
      show if deep = true then OwE w et sz enc [] (upd E s.nx _ s.nx).u (upd E s.nx _ s.nx).F else Ro w S et sz enc [] (upd E s.nx _ s.nx).u (upd E s.nx _ s.nx).F
      rw [upd_at]
      cases deep
      · exact ⟨[], World.ownsRow_nil _ _ _ _, fun g h => by simp [Value.ownBlock] at h, fun i x h => by simp at h⟩
      · exact ⟨[], fun _ _ _ => False, World.ownsRow_nil _ _ _ _, fun g h => by simp [Value.ownBlock] at h, fun _ _ _ h => h.elim, fun _ _ _ _ _ h => h.elim, fun i x h => by simp at h⟩
    · rw [if_neg e] at hj
      obtain ⟨h1, h2⟩ := hI.obs j o hj
      refine ⟨by show (upd E s.nx _ j).live; rw [upd_ne e]; exact h1, ?_⟩
      have := okOb.carry hC (i := j) (by show (upd E s.nx _ j).u = _; rw [upd_ne e]) (fun k => by show (upd E s.nx _ j).F k ↔ _; rw [upd_ne e]) (by show (upd E s.nx _ j).rd ↔ _; rw [upd_ne e]) (fun _ _ => rfl) h2
      rwa [Ob.cut_none] at this
  · have h1' : (upd E s.nx ⟨.slice none 0 0, fun _ => False, True, True⟩ j).F k := h1
    have h2' : (upd E s.nx ⟨.slice none 0 0, fun _ => False, True, True⟩ j').F k := h2
    have hj1 : (upd E s.nx ⟨.slice none 0 0, fun _ => False, True, True⟩ j).live := hj
    have hj2 : (upd E s.nx ⟨.slice none 0 0, fun _ => False, True, True⟩ j').live := hj'
    by_cases e1 : j = s.nx
    · subst e1; rw [upd_at] at h1'; exact h1'
    · by_cases e2 : j' = s.nx
      · subst e2; rw [upd_at] at h2'; exact h2'
      · rw [upd_ne e1] at h1' hj1; rw [upd_ne e2] at h2' hj2
        exact hI.dis j j' hij hj1 hj2 k h1' h2'
  · have hk' : (upd E s.nx ⟨.slice none 0 0, fun _ => False, True, True⟩ j).F k := hk
    have hj1 : (upd E s.nx ⟨.slice none 0 0, fun _ => False, True, True⟩ j).live := hj
    by_cases e1 : j = s.nx
    · subst e1; rw [upd_at] at hk'; exact hk'.elim
    · rw [upd_ne e1] at hk' hj1; exact hI.fp j hj1 k hk'
  · have hj1 : (upd E s.nx ⟨.slice none 0 0, fun _ => False, True, True⟩ j).live := hj
    by_cases e1 : j = s.nx
    · show j < s.nx + 1; omega
    · rw [upd_ne e1] at hj1
      have := hI.nxt j hj1
      show j < s.nx + 1
      omega
  · exact denT.carry hC hT t' v hv'

end rules
end Go.Eng

/- The engine, part Zo: a row handed over for good, another kind of row handed back; matches. -/
set_option linter.unusedVariables false
set_option linter.unusedSimpArgs false
namespace Go.Eng
open Go Go.RowKit
section rules
variable {cx : Cx} {s : St} {dst : Option Nat} {ty : TypeId} {pos : String} {aft : Array Edge}
end rules
/-! ### matches -/
def fitStep (b : List Int) (p : Int × Int) : Option (List Int) :=
  if p.1 < 0 then (if -1 - p.1 = p.2 then some b else none)
  else match b[p.1.toNat]? with
    | some y => if y = 10 ∨ y = p.2 then some (b.set p.1.toNat p.2) else none
    | none => none
def fitP : List Int → List (Int × Int) → List Int × Bool
  | b, [] => (b, true)
  | b, p :: ps => match fitStep b p with
    | some b' => fitP b' ps
    | none => (b, false)
section
variable {ts vs b q : List Int} {m n n' : Nat} {t v y : Int}
end
def fitF (a f : Int × List Int) (b : List Int) : List Int × Bool := if a.1 = f.1 then fitP b (a.2.zip f.2) else (b, false)
def matchL (fs : List (Int × List Int)) : List (Int × List Int) → List Int → List (List Int)
  | [], b => [b]
  | a :: al, b => fs.flatMap fun f => if (fitF a f b).2 = true then matchL fs al (fitF a f b).1 else []
/-- What the first m facts give. -/
def matchM (fs : List (Int × List Int)) (l : List (Int × List Int)) (b : List Int) (m : Nat) : List (List Int) := match l with
  | [] => [b]
  | a :: al => (fs.take m).flatMap fun f => if (fitF a f b).2 = true then matchL fs al (fitF a f b).1 else []
section
variable {fs l : List (Int × List Int)} {b : List Int} {m n n' : Nat} {a f : Int × List Int}
end
/-! what may be matched -/
def mtOk (rs : Rels) (fs l : Atoms) : Bool := instOk rs fs && (decide (l.length ≤ 3) && !l.any (badA rs))
def hasE (rs : Rels) (fs l : Atoms) (b : List Int) : Bool := mtOk rs fs l && (decide (b.length = 5) && decide (0 < (matchL fs l b).length))
theorem factOk_len {rs : Rels} {r : Int} {ts : List Int} (h : factOk rs r ts = true) : ∃ x, rs[r.toNat]? = some x ∧ ((ts.length : Nat) : Int) = x.2.1 := by
  unfold factOk at h
  simp only [Bool.and_eq_true] at h
  have h4 := h.2.2.1
  cases hx : rs[r.toNat]? with
  | none => rw [hx] at h4; cases h4
  | some x =>
    rw [hx] at h4
    exact ⟨x, rfl, by simpa using h4⟩
theorem inst_fact {rs : Rels} {fs : Atoms} (h : instOk rs fs = true) {f : Int × List Int} (hf : f ∈ fs) : factOk rs f.1 f.2 = true := by
  unfold instOk at h
  simp only [Bool.and_eq_true, decide_eq_true_eq] at h
  obtain ⟨j, hj⟩ := List.getElem?_of_mem hf
  have h1 := h.1 j (List.getElem?_eq_some_iff.1 hj).1
  rw [instStep_at hj] at h1
  simp only [Bool.and_eq_true] at h1
  exact h1.1
end Go.Eng

/- Models: triggers. -/
set_option linter.unusedVariables false
set_option linter.unusedSimpArgs false
namespace Go.Eng
open Go Go.RowKit
def hasF (fs : Atoms) (f : Int × List Int) : Bool := fs.any fun x => decide (cmpF x f = 0)
def varStep (V b : List Int) (j : Nat) : Bool := match b[j]? with
  | some z => decide (z = 10) != hasI V (j : Int)
  | none => true
def varsOk (V b : List Int) : Bool := decide (∀ j, j < b.length → varStep V b j = true)
def trgStep (fs : Atoms) (b : List Int) (a : Int × List Int) : Bool := match instV b a.2 with
  | some v => hasF fs (a.1, v)
  | none => false
def trgOk (rs : Rels) (fs a0 a1 : Atoms) (a2 : Bool) (a3 a4 : Int) (b : List Int) : Bool :=
  (instOk rs fs && (depOk rs a0 a1 a2 a3 a4 && decide (b.length = 5))) && (varsOk (setI (varsL a0)) b && a0.all (trgStep fs b))
section
variable {V b : List Int} {m : Nat} {z : Int} {fs : Atoms} {a : Int × List Int}
theorem all_not {α : Type} {p : α → Bool} {l : List α} {x : α} {n : Nat} (hx : l[n]? = some x) (h : p x = false) : l.all p = false := by
  rw [List.all_eq_false]
  exact ⟨x, List.mem_of_getElem? hx, by simp [h]⟩
theorem all_yes {α : Type} {p : α → Bool} {l : List α} {n : Nat} (h : ∀ (j : Nat) z, j < n → l[j]? = some z → p z = true) (hn : l.length ≤ n) : l.all p = true := by
  rw [List.all_eq_true]
  intro x hx
  obtain ⟨j, hj⟩ := List.getElem?_of_mem hx
  exact h j x (by have := (List.getElem?_eq_some_iff.1 hj).1; omega) hj
theorem yes_step {α : Type} {p : α → Bool} {l : List α} {m n : Nat} {x : α} (h : ∀ (j : Nat) z, j < m → l[j]? = some z → p z = true) (hx : l[n]? = some x) (e : n = m) (hp : p x = true) : ∀ (j : Nat) z, j < m + 1 → l[j]? = some z → p z = true := by
  subst e
  intro j z hj hz
  by_cases e : j < n
  · exact h j z e hz
  · obtain rfl : j = n := by omega
    rw [hx] at hz
    cases hz
    exact hp
end
end Go.Eng

/- Models: active triggers. -/
set_option linter.unusedVariables false
set_option linter.unusedSimpArgs false
namespace Go.Eng
open Go Go.RowKit
def actOk (rs : Rels) (fs a0 a1 : Atoms) (a2 : Bool) (a3 a4 : Int) (b : List Int) : Bool :=
  trgOk rs fs a0 a1 a2 a3 a4 b && (if a2 = true then decide (b.getD a3.toNat 0 ≠ b.getD a4.toNat 0) else !hasE rs fs a1 b)
end Go.Eng

/- The engine, part Zr: an element's row taken out of a deep row. -/
set_option linter.unusedVariables false
set_option linter.unusedSimpArgs false
namespace Go.Eng
open Go Go.RowKit
/-- An element that has been taken out is but its value. -/
def encK {α : Type} (enc : α → Nat → T) : Value ⊕ α → Nat → T
  | .inl v, _ => .v v
  | .inr x, j => enc x j
def tkL {α : Type} (vs : List Value) (L : List α) : List (Value ⊕ α) := vs.map .inl ++ (L.drop vs.length).map .inr
section
variable {α : Type} {vs : List Value} {L : List α} {m : Nat} {l : α} {v : Value}
end
section rules
variable {cx : Cx} {s : St} {dst : Option Nat} {ty : TypeId} {pos : String} {aft : Array Edge} {R : Ending → World → Prop} {todo : List Item}
end rules
end Go.Eng

/- Models: matches found, active triggers, violations. -/
set_option linter.unusedVariables false
set_option linter.unusedSimpArgs false
namespace Go.Eng
open Go Go.RowKit
def hasR (out : List (List Int)) (x : List Int) : Bool := out.any fun y => decide (y = x)
def dedL (l : List (List Int)) : List (List Int) := l.foldl (fun out x => if hasR out x = true then out else out ++ [x]) []
section
variable {l : List (List Int)} {m n : Nat} {z : List Int}
end
def freeB : List Int := [10, 10, 10, 10, 10]
def findL (rs : Rels) (fs l : Atoms) : List (List Int) := if mtOk rs fs l = true then dedL (matchL fs l freeB) else []
/-- The active triggers. -/
def actL (rs : Rels) (fs a0 a1 : Atoms) (a2 : Bool) (a3 a4 : Int) : List (List Int) :=
  if depOk rs a0 a1 a2 a3 a4 = true then (findL rs fs a0).filter (actOk rs fs a0 a1 a2 a3 a4) else []
end Go.Eng

/- The engine, part Zt: copy, quotients and bits, bytes made a string. -/
set_option linter.unusedVariables false
set_option linter.unusedSimpArgs false
namespace Go.Eng
open Go Go.RowKit
section rules
variable {cx : Cx} {s : St} {dst : Option Nat} {ty : TypeId} {pos : String} {aft : Array Edge}
/-- Quotient and remainder, by a number that is not nought; bits. -/
def binD (op : BinOp) (k : IntKind) (a b : Int) : Option Value :=
  match op with
  | .quo => if b = 0 then none else some (.int k (k.wrap (a.tdiv b)))
  | .rem => if b = 0 then none else some (.int k (a.tmod b))
  | .and => some (.int k (k.wrap (BitVec.ofInt k.bits a &&& BitVec.ofInt k.bits b).toNat))
  | .xor => some (.int k (k.wrap (BitVec.ofInt k.bits a ^^^ BitVec.ofInt k.bits b).toNat))
  | _ => none
theorem run_binD {P : Program} {op : BinOp} {k : IntKind} {a b : Int} {v : Value} (h : binD op k a b = some v) (t : TypeId) (x y : Operand) (w : World) : (do eqGuard op t x y (.int k a) (.int k b); binOp op t (.int k a) (.int k b) : Sem Value).run P w = .ok v w ∧ v.oneCell' = true := by
  cases op <;> simp only [binD] at h <;> first
    | (cases h; done)
    | (split at h <;> first | (cases h; done) | (cases h; constructor <;> simp_all [eqGuard, binOp, Op.intDiv, Value.oneCell']))
    | (cases h; constructor <;> simp [eqGuard, binOp, Op.intBits, Value.oneCell'])
theorem p_binD {op : BinOp} {t yt : TypeId} {x y : Operand} {kk : IntKind} {a b : Int} {v : Value} (hx : s.ev x = some (sc (.int kk a))) (hy : s.ev y = some (sc (.int kk b))) (hv : binD op kk a b = some v) :
    Ps cx s (.binOp op t x y yt) ((sc v)) :=
  fun A w E S hI hT => by
    have h1 := sc_den (ev_den hT hx)
    have h2 := sc_den (ev_den hT hy)
    have h3 := fun w' => (run_binD (P := cx.P) hv t x y w').1
    have h4 := (run_binD (P := cx.P) hv t x y w).2
    refine ⟨v, fun w' hW _ _ _ _ _ => ?_, sc_mk h4⟩
    simp only [execOp, h1, h2]
    rw [Sem.run_bind, h3]
    rfl
theorem o_binD {op : BinOp} {t yt : TypeId} {x y : Operand} {kk : IntKind} {a b : Int} {v : Value} (hd : okd dst cx.n = true) (hx : s.ev x = some (sc (.int kk a))) (hy : s.ev y = some (sc (.int kk b))) (hv : binD op kk a b = some v) :
    Os cx s ⟨dst, .binOp op t x y yt, ty, pos, aft, none⟩ (s.sets dst (some (sc v))) true := o_value hd (p_binD hx hy hv)
end rules
end Go.Eng
