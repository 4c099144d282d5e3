/- The engine, part Zk: slices.Sort on ints, whatever length: by the shelf's contract. -/
import Derived.Test.YtbbpoegdcecopaaGreatEngZj
import Derived.Shelf.SortM.Plain
import Derived.Shelf.SortM.SortNone
import Derived.Shelf.SlGeneric
import Derived.Ground.SlgmProg
set_option linter.unusedVariables false
set_option linter.unusedSimpArgs false
namespace Go.Eng
open Go Go.RowKit

theorem put_heap (w : World) (k g : Nat) (d : Array Int) (os : Array Obj) (cur : Array Value) (e : Nat) (h : w.heap[g]? = some (.cells cur e (0, 0))) :
    (Go.Sort.grow (Go.Sort.putRow (Value.int .i64) (Go.Sort.ahead w k) g 0 d) os).heap[g]? = some (.cells (Go.Sort.putCells (Value.int .i64) 0 d cur) e (0, 0)) := by
  have hg : g < w.heap.size := (Array.getElem?_eq_some_iff.1 h).1
  rw [Go.Sort.heap_grow_old _ _ (by simpa using hg)]
  show ((Go.Sort.ahead w k).heap.modify g _)[g]? = _
  rw [Array.getElem?_modify, if_pos rfl]
  show Option.map _ (w.heap[g]?) = _
  rw [h]
  rfl
theorem put_other (w : World) (k g : Nat) (d : Array Int) (os : Array Obj) {b : Nat} (hb : b < w.heap.size) (hne : b ≠ g) :
    (Go.Sort.grow (Go.Sort.putRow (Value.int .i64) (Go.Sort.ahead w k) g 0 d) os).heap[b]? = w.heap[b]? := by
  rw [Go.Sort.heap_grow_old _ _ (by simpa using hb)]
  show ((Go.Sort.ahead w k).heap.modify g _)[b]? = _
  rw [Array.getElem?_modify, if_neg (Ne.symm hne)]
  rfl
theorem put_take (l : List Int) (cur : Array Value) (h : l.length ≤ cur.size) : (Go.Sort.putCells (Value.int .i64) 0 l.toArray cur).toList.take l.length = l.map (Value.int .i64) := by
  apply List.ext_getElem?
  intro j
  rw [List.getElem?_take, List.getElem?_map]
  by_cases hj : j < l.length
  · rw [if_pos hj, Array.getElem?_toList]
    unfold Go.Sort.putCells
    rw [Array.getElem?_mapIdx, Array.getElem?_eq_getElem (by omega), Option.map_some, if_pos ⟨Nat.zero_le _, by simpa using hj⟩, List.getElem?_eq_getElem hj, Option.map_some]
    congr 1
    rw [getElem!_pos l.toArray _ (by simpa using hj)]
    simp
  · rw [if_neg hj, List.getElem?_eq_none (by omega)]
    rfl
theorem sort_mu {P : Program} {ρ : Go.Shelf.Ren} (Ly : Go.Proofs.SlLaysM.n5 P ρ) (U : Nat → Value) (e0 : Nat) (l : List Int) (hl : l.length < 4611686018427387904) :
    Mu P (ρ.f 5) [.c (.own 0)] [(0, some (.row (some (U 0)) e0 true 1 encI l))] 1 [(0, some (.row (some (U 0)) e0 true 1 encI (sortI l)))] 1 (.tup []) := by
  intro n w E S vs hI hA
  obtain ⟨hl0, hrd, hpn, ho⟩ := hI.obs 0 _ rfl
  obtain ⟨v, hv, hdv⟩ := hA.2 0 _ rfl
  have hvs : vs = [(E 0).u] := by
    have h1 := hA.1
    match vs, h1, hv with
    | [x], _, hv => cases hv; rw [hdv.2.1]
  subst hvs
  simp only [if_true] at ho
  obtain ⟨cells, G, hown, hF, hG, hd, hx⟩ := ho
  have hdone : ∀ w' : World, denV E S w' (.tup []) (.tuple #[]) := fun w' => ⟨[], rfl, rfl, fun j b cs h => by simp at h⟩
  have hown0 := hown
  obtain ⟨hlen, hor⟩ := hown
  by_cases h0 : l = []
  · subst h0
    have hE : ∃ A cap, (E 0).u = .slice A 0 cap := by
      rcases hor with ⟨h, _⟩ | ⟨g, cap, cur, h, _⟩
      · exact ⟨_, _, h⟩
      · exact ⟨_, _, h⟩
    obtain ⟨A, cap, hu⟩ := hE
    rw [hu]
    refine (Go.Proofs.AnyM.slices_Sort_int_none Ly A cap w).mono ?_
    rintro e w' ⟨rfl, rfl⟩
    have hs : sortI [] = [] := List.eq_nil_of_length_eq_zero (sortI_len [])
    rw [hs]
    exact ⟨_, E, S, rfl, hI, hdone _⟩
  · rcases hor with ⟨_, hn⟩ | ⟨g, cap, cur, hu, _, hh, hcap, hmax, hsz, htk⟩
    · exact absurd (List.eq_nil_of_length_eq_zero hn) h0
    · have hg : g < w.heap.size := (Array.getElem?_eq_some_iff.1 hh).1
      have hblk : (E 0).F g := hF g (by rw [hu]; rfl)
      have hH : Go.Sort.Holds (Value.int .i64) w g 0 l.toArray := by
        intro j hj
        have hj' : j < l.length := by simpa using hj
        obtain ⟨u', h1, h2⟩ := hx j l[j] (List.getElem?_eq_getElem hj') 0 Nat.one_pos
        have h3 : u' = .int .i64 l[j] := h2.1
        subst h3
        rw [Nat.mul_one, Nat.add_zero] at h1
        refine ⟨?_, ?_⟩
        · have h4 := World.ownsRow.cells hown0 (g := g) (by rw [hu]; rfl) j _ h1
          rw [getElem!_pos l.toArray j hj, Nat.zero_add]
          have h5 : (⟨g, 0, none⟩ : Addr).add j = ⟨g, j, none⟩ := by simp [Addr.add]; exact fun h => h.symm
          rw [h5] at h4
          simpa using h4
        · simp [World.frozen?, hh]
      rw [hu]
      refine (Go.Proofs.AnyM.slices_Sort_int Ly g 0 cap l w hH hg hl).mono ?_
      rintro e w' ⟨rfl, k, os, rfl⟩
      have hs : (l.mergeSort fun x y => decide (x ≤ y)) = sortI l := rfl
      rw [hs]
      have hsl := sortI_len l
      have hgr : w.heap.size ≤ (Go.Sort.grow (Go.Sort.putRow (Value.int .i64) (Go.Sort.ahead w k) g 0 (sortI l).toArray) os).heap.size := by simp
      refine ⟨_, E, S, rfl, ⟨fun b hb => Nat.lt_of_lt_of_le (hI.slt b hb) hgr, hI.snew, fun j o hj => ?_, hI.dis, fun i hi b hb => ?_, hI.nxt, ?_⟩, hdone _⟩
      · rw [alook_cons] at hj
        split at hj
        · rename_i hj0
          subst hj0
          cases hj
          refine ⟨hl0, hrd, hpn, ?_⟩
          simp only [if_true]
          refine ⟨(sortI l).map (Value.int .i64), fun _ _ _ => False, ⟨by simp, .inr ⟨g, cap, _, by rw [hu, hsl], Nat.zero_le _, put_heap w k g _ os cur e0 hh, by omega, hmax, ?_, ?_⟩⟩, hF, fun _ _ _ h => h.elim, fun _ _ _ _ _ h => h.elim, fun i x hi j hj => ?_⟩
          · simp [Go.Sort.putCells]
            omega
          · rw [Nat.mul_one]
            exact put_take _ _ (by omega)
          · have : j = 0 := by omega
            subst this
            refine ⟨.int .i64 x, ?_, rfl, rfl⟩
            rw [Nat.mul_one, Nat.add_zero, List.getElem?_map, hi]
            rfl
        · simp [alook] at hj
      · obtain ⟨h1, h2, h3⟩ := hI.fp i hi b hb
        exact ⟨Nat.lt_of_lt_of_le h1 hgr, h2, h3⟩
      · refine ⟨rfl, rfl, rfl, hgr, fun b hb hM => put_other w k g _ os hb fun h => ?_⟩
        subst h
        exact hM ⟨0, hl0, hblk⟩
end Go.Eng
