import Derived.Test.YthcggkagkihamaaGreatDoorEngE
import Derived.Shelf.SortM.Plain
import Derived.Shelf.SortM.SortNone
import Derived.Shelf.SlGeneric
import Derived.Ground.SlgmProg
import Derived.Laws.CopyRow
set_option linter.unusedVariables false
set_option linter.unusedSimpArgs false
namespace Go.Eng
open Go Go.RowKit

theorem put_heap (w : World) (k g : Nat) (d : Array Int) (os : Array Obj) (cur : Array Value) (e : Nat) (h : w.heap[g]? = some (.cells cur e (0, 0))) :
  (Go.Sort.grow (Go.Sort.putRow (Value.int .i64) (Go.Sort.ahead w k) g 0 d) os).heap[g]? = some (.cells (Go.Sort.putCells (Value.int .i64) 0 d cur) e (0, 0)) := by
 have hg : g < w.heap.size := (Array.getElem?_eq_some_iff.1 h).1
 rw [Go.Sort.heap_grow_old _ _ (by simpa using hg)]
 show ((Go.Sort.ahead w k).heap.modify g _)[g]? = _
 rw [Array.getElem?_modify, if_pos rfl]
 show Option.map _ (w.heap[g]?) = _
 rw [h]
 rfl
theorem put_other (w : World) (k g : Nat) (d : Array Int) (os : Array Obj) {b : Nat} (hb : b < w.heap.size) (hne : b ≠ g) :
  (Go.Sort.grow (Go.Sort.putRow (Value.int .i64) (Go.Sort.ahead w k) g 0 d) os).heap[b]? = w.heap[b]? := by
 rw [Go.Sort.heap_grow_old _ _ (by simpa using hb)]
 show ((Go.Sort.ahead w k).heap.modify g _)[b]? = _
 rw [Array.getElem?_modify, if_neg (Ne.symm hne)]
 rfl
theorem put_take (l : List Int) (cur : Array Value) (h : l.length ≤ cur.size) : (Go.Sort.putCells (Value.int .i64) 0 l.toArray cur).toList.take l.length = l.map (Value.int .i64) := by
 apply List.ext_getElem?
 intro j
 rw [List.getElem?_take, List.getElem?_map]
 by_cases hj : j < l.length
 ·rw [if_pos hj, Array.getElem?_toList]
  unfold Go.Sort.putCells
  rw [Array.getElem?_mapIdx, Array.getElem?_eq_getElem (by omega), Option.map_some, if_pos ⟨Nat.zero_le _, by simpa using hj⟩, List.getElem?_eq_getElem hj, Option.map_some]
  congr 1
  rw [getElem!_pos l.toArray _ (by simpa using hj)]
  simp
 ·rw [if_neg hj, List.getElem?_eq_none (by omega)]
  rfl
theorem sort_mu {P : Program} {ρ : Go.Shelf.Ren} (Ly : Go.Proofs.SlLaysM.n5 P ρ) (U : Nat → Value) (e0 : Nat) (l : List Int) (hl : l.length < 4611686018427387904) :
  Mu P (ρ.f 5) [.c (.own 0)] [(0, some (.row (some (U 0)) e0 true 1 encI l))] 1 [(0, some (.row (some (U 0)) e0 true 1 encI (sortI l)))] 1 (.tup []) := by
 intro n w E S vs hI hA
 obtain ⟨hl0, hrd, hpn, ho⟩ := hI.obs 0 _ rfl
 obtain ⟨v, hv, hdv⟩ := hA.2 0 _ rfl
 have hvs : vs = [(E 0).u] := by
  have h1 := hA.1
  match vs, h1, hv with
  | [x], _, hv => cases hv; rw [hdv.2.1]
 subst hvs
 simp only [if_true] at ho
 obtain ⟨cells, G, hown, hF, hG, hd, hx⟩ := ho
 have hdone : ∀ w' : World, denV E S w' (.tup []) (.tuple #[]) := fun w' => ⟨[], rfl, rfl, fun j b cs h => by simp at h⟩
 have hown0 := hown
 obtain ⟨hlen, hor⟩ := hown
 by_cases h0 : l = []
 ·subst h0
  have hE : ∃ A cap, (E 0).u = .slice A 0 cap := by
   rcases hor with ⟨h, _⟩ | ⟨g, cap, cur, h, _⟩
   ·exact ⟨_, _, h⟩
   ·exact ⟨_, _, h⟩
  obtain ⟨A, cap, hu⟩ := hE
  rw [hu]
  refine (Go.Proofs.AnyM.slices_Sort_int_none Ly A cap w).mono ?_
  rintro e w' ⟨rfl, rfl⟩
  have hs : sortI [] = [] := List.eq_nil_of_length_eq_zero (sortI_len [])
  rw [hs]
  exact ⟨_, E, S, rfl, hI, hdone _⟩
 ·rcases hor with ⟨_, hn⟩ | ⟨g, cap, cur, hu, _, hh, hcap, hmax, hsz, htk⟩
  ·exact absurd (List.eq_nil_of_length_eq_zero hn) h0
  ·have hg : g < w.heap.size := (Array.getElem?_eq_some_iff.1 hh).1
   have hblk : (E 0).F g := hF g (by rw [hu]; rfl)
   have hH : Go.Sort.Holds (Value.int .i64) w g 0 l.toArray := by
    intro j hj
    have hj' : j < l.length := by simpa using hj
    obtain ⟨u', h1, h2⟩ := hx j l[j] (List.getElem?_eq_getElem hj') 0 Nat.one_pos
    have h3 : u' = .int .i64 l[j] := h2.1
    subst h3
    rw [Nat.mul_one, Nat.add_zero] at h1
    refine ⟨?_, ?_⟩
    ·have h4 := World.ownsRow.cells hown0 (g := g) (by rw [hu]; rfl) j _ h1
     rw [getElem!_pos l.toArray j hj, Nat.zero_add]
     have h5 : (⟨g, 0, none⟩ : Addr).add j = ⟨g, j, none⟩ := by simp [Addr.add]; exact fun h => h.symm
     rw [h5] at h4
     simpa using h4
    ·simp [World.frozen?, hh]
   rw [hu]
   refine (Go.Proofs.AnyM.slices_Sort_int Ly g 0 cap l w hH hg hl).mono ?_
   rintro e w' ⟨rfl, k, os, rfl⟩
   have hs : (l.mergeSort fun x y => decide (x ≤ y)) = sortI l := rfl
   rw [hs]
   have hsl := sortI_len l
   have hgr : w.heap.size ≤ (Go.Sort.grow (Go.Sort.putRow (Value.int .i64) (Go.Sort.ahead w k) g 0 (sortI l).toArray) os).heap.size := by simp
   refine ⟨_, E, S, rfl, ⟨fun b hb => Nat.lt_of_lt_of_le (hI.slt b hb) hgr, hI.snew, fun j o hj => ?_, hI.dis, fun i hi b hb => ?_, hI.nxt, ?_⟩, hdone _⟩
   ·rw [alook_cons] at hj
    split at hj
    ·rename_i hj0
     subst hj0
     cases hj
     refine ⟨hl0, hrd, hpn, ?_⟩
     simp only [if_true]
     refine ⟨(sortI l).map (Value.int .i64), fun _ _ _ => False, ⟨by simp, .inr ⟨g, cap, _, by rw [hu, hsl], Nat.zero_le _, put_heap w k g _ os cur e0 hh, by omega, hmax, ?_, ?_⟩⟩, hF, fun _ _ _ h => h.elim, fun _ _ _ _ _ h => h.elim, fun i x hi j hj => ?_⟩
     ·simp [Go.Sort.putCells]
      omega
     ·rw [Nat.mul_one]
      exact put_take _ _ (by omega)
     ·have : j = 0 := by omega
      subst this
      refine ⟨.int .i64 x, ?_, rfl, rfl⟩
      rw [Nat.mul_one, Nat.add_zero, List.getElem?_map, hi]
      rfl
    ·simp [alook] at hj
   ·obtain ⟨h1, h2, h3⟩ := hI.fp i hi b hb
    exact ⟨Nat.lt_of_lt_of_le h1 hgr, h2, h3⟩
   ·refine ⟨rfl, rfl, rfl, hgr, fun b hb hM => put_other w k g _ os hb fun h => ?_⟩
    subst h
    exact hM ⟨0, hl0, hblk⟩
end Go.Eng

set_option linter.unusedVariables false
set_option linter.unusedSimpArgs false
namespace Go.Eng
open Go Go.RowKit
def ctA : Int × List Int → Nat := fun x => 1 + x.2.length
def markAT : Int → Int × List Int → Int × List Int := fun k x => (k, seqI (k + 1) x.2.length)
def markATS : Int → List (Int × List Int) → List (Int × List Int) := mkL markAT ctA
section
variable {α : Type} {p : α → Bool} {l : List α} {m : Nat} {z : α}
end
def selV (q : Bool) (B H : List Int) : List Int := H.filter fun x => hasI B x == q
end Go.Eng

set_option linter.unusedVariables false
set_option linter.unusedSimpArgs false
namespace Go.Eng
open Go Go.RowKit
def isN (v : Int) : Bool := decide (-40 ≤ v ∧ v ≤ -1)
def numN (v : Int) : Int := if -40 ≤ v ∧ v ≤ -1 then -1 - v else 0
def nulV (l : List Int) : List Int := (l.filter isN).map numN
def flatT (l : List (Int × List Int)) : List Int := l.flatMap fun a => a.2
def nextN (s : List Int) : Int := if s.length = 0 then 0 else IntKind.i64.wrap (s.getD (s.length - 1) 0 + 1)
def valOk (v : Int) : Bool := decide (-40 ≤ v ∧ v ≤ 9)
def factOk (rs : Rels) (r : Int) (ts : List Int) : Bool :=
 relsOk rs && (decide (0 ≤ r ∧ r ≤ (rs.length : Int) - 1) && ((match rs[r.toNat]? with | some x => decide (((ts.length : Nat) : Int) = x.2.1) | none => false) && !ts.any fun t => !valOk t))
section
variable {rs : Rels} {r : Int} {ts : List Int}
end
def cmpI (x y : Int) : Int := if x < y then -1 else if y < x then 1 else 0
def orI : List Int → Int
 | [] => 0
 | x :: l => if x ≠ 0 then x else orI l
def cmpF (f g : Int × List Int) : Int := if f.1 < g.1 then -1 else if g.1 < f.1 then 1 else cmpL f.2 g.2
def instStep (rs : Rels) (l : Atoms) (j : Nat) : Bool := match l[j]? with
 | some z => factOk rs z.1 z.2 && ((decide (j = 0) || match l[j - 1]? with | some y => decide (cmpF y z < 0) | none => false) && !(srcA rs z && decide (0 < (setI (nulV z.2)).length)))
 | none => true
def instOk (rs : Rels) (l : Atoms) : Bool := decide (∀ j, j < l.length → instStep rs l j = true) && (relsOk rs && decide (l.length ≤ 30))
section
variable {rs : Rels} {l : Atoms} {m : Nat}
end
end Go.Eng

set_option linter.unusedVariables false
set_option linter.unusedSimpArgs false
namespace Go.Eng
open Go Go.RowKit
section rules
variable {cx : Cx} {s : St} {dst : Option Nat} {ty : TypeId} {pos : String} {aft : Array Edge}
theorem o_appendD (i : Nat) {pn pn2 : Option Value} {t e e2 q0 : TypeId} {sz by' : Nat} {x y : Operand} {α : Type} {enc : α → Nat → T} {xs ys : List α} (hd : okd dst cx.n = true) (he : elemI cx.P t = some (e, sz, by')) (hpos : Nat.blt 0 sz = true)
  (hx : s.ev x = some (.c (.own i))) (hb : alook s.ob i = some (.row pn e true sz enc xs)) (hy : s.ev y = some (.c (.own q0))) (hq0 : alook s.ob q0 = some (.row pn2 e2 true sz enc ys)) (hqi : Nat.beq q0 i = false) (hlen : (xs.length + ys.length) * by' ≤ 140737488355328) (hl63 : xs.length + ys.length ≤ 9223372036854775807) :
  Os cx s ⟨dst, .call { callee := .builtin .append, args := #[x, y], argTypes := #[t, t] }, ty, pos, aft, none⟩ ((⟨cutT (cutP i [q0]) s.tm, (i, some (.row none e true sz enc (xs ++ ys))) :: dels [q0] (cutO (cutP i [q0]) s.ob), s.nx⟩ : St).sets dst (some (.c (.own i)))) false := by
 refine o_gen fun a w hg => ?_
 obtain ⟨E, S, hI, hT, hn, hdf⟩ := hg
 have hpos : 0 < sz := by simpa using hpos
 obtain ⟨ti, tz, t1, t2, t3, t4, t5, t6⟩ := elemI_get he
 obtain ⟨hli, hux, _⟩ := ev_den hT hx
 have hqi : q0 ≠ i := fun h => by subst h; simp at hqi
 obtain ⟨hlq, huq, _⟩ := ev_den hT hy
 obtain ⟨_, _, _, ho2⟩ := hI.obs _ _ hq0
 simp only [if_true] at ho2
 obtain ⟨cells2, G2, k1, k2, k3, k4, k5⟩ := ho2
 obtain ⟨A, cap, hu2, hcap⟩ := own_slice' k1
 have huy : a.eval y = .slice A ys.length cap := by rw [huq, hu2]
 have hdd : ∀ k, (E i).F k → ¬ (E q0).F k := hI.dis i q0 (Ne.symm hqi) hli hlq
 obtain ⟨_, hrd, _, ho⟩ := hI.obs _ _ hb
 simp only [if_true] at ho
 obtain ⟨cells, G, h1, h2, h3, h4, h5⟩ := ho
 have hexec : ∀ (v1 : Value) (w1 : World), (Builtin.append_ #[t, t] ty #[(E i).u, .slice A ys.length cap]).run cx.P w = .ok v1 w1 → (execOp a.eval ⟨dst, .call { callee := .builtin .append, args := #[x, y], argTypes := #[t, t] }, ty, pos, aft, none⟩).run cx.P w = .ok (.value v1) w1 := fun v1 w1 hr => by
  have hm : Array.map a.eval #[x, y] = #[(E i).u, .slice A ys.length cap] := by simp [hux, huy]
  simp only [execOp, resolve, invoke, builtin, hm, Sem.run_bind, Sem.run_pure, Result.andThen_ok]
  rw [hr]
  rfl
 have fin : ∀ (v1 : Value) (w1 : World) (news : List Value), w1.ownsRow 0 e sz v1 (xs.length + ys.length) (cells ++ news) → (∀ b y', ys[b]? = some y' → ∀ c, c < sz → ∃ u', news[b * sz + c]? = some u' ∧ Ow w (enc y' c) u' (G2 b c)) → w.heap.size ≤ w1.heap.size → w1.os = w.os → w1.tape = w.tape → w1.output = w.output → (∀ q, q < w.heap.size → some q ≠ (E i).u.ownBlock → w1.heap[q]? = w.heap[q]?) → (v1.ownBlock = (E i).u.ownBlock ∨ v1.ownBlock = some w.heap.size) → v1.oneCell' = true →
   Gm cx ((⟨cutT (cutP i [q0]) s.tm, (i, some (.row none e true sz enc (xs ++ ys))) :: dels [q0] (cutO (cutP i [q0]) s.ob), s.nx⟩ : St).sets dst (some (.c (.own i)))) (a.put dst v1) w1 := fun v1 w1 news r2 hnw r3 ros rt rop rb r5 hone => by
  have hkeep : ∀ q, q < w.heap.size → ¬ (E i).F q → w1.heap[q]? = w.heap[q]? := fun q hq hf => rb q hq fun hb' => hf (h2 q hb'.symm)
  have hne1 : ∀ q, q < w.heap.size → some q ≠ (E i).u.ownBlock → v1.ownBlock ≠ some q := fun q hq hn' hv => by
   rcases r5 with h5 | h5
   ·rw [h5] at hv; exact hn' hv.symm
   ·rw [h5] at hv; cases hv; omega
  have hfresh : v1.ownBlock = some w.heap.size → w.heap.size < w1.heap.size := fun hv => by
   rcases r2.2 with ⟨e1, _⟩ | ⟨g, cap, cur, e1, _, e2, _⟩
   ·rw [e1] at hv; simp [Value.ownBlock] at hv
   ·rw [e1] at hv
    simp [Value.ownBlock] at hv
    subst hv
    exact (Array.getElem?_eq_some_iff.1 e2).1
  have hlen' : (xs ++ ys).length = xs.length + ys.length := by simp
  have hobj : okOb (takeE E i [q0] ⟨v1, fun k => (E i).F k ∨ v1.ownBlock = some k ∨ ∃ b c, G2 b c k, True, True⟩) S w1 i (.row none e true sz enc (xs ++ ys)) := by
   refine ⟨by rw [takeE_at]; trivial, fun v hv => (by cases hv), ?_⟩
   rw [takeE_at]
   simp only [if_true]
   refine ⟨cells ++ news, fun b c k => if b < xs.length then G b c k else G2 (b - xs.length) c k, by rw [hlen']; exact r2, fun g hg => .inr (.inl hg), fun b c k hk => ?_, fun b c b' c' k hk hk' => ?_, fun b x' hx' c hc => ?_⟩
   ·dsimp only at hk
    split at hk
    ·obtain ⟨e1, e2⟩ := h3 b c k hk
     exact ⟨.inl e1, hne1 k (hI.fp i hli k e1).1 (fun e => e2 e.symm)⟩
    ·have e1 := (k3 _ c k hk).1
     exact ⟨.inr (.inr ⟨_, _, hk⟩), hne1 k (hI.fp q0 hlq k e1).1 (fun e => hdd k (h2 k e.symm) e1)⟩
   ·dsimp only at hk hk'
    split at hk <;> split at hk'
    ·exact h4 b c b' c' k hk hk'
    ·exact absurd (k3 _ _ _ hk').1 (hdd k (h3 _ _ _ hk).1)
    ·exact absurd (k3 _ _ _ hk).1 (hdd k (h3 _ _ _ hk').1)
    ·obtain ⟨e1, e2⟩ := k4 _ _ _ _ k hk hk'
     exact ⟨by omega, e2⟩
   ·by_cases hb1 : b < xs.length
    ·rw [List.getElem?_append_left hb1] at hx'
     obtain ⟨u', e1, e2⟩ := h5 b x' hx' c hc
     refine ⟨u', ?_, Ow.move _ _ (fun k hk => by dsimp only; rw [if_pos hb1]; exact hk) (fun k hk => ?_) e2⟩
     ·rw [List.getElem?_append_left (by rw [h1.1]; exact mulLt hb1 hc)]
      exact e1
     ·obtain ⟨e3, e4⟩ := h3 b c k hk
      exact rb k (hI.fp i hli k e3).1 (fun e => e4 e.symm)
    ·rw [List.getElem?_append_right (by omega)] at hx'
     obtain ⟨u', e1, e2⟩ := hnw _ x' hx' c hc
     refine ⟨u', ?_, Ow.move _ _ (fun k hk => by dsimp only; rw [if_neg hb1]; exact hk) (fun k hk => ?_) e2⟩
     rotate_left
     ·have e3 := (k3 _ _ k hk).1
      exact hkeep k (hI.fp q0 hlq k e3).1 (fun e4 => hdd k e4 e3)
     have hle : xs.length * sz ≤ b * sz := Nat.mul_le_mul_right _ (by omega)
     rw [List.getElem?_append_right (by rw [h1.1]; omega), h1.1, show b * sz + c - xs.length * sz = (b - xs.length) * sz + c by rw [Nat.sub_mul]; omega]
     exact e1
  have hW := hI.write (w' := w1) (i := i) (is := [q0]) (x := ⟨v1, fun k => (E i).F k ∨ v1.ownBlock = some k ∨ ∃ b c, G2 b c k, True, True⟩) (cutP i [q0]) hli (fun q hq => by rw [List.mem_singleton] at hq; subst hq; exact hlq) trivial (fun a' ha' => by
    simp only [cutP, List.any_cons, List.any_nil, Bool.or_false, Bool.or_eq_false_iff] at ha'
    exact ⟨fun q hq => by rw [List.mem_singleton] at hq; subst hq; exact ha'.2, fun hn' => (by rw [ha'.1] at hn'; cases hn'), fun hr _ => by (have := ha'.1; rw [reads_names hr] at this; cases this)⟩)
   (fun k hk => by
    rcases hk with hk | hk | ⟨b, c, hk⟩
    ·exact .inl hk
    ·rcases r5 with h5 | h5
     ·rw [h5] at hk; exact .inl (h2 k hk)
     ·have h6 := hfresh h5
      rw [h5] at hk
      cases hk
      exact .inr (.inr ⟨Nat.le_refl _, h6⟩)
    ·exact .inr (.inl ⟨q0, by simp, (k3 _ _ _ hk).1⟩))
   r3 ros rt rop hkeep hobj
  refine ⟨_, S, ?_, denT_puts (s := ⟨cutT (cutP i [q0]) s.tm, (i, some (.row none e true sz enc (xs ++ ys))) :: dels [q0] (cutO (cutP i [q0]) s.ob), s.nx⟩) hd hn (denT.cut hW.2 hT) (fun v' e' => ?_), by rw [put_size]; exact hn, by rw [put_defers]; exact hdf⟩
  ·rw [sets_ob, sets_nx]; exact hW.1
  ·cases e'
   exact ⟨by rw [takeE_at]; trivial, by rw [takeE_at], hone⟩
 cases A with
 | none =>
  have hy0 : ys = [] := by
   rcases k1.2 with ⟨_, hn0⟩ | ⟨g, cap', cur, e1, _⟩
   ·exact List.eq_nil_of_length_eq_zero hn0
   ·rw [hu2] at e1; cases e1
  subst hy0
  obtain ⟨A', c', hu, hc⟩ := own_slice' h1
  refine ⟨.value (E i).u, w, hexec _ _ ?_, .inl ⟨_, rfl, ?_⟩, fun h => by (cases h)⟩
  ·rw [hu]
   exact run_append_none t1 t2 A' _ c' cap hc w
  ·exact fin _ w [] (by simpa using h1) (fun b y' hb' => by simp at hb') (Nat.le_refl _) rfl rfl rfl (fun _ _ _ => rfl) (.inl rfl) (by rw [hu]; rfl)
 | some ad =>
  have had : ∃ g, ad = ⟨g, 0, none⟩ := by
   rcases k1.2 with ⟨e1, _⟩ | ⟨g, cap', cur, e1, _⟩
   ·rw [hu2] at e1; cases e1
   ·rw [hu2] at e1; cases e1; exact ⟨g, rfl⟩
  obtain ⟨g0, rfl⟩ := had
  have hone2 : ∀ u ∈ cells2, u.oneCell' = true := fun u hu => by
   obtain ⟨j, hj⟩ := List.getElem?_of_mem hu
   have hjl := (List.getElem?_eq_some_iff.1 hj).1
   rw [k1.1] at hjl
   have hqs : j / sz < ys.length := by rw [Nat.div_lt_iff_lt_mul hpos]; exact hjl
   obtain ⟨u', e1, e2⟩ := k5 (j / sz) _ (List.getElem?_eq_getElem hqs) (j % sz) (Nat.mod_lt _ hpos)
   rw [show j / sz * sz + j % sz = j by rw [Nat.mul_comm]; exact Nat.div_add_mod j sz, hj] at e1
   cases e1
   exact Rd.one (Ow.rd _ _ e2)
  obtain ⟨v1, w1, r1, r2, r3, _, r5⟩ := run_append_own_at (P := cx.P) w 0 t ty e ti tz sz by' t1 t2 t3 t4 t5 t6 hpos (E i).u xs.length cells h1 ⟨g0, 0, none⟩ ys.length cap cells2 k1.1 (fun j u hu => World.ownsRow.cells k1 (g := g0) (by rw [hu2]; rfl) j u hu) hone2 (by simp only [maxLen]; omega) hlen (Nat.zero_le _)
  refine ⟨.value v1, w1, hexec _ _ r1, .inl ⟨_, rfl, ?_⟩, fun h => by (cases h)⟩
  refine fin v1 w1 cells2 r2 (fun b y' hb' c hc => k5 b y' hb' c hc) r3.size r3.os r3.tape r3.output r3.block r5 ?_
  obtain ⟨A', c', hu, _⟩ := own_slice' r2
  rw [hu]; rfl
theorem Gm.nil0 {a : Act} {w : World} (hg : Gm cx s a w) (i : Nat) {et sz : Nat} (deep : Bool) {α : Type} (enc : α → Nat → T) (hi : s.nx = i) :
  Gm cx ⟨s.tm, (i, some (.row none et deep sz enc [])) :: s.ob, i + 1⟩ a w := by
 subst hi
 obtain ⟨E, S, hI, hT, hn, hdf⟩ := hg
 let E' := upd E s.nx ⟨.slice none 0 0, fun _ => False, True, True⟩
 have hC : Carry E E' S S w w no := {
  sub := fun _ h => h
  keep := fun _ _ => rfl
  place := fun a _ i _ hl => by
   have := hI.nxt i hl
   show (upd E s.nx _ i).live ∧ (upd E s.nx _ i).u = _
   rw [upd_ne (by omega)]
   exact ⟨hl, rfl⟩
  reads := fun a _ i _ hl => by
   have := hI.nxt i hl.1
   show ((upd E s.nx _ i).live ∧ (upd E s.nx _ i).rd) ∧ (∀ k, _ → (upd E s.nx _ i).F k) ∧ _
   rw [upd_ne (by omega)]
   exact ⟨hl, fun _ q => q, fun _ _ => rfl⟩ }
 refine ⟨E', S, ⟨hI.slt, hI.snew, fun j o hj => ?_, fun j j' hij hj hj' k h1 h2 => ?_, fun j hj k hk => ?_, fun j hj => ?_, hI.kept⟩, fun t' v hv' => ?_, hn, hdf⟩
 ·rw [alook_cons] at hj
  by_cases e : j = s.nx
  ·subst e
   rw [if_pos rfl] at hj
   cases hj
   refine ⟨by show (upd E s.nx _ s.nx).live; rw [upd_at]; trivial, by show (upd E s.nx _ s.nx).rd; rw [upd_at]; trivial, fun v hv => (by cases hv), ?_⟩
   show if deep = true then OwE w et sz enc [] (upd E s.nx _ s.nx).u (upd E s.nx _ s.nx).F else Ro w S et sz enc [] (upd E s.nx _ s.nx).u (upd E s.nx _ s.nx).F
   rw [upd_at]
   cases deep
   ·exact ⟨[], World.ownsRow_nil _ _ _ _, fun g h => by simp [Value.ownBlock] at h, fun i x h => by simp at h⟩
   ·exact ⟨[], fun _ _ _ => False, World.ownsRow_nil _ _ _ _, fun g h => by simp [Value.ownBlock] at h, fun _ _ _ h => h.elim, fun _ _ _ _ _ h => h.elim, fun i x h => by simp at h⟩
  ·rw [if_neg e] at hj
   obtain ⟨h1, h2⟩ := hI.obs j o hj
   refine ⟨by show (upd E s.nx _ j).live; rw [upd_ne e]; exact h1, ?_⟩
   have := okOb.carry hC (i := j) (by show (upd E s.nx _ j).u = _; rw [upd_ne e]) (fun k => by show (upd E s.nx _ j).F k ↔ _; rw [upd_ne e]) (by show (upd E s.nx _ j).rd ↔ _; rw [upd_ne e]) (fun _ _ => rfl) h2
   rwa [Ob.cut_none] at this
 ·have h1' : (upd E s.nx ⟨.slice none 0 0, fun _ => False, True, True⟩ j).F k := h1
  have h2' : (upd E s.nx ⟨.slice none 0 0, fun _ => False, True, True⟩ j').F k := h2
  have hj1 : (upd E s.nx ⟨.slice none 0 0, fun _ => False, True, True⟩ j).live := hj
  have hj2 : (upd E s.nx ⟨.slice none 0 0, fun _ => False, True, True⟩ j').live := hj'
  by_cases e1 : j = s.nx
  ·subst e1; rw [upd_at] at h1'; exact h1'
  ·by_cases e2 : j' = s.nx
   ·subst e2; rw [upd_at] at h2'; exact h2'
   ·rw [upd_ne e1] at h1' hj1; rw [upd_ne e2] at h2' hj2
    exact hI.dis j j' hij hj1 hj2 k h1' h2'
 ·have hk' : (upd E s.nx ⟨.slice none 0 0, fun _ => False, True, True⟩ j).F k := hk
  have hj1 : (upd E s.nx ⟨.slice none 0 0, fun _ => False, True, True⟩ j).live := hj
  by_cases e1 : j = s.nx
  ·subst e1; rw [upd_at] at hk'; exact hk'.elim
  ·rw [upd_ne e1] at hk' hj1; exact hI.fp j hj1 k hk'
 ·have hj1 : (upd E s.nx ⟨.slice none 0 0, fun _ => False, True, True⟩ j).live := hj
  by_cases e1 : j = s.nx
  ·show j < s.nx + 1; omega
  ·rw [upd_ne e1] at hj1
   have := hI.nxt j hj1
   show j < s.nx + 1
   omega
 ·exact denT.carry hC hT t' v hv'

end rules
end Go.Eng

set_option linter.unusedVariables false
set_option linter.unusedSimpArgs false
namespace Go.Eng
open Go Go.RowKit
section rules
variable {cx : Cx} {s : St} {dst : Option Nat} {ty : TypeId} {pos : String} {aft : Array Edge}
end rules
def fitStep (b : List Int) (p : Int × Int) : Option (List Int) :=
 if p.1 < 0 then (if -1 - p.1 = p.2 then some b else none)
 else match b[p.1.toNat]? with
  | some y => if y = 10 ∨ y = p.2 then some (b.set p.1.toNat p.2) else none
  | none => none
def fitP : List Int → List (Int × Int) → List Int × Bool
 | b, [] => (b, true)
 | b, p :: ps => match fitStep b p with
  | some b' => fitP b' ps
  | none => (b, false)
section
variable {ts vs b q : List Int} {m n n' : Nat} {t v y : Int}
end
def fitF (a f : Int × List Int) (b : List Int) : List Int × Bool := if a.1 = f.1 then fitP b (a.2.zip f.2) else (b, false)
def matchL (fs : List (Int × List Int)) : List (Int × List Int) → List Int → List (List Int)
 | [], b => [b]
 | a :: al, b => fs.flatMap fun f => if (fitF a f b).2 = true then matchL fs al (fitF a f b).1 else []
def matchM (fs : List (Int × List Int)) (l : List (Int × List Int)) (b : List Int) (m : Nat) : List (List Int) := match l with
 | [] => [b]
 | a :: al => (fs.take m).flatMap fun f => if (fitF a f b).2 = true then matchL fs al (fitF a f b).1 else []
section
variable {fs l : List (Int × List Int)} {b : List Int} {m n n' : Nat} {a f : Int × List Int}
end
def mtOk (rs : Rels) (fs l : Atoms) : Bool := instOk rs fs && (decide (l.length ≤ 3) && !l.any (badA rs))
def hasE (rs : Rels) (fs l : Atoms) (b : List Int) : Bool := mtOk rs fs l && (decide (b.length = 5) && decide (0 < (matchL fs l b).length))
end Go.Eng

set_option linter.unusedVariables false
set_option linter.unusedSimpArgs false
namespace Go.Eng
open Go Go.RowKit
def hasF (fs : Atoms) (f : Int × List Int) : Bool := fs.any fun x => decide (cmpF x f = 0)
def varStep (V b : List Int) (j : Nat) : Bool := match b[j]? with
 | some z => decide (z = 10) != hasI V (j : Int)
 | none => true
def varsOk (V b : List Int) : Bool := decide (∀ j, j < b.length → varStep V b j = true)
def trgStep (fs : Atoms) (b : List Int) (a : Int × List Int) : Bool := match instV b a.2 with
 | some v => hasF fs (a.1, v)
 | none => false
def trgOk (rs : Rels) (fs a0 a1 : Atoms) (a2 : Bool) (a3 a4 : Int) (b : List Int) : Bool :=
 (instOk rs fs && (depOk rs a0 a1 a2 a3 a4 && decide (b.length = 5))) && (varsOk (setI (varsL a0)) b && a0.all (trgStep fs b))
section
variable {V b : List Int} {m : Nat} {z : Int} {fs : Atoms} {a : Int × List Int}
end
end Go.Eng

set_option linter.unusedVariables false
set_option linter.unusedSimpArgs false
namespace Go.Eng
open Go Go.RowKit
def actOk (rs : Rels) (fs a0 a1 : Atoms) (a2 : Bool) (a3 a4 : Int) (b : List Int) : Bool :=
 trgOk rs fs a0 a1 a2 a3 a4 b && (if a2 = true then decide (b.getD a3.toNat 0 ≠ b.getD a4.toNat 0) else !hasE rs fs a1 b)
theorem var_range {rs : Rels} {a0 : Atoms} {most x : Int} (h : atomsOk rs a0 most = true) (hx : hasI (setI (varsL a0)) x = true) : 0 ≤ x ∧ x < 5 := by
 unfold hasI at hx
 rw [List.any_eq_true] at hx
 obtain ⟨y, hy, e⟩ := hx
 have e : y = x := of_decide_eq_true e
 subst e
 rw [setI_mem] at hy
 obtain ⟨a, ha, hy⟩ := List.mem_flatMap.1 hy
 unfold nonneg at hy
 rw [List.mem_filter] at hy
 have h0 : 0 ≤ y := of_decide_eq_true hy.2
 have h1 := (atomsOk_all h).2.2 a ha
 unfold atomOk at h1
 simp only [Bool.and_eq_true, Bool.not_eq_true', List.any_eq_false] at h1
 have h2 := h1.2.2.2 y hy.1
 have h3 : termOk y = true := by simpa using h2
 unfold termOk at h3
 have := of_decide_eq_true h3
 omega
end Go.Eng

set_option linter.unusedVariables false
set_option linter.unusedSimpArgs false
namespace Go.Eng
open Go Go.RowKit
def encK {α : Type} (enc : α → Nat → T) : Value ⊕ α → Nat → T
 | .inl v, _ => .v v
 | .inr x, j => enc x j
def tkL {α : Type} (vs : List Value) (L : List α) : List (Value ⊕ α) := vs.map .inl ++ (L.drop vs.length).map .inr
section
variable {α : Type} {vs : List Value} {L : List α} {m : Nat} {l : α} {v : Value}
end
section rules
variable {cx : Cx} {s : St} {dst : Option Nat} {ty : TypeId} {pos : String} {aft : Array Edge} {R : Ending → World → Prop} {todo : List Item}
end rules
end Go.Eng

set_option linter.unusedVariables false
set_option linter.unusedSimpArgs false
namespace Go.Eng
open Go Go.RowKit
def hasR (out : List (List Int)) (x : List Int) : Bool := out.any fun y => decide (y = x)
def dedL (l : List (List Int)) : List (List Int) := l.foldl (fun out x => if hasR out x = true then out else out ++ [x]) []
section
variable {l : List (List Int)} {m n : Nat} {z : List Int}
end
def freeB : List Int := [10, 10, 10, 10, 10]
def findL (rs : Rels) (fs l : Atoms) : List (List Int) := if mtOk rs fs l = true then dedL (matchL fs l freeB) else []
def actL (rs : Rels) (fs a0 a1 : Atoms) (a2 : Bool) (a3 a4 : Int) : List (List Int) :=
 if depOk rs a0 a1 a2 a3 a4 = true then (findL rs fs a0).filter (actOk rs fs a0 a1 a2 a3 a4) else []
end Go.Eng

set_option linter.unusedVariables false
set_option linter.unusedSimpArgs false
namespace Go.Eng
open Go Go.RowKit
section rules
variable {cx : Cx} {s : St} {dst : Option Nat} {ty : TypeId} {pos : String} {aft : Array Edge}
def binD (op : BinOp) (k : IntKind) (a b : Int) : Option Value :=
 match op with
 | .quo => if b = 0 then none else some (.int k (k.wrap (a.tdiv b)))
 | .rem => if b = 0 then none else some (.int k (a.tmod b))
 | .and => some (.int k (k.wrap (BitVec.ofInt k.bits a &&& BitVec.ofInt k.bits b).toNat))
 | .xor => some (.int k (k.wrap (BitVec.ofInt k.bits a ^^^ BitVec.ofInt k.bits b).toNat))
 | _ => none
theorem run_binD {P : Program} {op : BinOp} {k : IntKind} {a b : Int} {v : Value} (h : binD op k a b = some v) (t : TypeId) (x y : Operand) (w : World) : (do eqGuard op t x y (.int k a) (.int k b); binOp op t (.int k a) (.int k b) : Sem Value).run P w = .ok v w ∧ v.oneCell' = true := by
 cases op <;> simp only [binD] at h <;> first
  | (cases h; done)
  | (split at h <;> first | (cases h; done) | (cases h; constructor <;> simp_all [eqGuard, binOp, Op.intDiv, Value.oneCell']))
  | (cases h; constructor <;> simp [eqGuard, binOp, Op.intBits, Value.oneCell'])
theorem p_binD {op : BinOp} {t yt : TypeId} {x y : Operand} {kk : IntKind} {a b : Int} {v : Value} (hx : s.ev x = some (sc (.int kk a))) (hy : s.ev y = some (sc (.int kk b))) (hv : binD op kk a b = some v) :
  Ps cx s (.binOp op t x y yt) ((sc v)) :=
 fun A w E S hI hT => by
  have h1 := sc_den (ev_den hT hx)
  have h2 := sc_den (ev_den hT hy)
  have h3 := fun w' => (run_binD (P := cx.P) hv t x y w').1
  have h4 := (run_binD (P := cx.P) hv t x y w).2
  refine ⟨v, fun w' hW _ _ _ _ _ => ?_, sc_mk h4⟩
  simp only [execOp, h1, h2]
  rw [Sem.run_bind, h3]
  rfl
theorem o_binD {op : BinOp} {t yt : TypeId} {x y : Operand} {kk : IntKind} {a b : Int} {v : Value} (hd : okd dst cx.n = true) (hx : s.ev x = some (sc (.int kk a))) (hy : s.ev y = some (sc (.int kk b))) (hv : binD op kk a b = some v) :
  Os cx s ⟨dst, .binOp op t x y yt, ty, pos, aft, none⟩ (s.sets dst (some (sc v))) true := o_value hd (p_binD hx hy hv)
end rules
end Go.Eng
