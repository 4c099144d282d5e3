import Derived.Test.YthcggkagkihamaaGreatDoorEngT
set_option linter.unusedVariables false
set_option linter.unusedSimpArgs false
namespace Go.Eng
open Go Go.RowKit Go.Proofs
def cellF {α : Type} (enc : α → Nat → T) (sz : Nat) (xs : List α) (j : Nat) : T := match xs[j / sz]? with
 | some x => enc x (j % sz)
 | none => .v .nilIface
theorem cellF_at {α : Type} {enc : α → Nat → T} {sz : Nat} {xs : List α} {b c : Nat} {x : α} (hx : xs[b]? = some x) (hc : c < sz) : cellF enc sz xs (b * sz + c) = enc x c := by
 unfold cellF
 rw [show (b * sz + c) / sz = b by rw [Nat.mul_comm, Nat.mul_add_div (by omega), Nat.div_eq_of_lt hc, Nat.add_zero], hx, show (b * sz + c) % sz = c by rw [Nat.mul_comm, Nat.mul_add_mod]; exact Nat.mod_eq_of_lt hc]
section
variable {cx : Cx} {s : St} {dst : Option Nat} {ty : TypeId} {pos : String} {aft : Array Edge} {R : Ending → World → Prop} {k : List Item} {ops : Array Oper} {rest : List Oper} {todo : List Item}
theorem o_litN (i : Nat) {t e sz len : Nat} {zs : List Value} {parts : Array (Nat × Operand)} {vs : List (Nat × AV)} {us : List AC} {α : Type} {enc : α → Nat → T} (xs : List α) {is : List Nat} (hi : s.nx = i) (hd : okd dst cx.n = true) (he : elemOf' cx.P t = some (e, sz, zs)) (hz : Nat.beq zs.length sz = true) (hsz : Nat.blt 0 sz = true) (h1 : zs.all (·.oneCell') = true) (hsmall : Nat.ble (len * sz) 16777216 = true) (hv : evL (s.obj i (.row none e true sz enc [])) parts.toList = some vs) (hc : fillL (fun i => some (i * sz, sz)) (List.replicate (len * sz) .top) vs = some us) (hul : Nat.beq us.length (len * sz) = true) (hxl : Nat.beq xs.length len = true)
  (hm : MvL (s.obj i (.row none e true sz enc [])) true us (cellF enc sz xs) 0 is) (hii : is.all (fun k => !Nat.beq k i) = true) :
  Os cx s ⟨dst, .buildSlice t len parts, ty, pos, aft, none⟩ ((⟨cutT (cutP i is) s.tm, (i, some (.row none e true sz enc xs)) :: dels is (cutO (cutP i is) (s.obj i (.row none e true sz enc [])).ob), i + 1⟩ : St).sets dst (some (.c (.own i)))) true := by
 refine o_gen fun a w hg => ?_
 have hg0 : Gm cx (s.obj i (.row none e true sz enc [])) a w := Gm.nil0 (et := e) (sz := sz) hg i true enc hi
 obtain ⟨E, S, hI, hT, hn, hdf⟩ := hg0
 have hz := Nat.eq_of_beq_eq_true hz
 have hul := Nat.eq_of_beq_eq_true hul
 have hxl := Nat.eq_of_beq_eq_true hxl
 have htop : denL E S w (List.replicate (len * sz) .top) ((Array.range (len * sz)).map (zs.toArray[· % zs.length]!)).toList := by
  refine ⟨by simp, fun j c hj => ?_⟩
  rw [List.getElem?_replicate] at hj
  split at hj
  ·rename_i hlt
   cases hj
   have hpos : 0 < zs.length := by
    rcases Nat.eq_zero_or_pos zs.length with h0 | h0
    ·rw [h0] at hz; subst hz; simp at hlt
    ·exact h0
   have hm : j % zs.length < zs.length := Nat.mod_lt _ hpos
   refine ⟨zs[j % zs.length], by simp [hlt, hm], ?_⟩
   exact (List.all_eq_true.1 h1) _ (List.getElem_mem hm)
  ·cases hj
 obtain ⟨us', h4, h5⟩ := fill_den hT parts.toList vs _ us _ hv hc htop
 have hr := run_litS (P := cx.P) he hz len (parts.map fun (i, x) => (i, a.eval x)) us' (by simpa using hsmall) w (by rw [Array.toList_map]; exact h4)
 have hob : alook (s.obj i (.row none e true sz enc [])).ob i = some (.row none e true sz enc []) := by
  show alook ((i, _) :: s.ob) i = _
  rw [alook_cons, if_pos rfl]
 obtain ⟨hli, hrd, _, _⟩ := hI.obs _ _ hob
 obtain ⟨m1, _, m3⟩ := hm.den hI h5
 obtain ⟨Gz, g1, g2, g3⟩ := m3 rfl
 have hlen : us'.toList.length = len * sz := h5.1.trans hul
 have his : ∀ q ∈ is, q ≠ i := fun q hq e => by
  have := (List.all_eq_true.1 hii) q hq
  subst e
  simp at this
 have hGlt : ∀ c k, Gz c k → k < w.heap.size := fun c k hk => by
  obtain ⟨q, hq, hf⟩ := g1 c k hk
  exact (hI.fp q (m1 q hq) k hf).1
 let w1 := w.alloc (.cells us'.toList.toArray e (0, 0))
 have hkeep : ∀ k, k < w.heap.size → w1.heap[k]? = w.heap[k]? := fun k hk => heap_alloc_old w _ hk
 refine ⟨.value (.slice (some ⟨w.heap.size, 0, none⟩) len len), w1, ?_, .inl ⟨_, rfl, ?_⟩, fun _ => Ext.alloc _ _⟩
 ·simp only [execOp]
  rw [Sem.run_bind, hr]
  rfl
 ·let x : EE := ⟨.slice (some ⟨w.heap.size, 0, none⟩) len len, fun k => k = w.heap.size ∨ ∃ q ∈ is, (E q).F k, True, True⟩
  have hobj : okOb (takeE E i is x) S w1 i (.row none e true sz enc xs) := by
   refine ⟨by rw [takeE_at]; trivial, fun v hv => (by cases hv), ?_⟩
   rw [takeE_at]
   simp only [if_true]
   refine ⟨us'.toList, fun b c k => c < sz ∧ Gz (b * sz + c) k, ⟨by rw [hxl]; exact hlen, .inr ⟨w.heap.size, len, _, by rw [hxl], Nat.zero_le _, heap_alloc_new w _, by rw [hxl]; exact Nat.le_refl _, ?_, by simpa using hlen, by rw [hxl]; exact List.take_of_length_le (Nat.le_of_eq hlen)⟩⟩, fun g hg => .inl (by simp only [Value.ownBlock, x, Option.some.injEq] at hg; exact hg.symm), fun b c k hk => ⟨?_, ?_⟩, fun b c b' c' k hk hk' => ?_, fun b y hb c hc => ?_⟩
   ·have h0 : 0 < sz := by simpa using hsz
    have h2 : len * sz ≤ 16777216 := by simpa using hsmall
    have h3 : len ≤ len * sz := Nat.le_mul_of_pos_right _ h0
    simp only [maxLen]
    omega
   ·obtain ⟨q, hq, hf⟩ := g1 _ k hk.2
    exact .inr ⟨q, hq, hf⟩
   ·have := hGlt _ k hk.2
    simp only [Value.ownBlock, x, ne_eq, Option.some.injEq]
    omega
   ·have e0 := g2 _ _ k hk.2 hk'.2
    have h1 := hk.1
    have h2 := hk'.1
    have e1 : b = b' := by
     have q1 : (b * sz + c) / sz = b := by rw [Nat.mul_comm, Nat.mul_add_div (by omega), Nat.div_eq_of_lt h1, Nat.add_zero]
     have q2 : (b' * sz + c') / sz = b' := by rw [Nat.mul_comm, Nat.mul_add_div (by omega), Nat.div_eq_of_lt h2, Nat.add_zero]
     rw [← q1, e0, q2]
    subst e1
    exact ⟨rfl, by omega⟩
   ·have hbl := (List.getElem?_eq_some_iff.1 hb).1
    have hq : b * sz + c < us.length := by rw [hul, ← hxl]; exact mulLt hbl hc
    obtain ⟨u', e1, e2⟩ := g3 (b * sz + c) hq
    refine ⟨u', e1, ?_⟩
    rw [Nat.zero_add, cellF_at hb hc] at e2
    exact Ow.move _ _ (fun k hk => ⟨hc, hk⟩) (fun k hk => hkeep k (hGlt _ k hk)) e2
  have hW := hI.write (w' := w1) (i := i) (is := is) (x := x) (cutP i is) hli m1 trivial (fun a' ha' => by
    simp only [cutP, Bool.or_eq_false_iff] at ha'
    exact ⟨fun q hq => by
     have := ha'.2
     rw [List.any_eq_false] at this
     simpa using this q hq, fun hn' => (by rw [ha'.1] at hn'; cases hn'), fun hr _ => (by have := ha'.1; rw [reads_names hr] at this; cases this)⟩)
   (fun k hk => by
    rcases hk with hk | ⟨q, hq, hk⟩
    ·exact .inr (.inr ⟨by omega, by subst hk; simp [w1]⟩)
    ·exact .inr (.inl ⟨q, hq, hk⟩))
   (by simp [w1]) rfl rfl rfl (fun k hk _ => hkeep k hk) hobj
  refine ⟨_, S, ?_, denT_puts (s := ⟨cutT (cutP i is) s.tm, (i, some (.row none e true sz enc xs)) :: dels is (cutO (cutP i is) (s.obj i (.row none e true sz enc [])).ob), i + 1⟩) hd hn (denT.cut hW.2 hT) (fun v' e' => ?_), by rw [put_size]; exact hn, by rw [put_defers]; exact hdf⟩
  ·rw [sets_ob, sets_nx]; exact hW.1
  ·cases e'
   exact ⟨by rw [takeE_at]; trivial, by rw [takeE_at], rfl⟩
def halfE (E : Nat → EE) (i : Nat) : Nat → EE := upd E i ⟨(E i).u, fun k => (E i).F k ∧ (E i).u.ownBlock = some k, (E i).live, (E i).rd⟩
def halfS (E : Nat → EE) (S : Nat → Prop) (i : Nat) : Nat → Prop := fun k => S k ∨ ((E i).F k ∧ (E i).u.ownBlock ≠ some k)
end
end Go.Eng
