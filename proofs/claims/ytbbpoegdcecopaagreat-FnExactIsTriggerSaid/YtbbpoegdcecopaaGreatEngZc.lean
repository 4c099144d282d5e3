/- The engine, part Zc: whole numbers converted, a view cleared. -/
import Derived.Test.YtbbpoegdcecopaaGreatEngZb
set_option linter.unusedVariables false
set_option linter.unusedSimpArgs false
namespace Go.Eng
open Go Go.RowKit
theorem wrU8 {x : Int} (h0 : 0 ≤ x) (h1 : x < 256) : IntKind.u8.wrap x = x := by
  simp [IntKind.wrap, IntKind.bits, IntKind.signed]; omega
theorem wrU64 {x : Int} (h0 : 0 ≤ x) (h1 : x < 18446744073709551616) : IntKind.u64.wrap x = x := by
  simp [IntKind.wrap, IntKind.bits, IntKind.signed]; omega
theorem top_den {E : Nat → EE} {S : Nat → Prop} {w : World} {a : AC} {u : Value} (h : denV E S w (.c a) u) : denV E S w (.c .top) u := denC.one (a := a) h
section rules
variable {cx : Cx} {s : St} {dst : Option Nat} {ty : TypeId} {pos : String} {aft : Array Edge}
theorem p_conv {t t' : TypeId} {d : TypeDesc} {x : Operand} {k k' : IntKind} {n : Int} (hs : cx.P.underlying t = some d) (hd : cx.P.underlying t' = some (.int k')) (hx : s.ev x = some (sc (.int k n))) :
    Ps cx s (.convert t t' x) (sc (.int k' (k'.wrap n))) :=
  fun A w E S hI hT => by
    refine ⟨_, fun w' hW _ _ _ _ _ => ?_, sc_mk rfl⟩
    simp only [execOp, sc_den (ev_den hT hx)]
    have : (convert t t' (.int k n)).run cx.P w' = .ok (.int k' (k'.wrap n)) w' := by simp [convert, run_underlying hs, run_underlying hd, Conv.intToInt]
    rw [Sem.run_bind, this]
    rfl
theorem o_conv {t t' : TypeId} {d : TypeDesc} {x : Operand} {k k' : IntKind} {n : Int} (hd0 : okd dst cx.n = true) (hs : cx.P.underlying t = some d) (hd : cx.P.underlying t' = some (.int k')) (hx : s.ev x = some (sc (.int k n))) :
    Os cx s ⟨dst, .convert t t' x, ty, pos, aft, none⟩ (s.sets dst (some (sc (.int k' (k'.wrap n))))) true := o_value hd0 (p_conv hs hd hx)
theorem o_clearv {t et e0 i off n : Nat} {pn : Option Value} {α : Type} {enc : α → Nat → T} {xs : List α} {x : Operand} (z0 : α) {zv : Value} (hx : s.ev x = some (.c (.vw i off n 1))) (hb : alook s.ob i = some (.row pn e0 true 1 enc xs)) (he : cx.P.underlying t = some (.slice et)) (hz : zeroOf cx.P et = some [zv]) (h1 : zv.oneCell' = true) (hz0 : Zr (enc z0 0) zv) (hn : off + n ≤ xs.length) (hpos : 0 < n) :
    Os cx s ⟨none, .call { callee := .builtin .clear, args := #[x], argTypes := #[t] }, ty, pos, aft, none⟩ ⟨cutT (cutR i []) s.tm, (i, some (.row pn e0 true 1 enc (xs.take off ++ List.replicate n z0 ++ xs.drop (off + n)))) :: dels [] (cutO (cutR i []) s.ob), s.nx⟩ false := by
  refine o_gen fun ac w hg => ?_
  obtain ⟨E, S, hI, hT, hsz, hdf⟩ := hg
  obtain ⟨hli, g, m, cap, cap', hu, hux, _⟩ := ev_den hT hx
  obtain ⟨_, hrd, hpn, ho⟩ := hI.obs _ _ hb
  simp only [if_true] at ho
  obtain ⟨cells, G, q1, q2, q3, q4, q5⟩ := ho
  rw [hu] at q1
  have hmx : m = xs.length := by
    rcases q1.2 with ⟨e, _⟩ | ⟨g', c', cur, e, _⟩
    · cases e
    · cases e; rfl
  subst hmx
  have hgF : (E i).F g := q2 g (by rw [hu]; rfl)
  obtain ⟨cur, hg1, hg2, hown⟩ := own_put (us := List.replicate n zv) (q := off) q1 (by simp; omega)
  rw [List.length_replicate] at hg2
  obtain ⟨zz, hz1, hz2⟩ := run_zero hz w
  have hzc : (Builtin.zeroCells zz.cells n).toList = List.replicate n zv := by
    rw [hz2]
    simp [Builtin.zeroCells]
    apply List.ext_getElem
    · simp
    · intro i h1 h2
      simp [Nat.mod_one]
  have hst := run_storeCells_at (P := cx.P) g off e0 (List.replicate n zv) 0 cur.toArray w hg1 (by simpa using hg2) (fun v hv => by rw [List.eq_of_mem_replicate hv]; exact h1)
  simp only [Nat.add_zero] at hst
  have hput : cur.toArray.toList.take off ++ List.replicate n zv ++ cur.toArray.toList.drop (off + (List.replicate n zv).length) = putL cur off (List.replicate n zv) := rfl
  rw [hput] at hst
  have hrun : (Builtin.clear_ #[t] ty #[.slice (some ⟨g, off * 1, none⟩) n cap']).run cx.P w = .ok (.tuple #[]) (w.setRow g (putL cur off (List.replicate n zv)).toArray) := by
    obtain ⟨n', rfl⟩ : ∃ n', n = n' + 1 := ⟨n - 1, by omega⟩
    rw [Nat.mul_one]
    simp [Builtin.clear_, run_underlying he, hz1, hzc, hst]
  have hcl : cells.length = xs.length := by have := q1.1; omega
  have hobj : okOb (takeE E i [] ⟨(E i).u, (E i).F, True, True⟩) S (w.setRow g (putL cur off (List.replicate n zv)).toArray) i (.row pn e0 true 1 enc (xs.take off ++ List.replicate n z0 ++ xs.drop (off + n))) := by
    refine ⟨by rw [takeE_at]; trivial, by rw [takeE_at]; exact hpn, ?_⟩
    rw [takeE_at]
    simp only [if_true]
    have hlen : (xs.take off ++ List.replicate n z0 ++ xs.drop (off + n)).length = xs.length := by simp; omega
    refine ⟨putL cells off (List.replicate n zv), fun b c k => if off ≤ b ∧ b < off + n then False else G b c k, by rw [hlen, hu]; exact hown, q2, fun b c k hk => ?_, fun b c b' c' k hk hk' => ?_, fun b x' hx' c hc => ?_⟩
    · dsimp only at hk
      split at hk
      · exact hk.elim
      · exact q3 b c k hk
    · dsimp only at hk hk'
      split at hk <;> split at hk'
      · exact hk.elim
      · exact hk.elim
      · exact hk'.elim
      · exact q4 b c b' c' k hk hk'
    · obtain rfl : c = 0 := by omega
      rw [Nat.mul_one, Nat.add_zero, putL_get (by simp; omega)]
      simp only [List.length_replicate]
      by_cases hb1 : b < off
      · rw [if_pos hb1]
        rw [List.append_assoc, List.getElem?_append_left (by simp; omega), List.getElem?_take, if_pos hb1] at hx'
        obtain ⟨u', e1, e2⟩ := q5 b x' hx' 0 (by omega)
        rw [Nat.mul_one, Nat.add_zero] at e1
        refine ⟨u', e1, Ow.move (F := G b 0) _ _ (fun k hk => by (try dsimp only); rw [if_neg (by omega)]; exact hk) (fun k hk => setRow_other w g k _ (by rintro rfl; exact (q3 b 0 k hk).2 (by rw [hu]; rfl))) e2⟩
      · rw [if_neg hb1]
        by_cases hb2 : b < off + n
        · rw [if_pos hb2]
          have hzx : x' = z0 := by
            rw [List.getElem?_append_left (by simp; omega), List.getElem?_append_right (by simp; omega), List.getElem?_replicate] at hx'
            split at hx'
            · exact (Option.some.inj hx').symm
            · cases hx'
          subst hzx
          refine ⟨zv, by rw [List.getElem?_replicate, if_pos (by omega)], ?_⟩
          exact Ow.move _ _ (fun _ q => q.elim) (fun _ q => q.elim) (hz0.ow (w := w))
        · rw [if_neg hb2]
          have hlb : (xs.take off ++ List.replicate n z0).length = off + n := by simp; omega
          rw [List.getElem?_append_right (by omega), hlb, List.getElem?_drop, show off + n + (b - (off + n)) = b by omega] at hx'
          obtain ⟨u', e1, e2⟩ := q5 b x' hx' 0 (by omega)
          rw [Nat.mul_one, Nat.add_zero] at e1
          refine ⟨u', e1, Ow.move (F := G b 0) _ _ (fun k hk => by (try dsimp only); rw [if_neg (by omega)]; exact hk) (fun k hk => setRow_other w g k _ (by rintro rfl; exact (q3 b 0 k hk).2 (by rw [hu]; rfl))) e2⟩
  have hW := hI.write (w' := w.setRow g (putL cur off (List.replicate n zv)).toArray) (i := i) (is := []) (x := ⟨(E i).u, (E i).F, True, True⟩) (cutR i []) hli (fun q hq => by simp at hq) trivial (fun a' ha => by
      simp only [cutR, Bool.or_eq_false_iff] at ha
      exact ⟨fun q hq => by simp at hq, fun _ => rfl, fun hr _ => by (rw [ha.1] at hr; cases hr)⟩)
    (fun k hk => .inl hk) (by simp) rfl rfl rfl (fun k _ hf => setRow_other w g k _ (by rintro rfl; exact hf hgF)) hobj
  refine ⟨.value (.tuple #[]), _, ?_, .inl ⟨_, rfl, takeE E i [] ⟨(E i).u, (E i).F, True, True⟩, S, hW.1, denT.cut hW.2 hT, hsz, hdf⟩, fun h => by (cases h)⟩
  have hm : Array.map ac.eval #[x] = #[.slice (some ⟨g, off * 1, none⟩) n cap'] := by simp [hux]
  simp only [execOp, resolve, invoke, builtin, hm, Sem.run_bind, Sem.run_pure, Result.andThen_ok]
  rw [hrun]
  rfl
end rules
end Go.Eng
