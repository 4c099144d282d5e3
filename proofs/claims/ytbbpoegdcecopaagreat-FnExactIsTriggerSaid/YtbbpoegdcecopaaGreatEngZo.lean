/- The engine, part Zo: a row handed over for good, another kind of row handed back; matches. -/
import Derived.Test.YtbbpoegdcecopaaGreatEngZn
set_option linter.unusedVariables false
set_option linter.unusedSimpArgs false
namespace Go.Eng
open Go Go.RowKit
theorem rec_on {motive : Nat → Prop} (h : ∀ n, (∀ m, m < n → motive m) → motive n) : ∀ n, motive n := fun n => Nat.strongRecOn n h
section rules
variable {cx : Cx} {s : St} {dst : Option Nat} {ty : TypeId} {pos : String} {aft : Array Edge}
/-- A call that is handed a row for good and hands back one of another kind. -/
theorem o_callD (i : Nat) {g : FuncId} {xs : Array Operand} {ats : Array TypeId} {cargs : List AV} {pn : Option Value} {e sz : Nat} {α : Type} {enc : α → Nat → T} {l : List α} {e2 sz2 : Nat} {β : Type} {enc2 : β → Nat → T} (l' : List β) {nx' : Nat} (hE : Go.Proofs.Enters cx.P g)
    (hC : ∀ U : Nat → Value, Mu cx.P g cargs [(0, some (.row (some (U 0)) e true sz enc l))] 1 [(0, some (.row none e2 true sz2 enc2 l'))] nx' (.c (.own 0))) (hd : okd dst cx.n = true) (hb : alook s.ob i = some (.row pn e true sz enc l)) (ha : ArgsH s [⟨i, pn, e, sz, α, enc, l, l⟩] xs.toList cargs) :
    Os cx s ⟨dst, .call { callee := .value (.func g), args := xs, argTypes := ats }, ty, pos, aft, none⟩ ((⟨cutT (cutP i []) s.tm, (i, some (.row none e2 true sz2 enc2 l')) :: dels [] (cutO (cutP i []) s.ob), s.nx⟩ : St).sets dst (some (.c (.own i)))) false := by
  intro Q a w hg
  obtain ⟨E, S, hI, hT, hn, hdf⟩ := hg
  obtain ⟨hl, hrd, hpn, ho⟩ := hI.obs _ _ hb
  unfold Oper.wp
  rw [execOp_call_go, hE]
  have hargs : #[] ++ Array.map a.eval xs ++ #[] = (xs.toList.map a.eval).toArray := by
    apply Array.ext'
    simp
  rw [hargs, Oper.upon_enter]
  let hs : List Hd := [⟨i, pn, e, sz, α, enc, l, l⟩]
  let S' : Nat → Prop := fun k => k < w.heap.size ∧ ¬ (E i).F k
  have e0 : mapE E hs 0 = E i := rfl
  have hlive : ∀ j, (mapE E hs j).live → j = 0 := fun j h => by
    match j with
    | 0 => rfl
    | j + 1 => exact h.elim
  have hI0 : Inv ⟨cx.P, g, 0, w, S', handed (mapE E hs)⟩ [(0, some (.row (some (E i).u) e true sz enc l))] 1 (mapE E hs) S' w := by
    refine ⟨fun k h => h.1, fun k h => .inl h, fun j o hj => ?_, fun j j' hij hj hj' => absurd ((hlive j hj).trans (hlive j' hj').symm) hij, fun j hj k hk => ?_, fun j hj => by rw [hlive j hj]; exact Nat.one_pos, Kept.refl _ _⟩
    · rw [alook_cons] at hj
      split at hj
      · rename_i hj0
        subst hj0
        cases hj
        rw [e0]
        refine ⟨hl, by rw [e0]; exact hrd, fun v hv => by rw [e0]; exact Option.some.inj hv, ?_⟩
        rw [e0]
        exact ho
      · simp [alook] at hj
    · have hj0 := hlive j hj
      subst hj0
      rw [e0] at hk
      exact ⟨(hI.fp i hl k hk).1, fun h => h.2 hk, .inr ⟨0, by rw [e0]; exact hl, by rw [e0]; exact hk⟩⟩
  have hSS : ∀ k, S k → S' k := fun k h => ⟨hI.slt k h, fun hf => (hI.fp i hl k hf).2.1 h⟩
  refine (hC (fun _ => (E i).u) 0 w (mapE E hs) S' (xs.toList.map a.eval) hI0 (ha.den hSS hT)).mono ?_
  rintro en w' ⟨u, E', S2, rfl, hI', hu⟩
  obtain ⟨hl', hrd', _, ho'⟩ := hI'.obs 0 _ rfl
  obtain ⟨_, hu0, hu1⟩ := hu
  have hM : ∀ k, handed (mapE E hs) k → (E i).F k := fun k ⟨j, h1, h2⟩ => by
    have := hlive j h1
    subst this
    rwa [e0] at h2
  have hobj : okOb (takeE E i [] ⟨u, (E' 0).F, True, True⟩) S w' i (.row none e2 true sz2 enc2 l') := by
    refine ⟨by rw [takeE_at]; trivial, fun v hv => (by cases hv), ?_⟩
    rw [takeE_at]
    simp only [if_true] at ho' ⊢
    rw [← hu0] at ho'
    exact ho'
  have hW := hI.write (w' := w') (i := i) (is := []) (x := ⟨u, (E' 0).F, True, True⟩) (cutP i []) hl (fun q hq => by simp at hq) trivial (fun a' ha' => by
      simp only [cutP, List.any_nil, Bool.or_false] at ha'
      exact ⟨fun q hq => by simp at hq, fun hn' => (by rw [ha'] at hn'; cases hn'), fun hr _ => by (rw [reads_names hr] at ha'; cases ha')⟩)
    (fun k hk => by
      obtain ⟨h1, _, h3⟩ := hI'.fp 0 hl' k hk
      rcases h3 with h3 | h3
      · exact .inr (.inr ⟨h3, h1⟩)
      · exact .inl (hM k h3))
    hI'.kept.size hI'.kept.os hI'.kept.tape hI'.kept.output (fun k hk hf => hI'.kept.block k hk fun h => hf (hM k h)) hobj
  refine ⟨⟨takeE E i [] ⟨u, (E' 0).F, True, True⟩, S, ?_, denT_puts (s := ⟨cutT (cutP i []) s.tm, (i, some (.row none e2 true sz2 enc2 l')) :: dels [] (cutO (cutP i []) s.ob), s.nx⟩) hd hn (denT.cut hW.2 hT) (fun v' e' => ?_), by rw [put_size]; exact hn, by rw [put_defers]; exact hdf⟩, fun h => by (cases h)⟩
  · rw [sets_ob, sets_nx]
    exact hW.1
  · cases e'
    exact ⟨by rw [takeE_at]; trivial, by rw [takeE_at], hu1⟩
/-- All but one object and one more temporary forgotten, the object called the first. -/
theorem gt_as0b {R : Ending → World → Prop} {todo : List Item} (t i t2 : Nat) {v2 : Value} {pn : Option Value} {e sz : Nat} {deep : Bool} {α : Type} {enc : α → Nat → T} {xs : List α} (ht : alook s.tm t = some (.c (.own i))) (ht2 : alook s.tm t2 = some (sc v2)) (hb : alook s.ob i = some (.row pn e deep sz enc xs)) (hne : Nat.beq t2 t = false)
    (h : Wt cx ⟨[(t, some (.c (.own 0))), (t2, some (sc v2))], [(0, some (.row none e deep sz enc xs))], 1⟩ todo R) : Wt cx s todo R := by
  intro a w hg
  refine h a w ?_
  obtain ⟨E, S, hI, hT, hsz, hdf⟩ := hg
  obtain ⟨h1, h2, h3, h4⟩ := hI.obs _ _ hb
  let X : Nat → EE := fun j => if j = 0 then E i else dead
  have e0 : X 0 = E i := rfl
  have hl : ∀ j, (X j).live → j = 0 := fun j hj => by
    match j, hj with
    | 0, _ => rfl
    | j + 1, hj => exact hj.elim
  refine ⟨X, S, ⟨hI.slt, hI.snew, fun j o hj => ?_, fun j j' hij hj hj' => absurd ((hl j hj).trans (hl j' hj').symm) hij, fun j hj k hk => ?_, fun j hj => by rw [hl j hj]; exact Nat.one_pos, hI.kept⟩, fun t' v' ht' => ?_, hsz, hdf⟩
  · rw [alook_cons] at hj
    split at hj
    · rename_i ej
      subst ej
      cases hj
      refine ⟨by rw [e0]; exact h1, by rw [e0]; exact h2, fun v hv => (by cases hv), ?_⟩
      rw [e0]
      exact h4
    · simp [alook] at hj
  · have ej := hl j hj
    subst ej
    rw [e0] at hk
    exact hI.fp i h1 k hk
  · rw [alook_cons] at ht'
    split at ht'
    · rename_i ej
      subst ej
      cases ht'
      obtain ⟨q1, q2, q3⟩ := hT _ _ ht
      exact ⟨by rw [e0]; exact q1, by rw [e0]; exact q2, q3⟩
    · rw [alook_cons] at ht'
      split at ht'
      · rename_i ej2
        subst ej2
        cases ht'
        have := hT _ _ ht2
        exact ⟨trivial, this.2⟩
      · simp [alook] at ht'
end rules
/-! ### matches -/
def fitStep (b : List Int) (p : Int × Int) : Option (List Int) :=
  if p.1 < 0 then (if -1 - p.1 = p.2 then some b else none)
  else match b[p.1.toNat]? with
    | some y => if y = 10 ∨ y = p.2 then some (b.set p.1.toNat p.2) else none
    | none => none
def fitP : List Int → List (Int × Int) → List Int × Bool
  | b, [] => (b, true)
  | b, p :: ps => match fitStep b p with
    | some b' => fitP b' ps
    | none => (b, false)
theorem fitStep_len {b b' : List Int} {p : Int × Int} (h : fitStep b p = some b') : b'.length = b.length := by
  unfold fitStep at h
  split at h
  · split at h
    · cases h; rfl
    · cases h
  · split at h
    · split at h
      · cases h; simp
      · cases h
    · cases h
theorem fitP_len : ∀ (ps : List (Int × Int)) (b : List Int), (fitP b ps).1.length = b.length
  | [], b => rfl
  | p :: ps, b => by
    unfold fitP
    split
    · rename_i b' h
      rw [fitP_len ps b', fitStep_len h]
    · rfl
theorem fitP_app : ∀ (ps qs : List (Int × Int)) (b q : List Int), fitP b ps = (q, true) → fitP b (ps ++ qs) = fitP q qs
  | [], qs, b, q, h => by
    simp only [fitP, Prod.mk.injEq, and_true] at h
    subst h
    rfl
  | p :: ps, qs, b, q, h => by
    simp only [List.cons_append, fitP] at h ⊢
    cases hs : fitStep b p with
    | some b' =>
      simp only [hs] at h ⊢
      exact fitP_app ps qs b' q h
    | none =>
      simp only [hs] at h
      cases h
section
variable {ts vs b q : List Int} {m n n' : Nat} {t v y : Int}
theorem zip_at (ht : ts[n]? = some t) (hv : vs[n']? = some v) (e : n = m) (e' : n' = m) : (ts.zip vs)[m]? = some (t, v) := by
  subst e e'
  rw [List.getElem?_zip_eq_some]
  exact ⟨ht, hv⟩
theorem fit_more {q' : List Int} (h : fitP b ((ts.zip vs).take m) = (q, true)) (hz : (ts.zip vs)[m]? = some (t, v)) (hs : fitStep q (t, v) = some q') : fitP b ((ts.zip vs).take (m + 1)) = (q', true) := by
  rw [List.take_add_one, hz, fitP_app _ _ _ _ h]
  simp only [Option.toList_some, fitP, hs]
theorem fit_bad (h : fitP b ((ts.zip vs).take m) = (q, true)) (hz : (ts.zip vs)[m]? = some (t, v)) (hs : fitStep q (t, v) = none) : fitP b (ts.zip vs) = (q, false) := by
  have hm := (List.getElem?_eq_some_iff.1 hz).1
  have hz2 := (List.getElem?_eq_some_iff.1 hz).2
  rw [← List.take_append_drop m (ts.zip vs), fitP_app _ _ _ _ h, List.drop_eq_getElem_cons hm, hz2]
  simp only [fitP, hs]
theorem fit_end (h : fitP b ((ts.zip vs).take m) = (q, true)) (hm : ts.length ≤ m) : fitP b (ts.zip vs) = (q, true) := by
  rw [← h, List.take_of_length_le]
  rw [List.length_zip]
  omega
theorem fs_neg (ht : t < 0) (hv : -1 - t = v) : fitStep q (t, v) = some q := by unfold fitStep; rw [if_pos ht, if_pos hv]
theorem fs_neg_bad (ht : t < 0) (hv : -1 - t ≠ v) : fitStep q (t, v) = none := by unfold fitStep; rw [if_pos ht, if_neg hv]
theorem fs_set (ht : ¬ t < 0) (hy : q[t.toNat]? = some y) (hv : y = 10 ∨ y = v) : fitStep q (t, v) = some (q.set t.toNat v) := by
  unfold fitStep; rw [if_neg ht]; simp only [hy]; rw [if_pos hv]
theorem fs_bad (ht : ¬ t < 0) (hy : q[t.toNat]? = some y) (h1 : y ≠ 10) (h2 : y ≠ v) : fitStep q (t, v) = none := by
  unfold fitStep; rw [if_neg ht]; simp only [hy]; rw [if_neg (fun h => h.elim h1 h2)]
theorem fs_same (ht : ¬ t < 0) (hy : q[t.toNat]? = some y) (hv : y = v) : fitStep q (t, v) = some q := by
  rw [fs_set ht hy (.inr hv)]
  subst hv
  obtain ⟨h1, h2⟩ := List.getElem?_eq_some_iff.1 hy
  rw [← h2, List.set_getElem_self]
end
def fitF (a f : Int × List Int) (b : List Int) : List Int × Bool := if a.1 = f.1 then fitP b (a.2.zip f.2) else (b, false)
theorem fitF_len (a f : Int × List Int) (b : List Int) : (fitF a f b).1.length = b.length := by
  unfold fitF
  split
  · exact fitP_len _ _
  · rfl
theorem fitF_yes {r r2 : Int} {ts vs b : List Int} {x : List Int × Bool} (h : r = r2) (e : fitP b (ts.zip vs) = x) : fitF (r, ts) (r2, vs) b = x := (if_pos h).trans e
theorem fitF_no {r r2 : Int} {ts vs b : List Int} (h : ¬ r = r2) : fitF (r, ts) (r2, vs) b = (b, false) := if_neg h
def matchL (fs : List (Int × List Int)) : List (Int × List Int) → List Int → List (List Int)
  | [], b => [b]
  | a :: al, b => fs.flatMap fun f => if (fitF a f b).2 = true then matchL fs al (fitF a f b).1 else []
theorem matchL_len (fs : List (Int × List Int)) : ∀ (l : List (Int × List Int)) (b : List Int), (matchL fs l b).length ≤ fs.length ^ l.length
  | [], b => by simp [matchL]
  | a :: al, b => by
    unfold matchL
    have h : ∀ gs : List (Int × List Int), (gs.flatMap fun f => if (fitF a f b).2 = true then matchL fs al (fitF a f b).1 else []).length ≤ gs.length * fs.length ^ al.length := by
      intro gs
      induction gs with
      | nil => simp
      | cons g gs ih =>
        rw [List.flatMap_cons, List.length_append, List.length_cons, Nat.succ_mul]
        have h1 : (if (fitF a g b).2 = true then matchL fs al (fitF a g b).1 else []).length ≤ fs.length ^ al.length := by
          split
          · exact matchL_len fs al _
          · simp
        omega
    have := h fs
    rw [List.length_cons, Nat.pow_succ, Nat.mul_comm]
    exact this
theorem matchL_most {fs l : List (Int × List Int)} (hf : fs.length ≤ 30) (hl : l.length ≤ 3) (b : List Int) : (matchL fs l b).length ≤ 27000 := by
  refine Nat.le_trans (matchL_len fs l b) ?_
  calc fs.length ^ l.length ≤ 30 ^ l.length := Nat.pow_le_pow_left hf _
    _ ≤ 30 ^ 3 := Nat.pow_le_pow_right (by decide) hl
/-- What the first m facts give. -/
def matchM (fs : List (Int × List Int)) (l : List (Int × List Int)) (b : List Int) (m : Nat) : List (List Int) := match l with
  | [] => [b]
  | a :: al => (fs.take m).flatMap fun f => if (fitF a f b).2 = true then matchL fs al (fitF a f b).1 else []
section
variable {fs l : List (Int × List Int)} {b : List Int} {m n n' : Nat} {a f : Int × List Int}
theorem matchM_zero (ha : l[n]? = some a) : matchM fs l b 0 = [] := by
  cases l with
  | nil => simp at ha
  | cons a l => simp [matchM]
theorem matchM_step (ha : l[n]? = some a) (e : n = 0) (hf : fs[n']? = some f) (e' : n' = m) : matchM fs l b (m + 1) = matchM fs l b m ++ (if (fitF a f b).2 = true then matchL fs (l.drop 1) (fitF a f b).1 else []) := by
  subst e e'
  cases l with
  | nil => simp at ha
  | cons a' l =>
    cases ha
    simp only [matchM]
    rw [List.take_add_one, hf, List.flatMap_append]
    simp
theorem matchM_yes (ha : l[n]? = some a) (e : n = 0) (hf : fs[n']? = some f) (e' : n' = m) (h : (fitF a f b).2 = true) : matchM fs l b (m + 1) = matchM fs l b m ++ matchL fs (l.drop 1) (fitF a f b).1 := by
  rw [matchM_step ha e hf e', if_pos h]
theorem matchM_no (ha : l[n]? = some a) (e : n = 0) (hf : fs[n']? = some f) (e' : n' = m) (h : (fitF a f b).2 = false) : matchM fs l b (m + 1) = matchM fs l b m := by
  rw [matchM_step ha e hf e', h]
  simp
theorem matchM_end (hl : l ≠ []) (hm : fs.length ≤ m) : matchM fs l b m = matchL fs l b := by
  cases l with
  | nil => exact absurd rfl hl
  | cons a l =>
    simp only [matchM, matchL]
    rw [List.take_of_length_le hm]
theorem matchM_le (hl : l ≠ []) : (matchM fs l b m).length ≤ (matchL fs l b).length := by
  cases l with
  | nil => exact absurd rfl hl
  | cons a l =>
    simp only [matchM, matchL]
    have key : ∀ g : Int × List Int → List (List Int), ((fs.take m).flatMap g).length ≤ (fs.flatMap g).length := fun g => by
      conv => rhs; rw [← List.take_append_drop m fs]
      rw [List.flatMap_append, List.length_append]
      omega
    exact key _
theorem matchM_room (hl : l ≠ []) (ha : l[n]? = some a) (e : n = 0) (hf : fs[n']? = some f) (e' : n' = m) (h : (fitF a f b).2 = true) : (matchM fs l b m).length + (matchL fs (l.drop 1) (fitF a f b).1).length ≤ (matchL fs l b).length := by
  have := matchM_le (fs := fs) (b := b) (m := m + 1) hl
  rw [matchM_yes ha e hf e' h, List.length_append] at this
  exact this
theorem ne_nil_of {l : List (Int × List Int)} (h : ¬ ((l.length : Nat) : Int) = 0) : l ≠ [] := fun e => by subst e; exact h rfl
theorem matchM_z (h : ¬ ((l.length : Nat) : Int) = 0) : matchM fs l b 0 = [] := by
  cases l with
  | nil => exact absurd rfl h
  | cons a l => simp [matchM]
theorem matchL_nil (h : ((l.length : Nat) : Int) = 0) : matchL fs l b = [b] := by
  cases l with
  | nil => simp [matchL]
  | cons a l => simp at h; omega
theorem room_m {l2 : List (Int × List Int)} {b2 : List Int} (hf : fs.length ≤ 30) (hl : l.length ≤ 3) (hne : l ≠ []) (hl2 : l2.length ≤ 3) : (matchM fs l b m).length + (matchL fs l2 b2).length ≤ 54000 := by
  have e8 := matchL_most hf hl b
  have e9 := matchM_le (fs := fs) (b := b) (m := m) hne
  have e10 := matchL_most hf hl2 b2
  omega
theorem mem_tail {x : Int × List Int} {k : Nat} (h : x ∈ (l.take k).drop 1) : x ∈ l := List.mem_of_mem_take (List.mem_of_mem_drop h)
theorem drop_ne {k : Int} (h : ¬ k = ((l.length : Nat) : Int)) (hk : 0 ≤ k ∧ k ≤ l.length) : l.drop k.toNat ≠ [] := fun e => by
  have := congrArg List.length e
  rw [List.length_drop, List.length_nil] at this
  omega
theorem drop_at0 {n : Nat} {z : Int × List Int} (h : l[n]? = some z) : (l.drop n)[0]? = some z := by rw [List.getElem?_drop]; exact h
theorem room_w {k : Int} {l2 : List (Int × List Int)} {b2 : List Int} (hf : fs.length ≤ 30) (hl : l.length ≤ 3) (h : ¬ k = ((l.length : Nat) : Int)) (hk : 0 ≤ k ∧ k ≤ l.length) (hl2 : l2.length ≤ 3) : (matchM fs (l.drop k.toNat) b m).length + (matchL fs l2 b2).length ≤ 54000 := room_m hf (by rw [List.length_drop]; omega) (drop_ne h hk) hl2
theorem walk_yes {k k2 : Int} {b' : List Int} (ha : l[k.toNat]? = some a) (hf : fs[n']? = some f) (e' : n' = m) (h : (fitF a f b).2 = true) (hk : k2.toNat = k.toNat + 1) (hb' : (fitF a f b).1 = b') : matchM fs (l.drop k.toNat) b m ++ matchL fs (l.drop k2.toNat) b' = matchM fs (l.drop k.toNat) b (m + 1) := by
  rw [matchM_yes (drop_at0 ha) rfl hf e' h, List.drop_drop, hk, hb']
theorem walk_no {k : Int} (ha : l[k.toNat]? = some a) (hf : fs[n']? = some f) (e' : n' = m) (h : (fitF a f b).2 = false) : matchM fs (l.drop k.toNat) b m = matchM fs (l.drop k.toNat) b (m + 1) := (matchM_no (drop_at0 ha) rfl hf e' h).symm
theorem walk_z {k : Int} (h : ¬ k = ((l.length : Nat) : Int)) (hk : 0 ≤ k ∧ k ≤ l.length) : matchM fs (l.drop k.toNat) b 0 = [] := by
  have := drop_ne h hk
  cases hd : l.drop k.toNat with
  | nil => exact absurd hd this
  | cons a l => simp [matchM]
theorem walk_nil {k : Int} (h : k = ((l.length : Nat) : Int)) : matchL fs (l.drop k.toNat) b = [b] := by
  rw [h, show ((l.length : Nat) : Int).toNat = l.length from rfl, List.drop_length]
  simp [matchL]
end
/-! what may be matched -/
def mtOk (rs : Rels) (fs l : Atoms) : Bool := instOk rs fs && (decide (l.length ≤ 3) && !l.any (badA rs))
def hasE (rs : Rels) (fs l : Atoms) (b : List Int) : Bool := mtOk rs fs l && (decide (b.length = 5) && decide (0 < (matchL fs l b).length))
theorem factOk_len {rs : Rels} {r : Int} {ts : List Int} (h : factOk rs r ts = true) : ∃ x, rs[r.toNat]? = some x ∧ ((ts.length : Nat) : Int) = x.2.1 := by
  unfold factOk at h
  simp only [Bool.and_eq_true] at h
  have h4 := h.2.2.1
  cases hx : rs[r.toNat]? with
  | none => rw [hx] at h4; cases h4
  | some x =>
    rw [hx] at h4
    exact ⟨x, rfl, by simpa using h4⟩
theorem inst_fact {rs : Rels} {fs : Atoms} (h : instOk rs fs = true) {f : Int × List Int} (hf : f ∈ fs) : factOk rs f.1 f.2 = true := by
  unfold instOk at h
  simp only [Bool.and_eq_true, decide_eq_true_eq] at h
  obtain ⟨j, hj⟩ := List.getElem?_of_mem hf
  have h1 := h.1 j (List.getElem?_eq_some_iff.1 hj).1
  rw [instStep_at hj] at h1
  simp only [Bool.and_eq_true] at h1
  exact h1.1
theorem inst_len {rs : Rels} {fs : Atoms} (h : instOk rs fs = true) : fs.length ≤ 30 := by
  unfold instOk at h
  simp only [Bool.and_eq_true, decide_eq_true_eq] at h
  exact h.2.2
theorem mt_pre {rs : Rels} {fs l : Atoms} (h : mtOk rs fs l = true) : fs.length ≤ 30 ∧ l.length ≤ 3 ∧ (∀ a ∈ l, ∀ f ∈ fs, a.1 = f.1 → a.2.length = f.2.length) ∧ (∀ a ∈ l, (∀ t ∈ a.2, -10 ≤ t ∧ t ≤ 4) ∧ a.2.length ≤ 4611686018427387904) := by
  unfold mtOk at h
  simp only [Bool.and_eq_true, decide_eq_true_eq, Bool.not_eq_true', List.any_eq_false] at h
  obtain ⟨h1, h2, h3⟩ := h
  have ha : ∀ a ∈ l, atomOk rs a.1 a.2 = true := fun a ha => by
    have := h3 a ha
    simpa [badA] using this
  refine ⟨inst_len h1, h2, fun a haa f hf e => ?_, fun a haa => ⟨fun t ht => ?_, ?_⟩⟩
  · obtain ⟨_, _, _, _, x, e1, e2⟩ := atomOk_rels (ha a haa)
    obtain ⟨y, e3, e4⟩ := factOk_len (inst_fact h1 hf)
    rw [e, e3] at e1
    cases e1
    omega
  · have h4 := ha a haa
    unfold atomOk at h4
    simp only [Bool.and_eq_true, Bool.not_eq_true', List.any_eq_false] at h4
    have h5 := h4.2.2.2 t ht
    have h6 : termOk t = true := by simpa using h5
    unfold termOk at h6
    exact of_decide_eq_true h6
  · have := (atomOk_rels (ha a haa)).2.2.2.1
    omega
end Go.Eng
