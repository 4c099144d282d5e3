import Derived.Test.YthcggkagkihamaaGreatEngF
import Derived.Laws.BytesArg
set_option linter.unusedVariables false
set_option linter.unusedSimpArgs false
namespace Go.Eng
open Go Go.RowKit
section rules
variable {cx : Cx} {s : St} {dst : Option Nat} {ty : TypeId} {pos : String} {aft : Array Edge}
def shD (op : BinOp) (k : IntKind) (a b : Int) : Option Value :=
 match op with
 | .shl => if b < 0 then none else some (.int k (k.wrap (a * 2 ^ (min b.toNat k.bits))))
 | .shr => if b < 0 then none else some (.int k (a.fdiv (2 ^ (min b.toNat k.bits))))
 | _ => none
theorem run_shD {P : Program} {op : BinOp} {k k' : IntKind} {a b : Int} {v : Value} (h : shD op k a b = some v) (t : TypeId) (x y : Operand) (w : World) : (do eqGuard op t x y (.int k a) (.int k' b); binOp op t (.int k a) (.int k' b) : Sem Value).run P w = .ok v w ∧ v.oneCell' = true := by
 cases op <;> simp only [shD] at h <;> first
  | (cases h; done)
  | (split at h <;> first | (cases h; done) | (cases h; constructor <;> simp_all [eqGuard, binOp, Op.shift, Value.oneCell'] <;> (intro hh; omega)))
theorem p_sh {op : BinOp} {t yt : TypeId} {x y : Operand} {kk kk' : IntKind} {a b : Int} {v : Value} (hx : s.ev x = some (sc (.int kk a))) (hy : s.ev y = some (sc (.int kk' b))) (hv : shD op kk a b = some v) :
  Ps cx s (.binOp op t x y yt) ((sc v)) :=
 fun A w E S hI hT => by
  have h1 := sc_den (ev_den hT hx)
  have h2 := sc_den (ev_den hT hy)
  have h3 := fun w' => (run_shD (P := cx.P) (k' := kk') hv t x y w').1
  have h4 := (run_shD (P := cx.P) (k' := kk') hv t x y w).2
  refine ⟨v, fun w' hW _ _ _ _ _ => ?_, sc_mk h4⟩
  simp only [execOp, h1, h2]
  rw [Sem.run_bind, h3]
  rfl
theorem o_sh {op : BinOp} {t yt : TypeId} {x y : Operand} {kk kk' : IntKind} {a b : Int} {v : Value} (hd : okd dst cx.n = true) (hx : s.ev x = some (sc (.int kk a))) (hy : s.ev y = some (sc (.int kk' b))) (hv : shD op kk a b = some v) :
  Os cx s ⟨dst, .binOp op t x y yt, ty, pos, aft, none⟩ (s.sets dst (some (sc v))) true := o_value hd (p_sh hx hy hv)
def encU : Int → Nat → T := fun n _ => .v (.int .u8 n)
def bytesOf (l : List Int) : List UInt8 := l.map fun n => UInt8.ofNat n.toNat
theorem run_bytes {P : Program} {w : World} {S : Nat → Prop} {xs : List Int} {u : Value} {t t' e : TypeId} (hs : P.underlying t = some (.slice e)) (he : P.underlying e = some (.int .u8)) (hd : P.underlying t' = some .string) (h : Rd w S (.sl 1 encU xs) u) :
  ∀ w', Ext w w' → (convert t t' u).run P w' = .ok (.string (mkS (bytesOf xs))) w' := by
 intro w' hW
 obtain ⟨A, cap, rfl, hc, hr⟩ := h
 cases A with
 | none =>
  have : xs = [] := by
   cases xs with
   | nil => rfl
   | cons x xs =>
    obtain ⟨ad, h1, _⟩ := hr 0 x rfl
    cases h1
  subst this
  rw [run_convert_bytes_nil w' t e hs he _ _ t' hd]
  rfl
 | some ad =>
  rw [run_convert_bytes_string w' t t' e _ _ cap hs he hd]
  have hl : (loadCells ad xs.length).run P w' = .ok (xs.map (Value.int .u8)).toArray w' := by
   have := run_loadCells_list (P := P) w' ad (xs.map (Value.int .u8)) (fun j v hj => by
    rw [List.getElem?_map] at hj
    obtain ⟨x, hx, rfl⟩ := Option.map_eq_some_iff.mp hj
    obtain ⟨ad', h1, h2, h3⟩ := hr j x hx
    cases h1
    obtain ⟨u', h4, h5⟩ := h3 0 Nat.one_pos
    rw [Nat.mul_one, Nat.add_zero] at h4
    rw [hW.cell h4, h5.1])
   simpa using this
  rw [run_bytesToString w' _ _ cap xs hl, foldl_push_bytes]
  simp [bytesOf, mkS, ByteArray.empty, ByteArray.emptyWithCapacity]
  rfl
theorem p_convBSo {t t' e e0 i : TypeId} {x : Operand} {pn : Option Value} {deep : Bool} {xs : List Int} (hs : cx.P.underlying t = some (.slice e)) (he : cx.P.underlying e = some (.int .u8)) (hd : cx.P.underlying t' = some .string) (hx : s.ev x = some (.c (.own i))) (hb : alook s.ob i = some (.row pn e0 deep 1 encU xs)) :
  Ps cx s (.convert t t' x) (sc (.string (mkS (bytesOf xs)))) :=
 fun A w E S hI hT => by
  refine ⟨_, fun w' hW _ _ _ _ _ => ?_, sc_mk rfl⟩
  obtain ⟨_, hu, _⟩ := ev_den hT hx
  simp only [execOp, hu]
  rw [Sem.run_bind, run_bytes hs he hd (row_rd hI hb) w' hW]
  rfl
theorem o_convBSo {t t' e e0 i : TypeId} {x : Operand} {pn : Option Value} {deep : Bool} {xs : List Int} (hd0 : okd dst cx.n = true) (hs : cx.P.underlying t = some (.slice e)) (he : cx.P.underlying e = some (.int .u8)) (hd : cx.P.underlying t' = some .string) (hx : s.ev x = some (.c (.own i))) (hb : alook s.ob i = some (.row pn e0 deep 1 encU xs)) :
  Os cx s ⟨dst, .convert t t' x, ty, pos, aft, none⟩ (s.sets dst (some (sc (.string (mkS (bytesOf xs)))))) true := o_value hd0 (p_convBSo hs he hd hx hb)
end rules
theorem loop_five {n : Nat} (h : n = 1 ∨ n = 2 ∨ n = 4) : (List.replicate n (10 : Int) ++ List.replicate (5 - n) 0).take n ++ ((List.replicate n (10 : Int) ++ List.replicate (5 - n) 0).take n).take (min n (5 - n)) ++ (List.replicate n (10 : Int) ++ List.replicate (5 - n) 0).drop (n + min n (5 - n)) = List.replicate (n + min n (5 - n)) 10 ++ List.replicate (5 - (n + min n (5 - n))) 0 := by
 rcases h with rfl | rfl | rfl <;> rfl
end Go.Eng

set_option linter.unusedVariables false
set_option linter.unusedSimpArgs false
namespace Go.Eng
open Go Go.RowKit
section rules
variable {cx : Cx} {s : St} {R : Ending → World → Prop} {todo : List Item}
def posN : List Nat → Nat → Option Nat
 | [], _ => none
 | i :: r, k => cond (Nat.beq i k) (some 0) ((posN r k).map (· + 1))
def AC.ren (is : List Nat) : AC → AC
 | .own i => match posN is i with | some j => .own j | none => .top
 | .t none x => .t none x
 | _ => .top
def AV.ren (is : List Nat) : AV → AV
 | .c a => .c (a.ren is)
 | .agg cs => .agg (cs.map (AC.ren is))
 | .tup vs => .tup (vs.map fun x => (x.1, x.2.map (AC.ren is)))
def renT (is : List Nat) (l : List (Nat × Option AV)) : List (Nat × Option AV) := l.map fun x => (x.1, x.2.map (AV.ren is))
def unpin : Option Ob → Option Ob
 | some (.row _ e deep sz enc xs) => some (.row none e deep sz enc xs)
 | _ => none
def renO (ob : List (Nat × Option Ob)) : List Nat → Nat → List (Nat × Option Ob)
 | [], _ => []
 | i :: is, j => (j, unpin (alook ob i)) :: renO ob is (j + 1)
def nodupN : List Nat → Bool
 | [] => true
 | i :: r => (r.all fun k => !(Nat.beq i k)) && nodupN r
theorem posN_get : ∀ {is : List Nat} {k j : Nat}, posN is k = some j → is[j]? = some k
 | [], k, j, h => by simp [posN] at h
 | i :: r, k, j, h => by
  unfold posN at h
  cases hb : Nat.beq i k
  ·rw [hb] at h
   simp only [cond_false] at h
   obtain ⟨j', h1, rfl⟩ := Option.map_eq_some_iff.mp h
   exact (posN_get (is := r) h1 : r[j']? = some k)
  ·rw [hb] at h
   cases h
   rw [Nat.eq_of_beq_eq_true hb]
   rfl
theorem nodupN_get : ∀ {is : List Nat}, nodupN is = true → ∀ {j j' k : Nat}, is[j]? = some k → is[j']? = some k → j = j'
 | [], _, j, j', k, h, _ => by simp at h
 | i :: r, hn, j, j', k, h, h' => by
  unfold nodupN at hn
  rw [Bool.and_eq_true, List.all_eq_true] at hn
  have no : ∀ q, r[q]? = some i → False := fun q hq => by
   have := hn.1 i (List.mem_of_getElem? hq)
   simp at this
  match j, j' with
  | 0, 0 => rfl
  | 0, q + 1 => cases h; exact (no q h').elim
  | q + 1, 0 => cases h'; exact (no q h).elim
  | q + 1, q' + 1 => rw [nodupN_get hn.2 (show r[q]? = some k from h) (show r[q']? = some k from h')]
theorem alook_renO {ob : List (Nat × Option Ob)} : ∀ {is : List Nat} {st j : Nat} {o : Ob}, alook (renO ob is st) j = some o → ∃ q i, j = st + q ∧ is[q]? = some i ∧ unpin (alook ob i) = some o
 | [], st, j, o, h => by simp [renO, alook] at h
 | i :: r, st, j, o, h => by
  unfold renO at h
  rw [alook_cons] at h
  split at h
  ·rename_i e
   exact ⟨0, i, by omega, rfl, h⟩
  ·obtain ⟨q, i', h1, h2, h3⟩ := alook_renO h
   exact ⟨q + 1, i', by omega, h2, h3⟩
theorem unpin_some {x : Option Ob} {o : Ob} (h : unpin x = some o) : ∃ (pn : Option Value) (e : Nat) (deep : Bool) (sz : Nat) (α : Type) (enc : α → Nat → T) (xs : List α), x = some (.row pn e deep sz enc xs) ∧ o = .row none e deep sz enc xs := by
 cases x with
 | none => simp [unpin] at h
 | some x =>
  cases x with
  | box cs => simp [unpin] at h
  | row pn e deep sz enc xs => cases h; exact ⟨_, _, _, _, _, _, _, rfl, rfl⟩
  | pbox v cs => simp [unpin] at h
  | bag => simp [unpin] at h
theorem ren_c {is : List Nat} {E X : Nat → EE} {S : Nat → Prop} {w : World} (hX : ∀ j i, is[j]? = some i → X j = E i) {a : AC} {u : Value} (h : denC E S w a u) : denC X S w (a.ren is) u := by
 have ht : u.oneCell' = true := h.one
 cases a with
 | own i =>
  show denC X S w (match posN is i with | some j => AC.own j | none => AC.top) u
  cases hp : posN is i with
  | none => exact ht
  | some j =>
   have := hX j i (posN_get hp)
   obtain ⟨h1, h2, h3⟩ := h
   exact ⟨by rw [this]; exact h1, by rw [this]; exact h2, h3⟩
 | t r x =>
  cases r with
  | none => exact ⟨trivial, h.2⟩
  | some i => exact ht
 | _ => exact ht
theorem ren_l {is : List Nat} {E X : Nat → EE} {S : Nat → Prop} {w : World} (hX : ∀ j i, is[j]? = some i → X j = E i) {cs : List AC} {us : List Value} (h : denL E S w cs us) : denL X S w (cs.map (AC.ren is)) us := by
 obtain ⟨hl, h⟩ := h
 refine ⟨by rw [hl, List.length_map], fun j c hc => ?_⟩
 rw [List.getElem?_map] at hc
 obtain ⟨c0, h0, rfl⟩ := Option.map_eq_some_iff.mp hc
 obtain ⟨u', h1, h2⟩ := h j c0 h0
 exact ⟨u', h1, ren_c hX h2⟩
theorem ren_v {is : List Nat} {E X : Nat → EE} {S : Nat → Prop} {w : World} (hX : ∀ j i, is[j]? = some i → X j = E i) {v : AV} {u : Value} (h : denV E S w v u) : denV X S w (v.ren is) u := by
 cases v with
 | c a => exact ren_c hX h
 | agg cs => obtain ⟨us, h1, h2⟩ := h; exact ⟨us, h1, ren_l hX h2⟩
 | tup vs =>
  obtain ⟨us, h1, hl, h2⟩ := h
  refine ⟨us, h1, by rw [hl, List.length_map], fun j b cs hc => ?_⟩
  rw [List.getElem?_map] at hc
  obtain ⟨⟨b0, c0⟩, h0, he⟩ := Option.map_eq_some_iff.mp hc
  cases he
  obtain ⟨u', h3, h4⟩ := h2 j b0 c0 h0
  refine ⟨u', h3, ?_⟩
  unfold denB at h4 ⊢
  split
  ·rename_i hb
   rw [if_pos hb] at h4
   obtain ⟨us', q1, q2⟩ := h4
   exact ⟨us', q1, ren_l hX q2⟩
  ·rename_i hb
   rw [if_neg hb] at h4
   exact ren_l hX h4
theorem gt_as (is : List Nat) (hd : nodupN is = true) (h : Wt cx ⟨renT is s.tm, renO s.ob is 0, is.length⟩ todo R) (hl : (is.all fun i => (unpin (alook s.ob i)).isSome) = true) : Wt cx s todo R := by
 intro a w hg
 refine h a w ?_
 obtain ⟨E, S, hI, hT, hsz, hdf⟩ := hg
 let X : Nat → EE := fun j => match is[j]? with | some i => E i | none => dead
 have hX : ∀ j i, is[j]? = some i → X j = E i := fun j i hj => by
  show (match is[j]? with | some i => E i | none => dead) = _
  rw [hj]
 have hlv : ∀ j, (X j).live → ∃ i, is[j]? = some i ∧ X j = E i := fun j hj => by
  cases hp : is[j]? with
  | none =>
   have : X j = dead := by
    show (match is[j]? with | some i => E i | none => dead) = _
    rw [hp]
   rw [this] at hj
   exact hj.elim
  | some i => exact ⟨i, rfl, hX j i hp⟩
 refine ⟨X, S, ⟨hI.slt, hI.snew, fun j o hj => ?_, fun j j' hij hj hj' k hk hk' => ?_, fun j hj k hk => ?_, fun j hj => ?_, hI.kept⟩, fun t' v' ht' => ?_, hsz, hdf⟩
 ·obtain ⟨q, i, rfl, h1, h2⟩ := alook_renO hj
  rw [Nat.zero_add]
  obtain ⟨pn, e, deep, sz, α, enc, xs, h3, rfl⟩ := unpin_some h2
  obtain ⟨q1, q2, q3, q4⟩ := hI.obs _ _ h3
  refine ⟨by rw [hX _ _ h1]; exact q1, by rw [hX _ _ h1]; exact q2, fun v hv => (by cases hv), ?_⟩
  rw [hX _ _ h1]
  exact q4
 ·obtain ⟨i, h1, h2⟩ := hlv j hj
  obtain ⟨i', h1', h2'⟩ := hlv j' hj'
  rw [h2] at hj hk
  rw [h2'] at hj' hk'
  refine hI.dis i i' (fun e => hij ?_) hj hj' k hk hk'
  subst e
  exact nodupN_get hd h1 h1'
 ·obtain ⟨i, h1, h2⟩ := hlv j hj
  rw [h2] at hj hk
  exact hI.fp i hj k hk
 ·obtain ⟨i, h1, _⟩ := hlv j hj
  exact (List.getElem?_eq_some_iff.1 h1).1
 ·have : ∀ (l : List (Nat × Option AV)), alook (renT is l) t' = (alook l t').map (AV.ren is) := by
   intro l
   induction l with
   | nil => rfl
   | cons p r ih =>
    obtain ⟨k, v⟩ := p
    show alook ((k, v.map (AV.ren is)) :: renT is r) t' = _
    rw [alook_cons, alook_cons]
    split
    ·rfl
    ·exact ih
  rw [this] at ht'
  obtain ⟨v0, h0, rfl⟩ := Option.map_eq_some_iff.mp ht'
  exact ren_v hX (hT _ _ h0)
end rules
theorem ded_five {fs l : Atoms} {m : Nat} {y : List Int} (h : y ∈ dedL ((matchL fs l freeB).take m)) : y.length = 5 := matchL_five fs l freeB y (List.mem_of_mem_take (dedL_mem _ _ h))
theorem ded_room {fs l : Atoms} {m : Nat} (hf : fs.length ≤ 30) (hl : l.length ≤ 3) : (dedL ((matchL fs l freeB).take m)).length ≤ 27000 := by
 have h1 := dedL_len ((matchL fs l freeB).take m)
 have h2 := matchL_most hf hl freeB
 rw [List.length_take] at h1
 omega
theorem hasR_more {q : List (List Int)} {x : List Int} {k : Nat} (h : hasR (q.take k) x = true) : true = hasR (q.take (k + 1)) x := by
 unfold hasR at h ⊢
 rw [List.any_eq_true] at h
 obtain ⟨y, h1, h2⟩ := h
 refine (List.any_eq_true.2 ⟨y, ?_, h2⟩).symm
 rw [List.take_add_one]
 exact List.mem_append_left _ h1
theorem hasR_zero {q : List (List Int)} {x : List Int} : hasR (q.take 0) x = false := by rw [List.take_zero]; rfl
theorem hasR_new {q : List (List Int)} {y x : List Int} {k n : Nat} (h : hasR (q.take k) x = false) (hy : q[n]? = some y) (e : n = k) : decide (cmpL y x = 0) = hasR (q.take (k + 1)) x := by
 rw [hasR_step hy e, h, Bool.false_or]
 exact decide_eq_decide.2 (cmpL_zero _ _)
theorem findL_no {rs : Rels} {fs l : Atoms} (h : mtOk rs fs l = false) : [] = findL rs fs l := by unfold findL; rw [h]; rfl
theorem findL_yes {rs : Rels} {fs l : Atoms} {m : Nat} (h : mtOk rs fs l = true) (hm : (matchL fs l freeB).length ≤ m) : dedL ((matchL fs l freeB).take m) = findL rs fs l := by unfold findL; rw [if_pos h, List.take_of_length_le hm]
theorem filt_take {p : List Int → Bool} {L : List (List Int)} {m n : Nat} {z : List Int} (hz : L[n]? = some z) (e : n = m) : (L.take (m + 1)).filter p = if p z = true then (L.take m).filter p ++ [z] else (L.take m).filter p := by
 subst e
 rw [List.take_add_one, hz, List.filter_append]
 show _ ++ [z].filter p = _
 cases h : p z <;> simp [List.filter, h]
theorem actL_no {rs : Rels} {fs a0 a1 : Atoms} {a2 : Bool} {a3 a4 : Int} (h : depOk rs a0 a1 a2 a3 a4 = false) : [] = actL rs fs a0 a1 a2 a3 a4 := by unfold actL; rw [h]; rfl
theorem actL_yes {rs : Rels} {fs a0 a1 : Atoms} {a2 : Bool} {a3 a4 : Int} {m : Nat} (h : depOk rs a0 a1 a2 a3 a4 = true) (hm : (findL rs fs a0).length ≤ m) : ((findL rs fs a0).take m).filter (actOk rs fs a0 a1 a2 a3 a4) = actL rs fs a0 a1 a2 a3 a4 := by unfold actL; rw [if_pos h, List.take_of_length_le hm]
theorem filt_room {p : List Int → Bool} {L : List (List Int)} {m : Nat} (h : L.length ≤ 27000) : ((L.take m).filter p).length ≤ 27000 := by
 have := List.length_filter_le p (L.take m)
 rw [List.length_take] at this
 omega
theorem actL_five {rs : Rels} {fs a0 a1 : Atoms} {a2 : Bool} {a3 a4 : Int} {r : List Int} (h : r ∈ actL rs fs a0 a1 a2 a3 a4) : r ∈ findL rs fs a0 ∧ r.length = 5 := by
 unfold actL at h
 split at h
 ·have := (List.mem_filter.1 h).1
  exact ⟨this, findL_five this⟩
 ·cases h
end Go.Eng

set_option linter.unusedVariables false
set_option linter.unusedSimpArgs false
namespace Go.Eng
open Go Go.RowKit
def PuE (P : Program) (f : FuncId) (args : List AV) (ob : Nat → List (Nat × Option Ob)) (nx : Nat) (res : AV) : Prop :=
 ∀ (n : Nat) (w : World) (S : Nat → Prop) (vs : List Value), (∀ k, S k → k < w.heap.size) → denA (fun _ => dead) S w args vs →
  Calls P f vs.toArray w fun e w' => ∃ et, post P f n w S (ob et) nx res e w'
theorem pu_enterE {P : Program} {f : FuncId} {fn : Func} {c : Code} {args : List AV} {ob : Nat → List (Nat × Option Ob)} {nx : Nat} {res : AV} (hf : P.funcs[f]? = some fn) (hb : fn.body = some c) (ha : args.length ≤ fn.ntmps)
  (h : ∀ w S, Wt ⟨P, f, fn.ntmps, w, S, fun _ => False⟩ ⟨argT 0 args, [], 0⟩ [.code c] (fun e w' => ∃ et, post P f fn.ntmps w S (ob et) nx res e w')) : PuE P f args ob nx res := by
 intro n w S vs hS hA cs
 let b : Frame := { (default : Frame) with fn := f, kind := .normal }
 have henter : Frame.enter P f vs.toArray .normal = b.at { tmps := vs.toArray ++ Array.replicate (fn.ntmps - vs.toArray.size) undef, defers := [] } [.code c] := by
  simp [Frame.enter, Frame.at, hf, hb, b]
 have hg : Gm ⟨P, f, fn.ntmps, w, S, fun _ => False⟩ ⟨argT 0 args, [], 0⟩ { tmps := vs.toArray ++ Array.replicate (fn.ntmps - vs.toArray.size) undef, defers := [] } w := by
  refine ⟨fun _ => dead, S, ⟨hS, fun k h => .inl h, fun i o h => by simp [alook] at h, fun i j _ h => h.elim, fun i h => h.elim, fun i h => h.elim, Kept.refl _ _⟩, fun t v ht => ?_, ?_, rfl⟩
  ·rw [show (⟨argT 0 args, [], 0⟩ : St).tm = argT 0 args from rfl, argT_get] at ht
   simp only [Nat.not_lt_zero, if_false, Nat.sub_zero] at ht
   obtain ⟨u, h1, h2⟩ := hA.2 t v ht
   have : (vs.toArray ++ Array.replicate (fn.ntmps - vs.toArray.size) undef).getD t undef = u := by
    rw [Array.getD_eq_getD_getElem?, Array.getElem?_append_left (by simpa using (List.getElem?_eq_some_iff.1 h1).1)]
    simp [h1]
   rw [show ({ tmps := vs.toArray ++ Array.replicate (fn.ntmps - vs.toArray.size) undef, defers := [] } : Act).tmps = vs.toArray ++ Array.replicate (fn.ntmps - vs.toArray.size) undef from rfl, this]
   exact h2
  ·have := hA.1
   simp
   omega
 obtain ⟨e, w', fr, ⟨et, hR⟩, hc, hfr, hl⟩ := h w S _ w hg b cs rfl rfl
 rw [← henter] at hc
 exact ⟨e, w', fr, ⟨et, post_n hR⟩, hc, hfr, hl⟩
section rules
variable {cx : Cx} {s : St} {dst : Option Nat} {ty : TypeId} {pos : String} {aft : Array Edge} {R : Ending → World → Prop} {k : List Item} {ops : Array Oper} {rest : List Oper}
def OsE {ι : Type} (cx : Cx) (s : St) (o : Oper) (s' : ι → St) : Prop :=
 ∀ (Q : Exit → Act → World → Prop) (a : Act) (w : World), Gm cx s a w → o.wp cx.P a w (fun a' w' => ∃ i, Gm cx (s' i) a' w') Q
theorem r_opE {ι : Type} {op : Go.Op} {s' : ι → St} (h : OsE cx s ⟨dst, op, ty, pos, aft, none⟩ s') (hW : ∀ i, Wr cx (s' i) ops rest k R) : Wr cx s ops (⟨dst, op, ty, pos, aft, none⟩ :: rest) k R := by
 intro a w hg
 refine wpList_plain rfl fun K hK => ?_
 exact upon_mono (fun a' w' ⟨i, h'⟩ => hK _ _ (hW i a' w' h')) (fun _ _ _ h => h) (h _ a w hg)
theorem o_callE (d m : Nat) {g : FuncId} {xs : Array Operand} {ats : Array TypeId} {cargs : List AV} {ob' : Nat → List (Nat × Option Ob)} {nx' : Nat} {res : AV} (hE : Go.Proofs.Enters cx.P g) (hC : PuE cx.P g cargs ob' nx' res) (hd : okd dst cx.n = true) (ha : Args s false xs.toList cargs) (hns : ∀ e, (nsO (ob' e) && res.all AC.ns) = true) (hdx : s.nx = d) (hm : d + nx' = m) :
  OsE cx s ⟨dst, .call { callee := .value (.func g), args := xs, argTypes := ats }, ty, pos, aft, none⟩ fun e => ((⟨s.tm, upO d (ob' e) s.ob, m⟩ : St).sets dst (some (res.up d))) := by
 subst hdx hm
 intro Q a w hg
 obtain ⟨E, S, hI, hT, hn, hdf⟩ := hg
 unfold Oper.wp
 rw [execOp_call_go, hE]
 have hargs : #[] ++ Array.map a.eval xs ++ #[] = (xs.toList.map a.eval).toArray := by
  apply Array.ext'
  simp
 rw [hargs, Oper.upon_enter]
 refine (hC 0 w (Sc false S w) (xs.toList.map a.eval) (fun k hk => ?_) (ha.den hI hT)).mono ?_
 ·exact hk
 ·rintro e w' ⟨et, u, E', S', rfl, hI', hu⟩
  have hns' := hns et
  rw [Bool.and_eq_true] at hns'
  obtain ⟨h1, h2⟩ := hI.join hI' (.inr hns'.1)
  refine ⟨et, _, _, by rw [sets_ob, sets_nx]; exact h1, denT_puts (s := ⟨s.tm, upO s.nx (ob' et) s.ob, s.nx + nx'⟩) hd hn (denT.carry h2 hT) (fun v' e => ?_), by rw [put_size]; exact hn, by rw [put_defers]; exact hdf⟩
  cases e
  exact up_v (S' := fun k => S k ∨ (false = true ∧ S' k)) (fun k hk => hk) (ns_v hns'.2 hu)
end rules
theorem filt_hit {p : List Int → Bool} {L : List (List Int)} {m n : Nat} {z : List Int} (hz : L[n]? = some z) (e : n = m) (h : p z = true) : (L.take m).filter p ++ [z] = (L.take (m + 1)).filter p := by rw [filt_take hz e, if_pos h]
theorem filt_miss {p : List Int → Bool} {L : List (List Int)} {m n : Nat} {z : List Int} (hz : L[n]? = some z) (e : n = m) (h : p z = false) : (L.take m).filter p = (L.take (m + 1)).filter p := by rw [filt_take hz e, h]; rfl
def actD (rs : Rels) (fs : Atoms) (d : Dep) : List (List Int) := actL rs fs d.1 d.2.1 d.2.2.1 d.2.2.2.1 d.2.2.2.2
def hotD (rs : Rels) (fs : Atoms) (d : Dep) : Bool := decide (0 < (actD rs fs d).length)
def vioOk (rs : Rels) (fs : Atoms) (ds : List Dep) : Bool := instOk rs fs && (depsOk rs ds && ds.any (hotD rs fs))
def vioI (rs : Rels) (fs : Atoms) (ds : List Dep) : Int := if vioOk rs fs ds = true then idxI (hotD rs fs) ds else 0
def vioB (rs : Rels) (fs : Atoms) (ds : List Dep) : List Int := if vioOk rs fs ds = true then (actD rs fs (ds.getD (idxI (hotD rs fs) ds).toNat ([], [], false, 0, 0))).headD [] else []
def vioS (rs : Rels) (fs : Atoms) (ds : List Dep) : Bool := !vioOk rs fs ds && (instOk rs fs && depsOk rs ds)
section
variable {rs : Rels} {fs : Atoms} {ds : List Dep} {m n : Nat} {z : Dep}
theorem hotD_pos (h : (0 : Int) < ((actL rs fs z.1 z.2.1 z.2.2.1 z.2.2.2.1 z.2.2.2.2).length : Nat)) : hotD rs fs z = true := decide_eq_true (by unfold actD; omega)
theorem hotD_not (h : ¬ (0 : Int) < ((actL rs fs z.1 z.2.1 z.2.2.1 z.2.2.2.1 z.2.2.2.2).length : Nat)) : hotD rs fs z = false := decide_eq_false (by unfold actD; omega)
theorem vio_hit {x : List Int} (h1 : instOk rs fs = true) (h2 : depsOk rs ds = true) (h : ∀ j z, j < m → ds[j]? = some z → hotD rs fs z = false) (hz : ds[m]? = some z) (hh : hotD rs fs z = true) (hx : (actL rs fs z.1 z.2.1 z.2.2.1 z.2.2.2.1 z.2.2.2.2)[0]? = some x) : vioOk rs fs ds = true ∧ vioI rs fs ds = (m : Int) ∧ vioB rs fs ds = x := by
 have h3 : ds.any (hotD rs fs) = true := any_true hz hh
 have h4 : vioOk rs fs ds = true := by unfold vioOk; rw [h1, h2, h3]; rfl
 have h5 : idxI (hotD rs fs) ds = (m : Int) := idx_hit h hz hh
 refine ⟨h4, by unfold vioI; rw [if_pos h4, h5], ?_⟩
 unfold vioB
 rw [if_pos h4, h5]
 have : ds.getD ((m : Int)).toNat ([], [], false, 0, 0) = z := by rw [show ((m : Int)).toNat = m from rfl, List.getD_eq_getElem?_getD, hz]; rfl
 rw [this]
 have hx' : (actD rs fs z)[0]? = some x := hx
 cases hc : actD rs fs z with
 | nil => rw [hc] at hx'; simp at hx'
 | cons y r => rw [hc] at hx'; simpa using hx'
theorem vio_none (h : ∀ j z, j < m → ds[j]? = some z → hotD rs fs z = false) (hm : ds.length ≤ m) : vioOk rs fs ds = false := by
 unfold vioOk
 rw [any_false h hm]
 simp
theorem tup3V {k : IntKind} {a a' : Int} {b b' : Bool} (h1 : a = a') (h2 : b = b') : AV.tup [(false, [.t none (.v (.int k a))]), (false, [.own 0]), (false, [.t none (.v (.bool b))])] = .tup [(false, [.t none (.v (.int k a'))]), (false, [.own 0]), (false, [.t none (.v (.bool b'))])] := by rw [h1, h2]
theorem vio_bad1 (h : instOk rs fs = false) : vioOk rs fs ds = false := by unfold vioOk; rw [h]; rfl
theorem vio_bad2 (h : depsOk rs ds = false) : vioOk rs fs ds = false := by unfold vioOk; rw [h]; simp
theorem vio_off (h : vioOk rs fs ds = false) : vioI rs fs ds = 0 ∧ vioB rs fs ds = [] := by unfold vioI vioB; rw [h]; exact ⟨rfl, rfl⟩
theorem vioB_len : (vioB rs fs ds).length ≤ 5 := by
 unfold vioB
 split
 ·cases hc : actD rs fs (ds.getD (idxI (hotD rs fs) ds).toNat ([], [], false, 0, 0)) with
  | nil => simp
  | cons y r =>
   have : y ∈ actD rs fs (ds.getD (idxI (hotD rs fs) ds).toNat ([], [], false, 0, 0)) := by rw [hc]; exact List.mem_cons_self
   have := (actL_five this).2
   simp only [List.headD_cons]
   omega
 ·simp
end
def digs : Nat → List UInt8
 | 0 => []
 | k + 1 => digs ((k + 1) / 10) ++ [UInt8.ofNat (48 + (k + 1) % 10)]
theorem digs_step {q : Nat} (h : 0 < q) : digs q = digs (q / 10) ++ [UInt8.ofNat (48 + q % 10)] := by
 cases q with
 | zero => omega
 | succ k => rw [digs]
theorem binD_rem {q n : Nat} (h : 0 < n) : binD .rem .i64 (q : Int) (n : Int) = some (.int .i64 ((q % n : Nat) : Int)) := by
 simp only [binD]
 rw [if_neg (by omega), Int.ofNat_tmod]
theorem binD_quo {q n : Nat} (h : 0 < n) (hq : q < 4611686018427387904) : binD .quo .i64 (q : Int) (n : Int) = some (.int .i64 ((q / n : Nat) : Int)) := by
 simp only [binD]
 have hle := Nat.div_le_self q n
 rw [if_neg (by omega), ← Int.ofNat_tdiv]
 generalize q / n = r at *
 rw [wr64 (by omega) (by omega)]
theorem digit_byte (q : Nat) : bytesOf [IntKind.u8.wrap (IntKind.i64.wrap (48 + ((q % 10 : Nat) : Int)))] = [UInt8.ofNat (48 + q % 10)] := by
 have h : q % 10 < 10 := Nat.mod_lt _ (by decide)
 rw [wr64 (by omega) (by omega)]
 have : IntKind.u8.wrap (48 + ((q % 10 : Nat) : Int)) = ((48 + q % 10 : Nat) : Int) := by
  rw [show IntKind.u8.wrap (48 + ((q % 10 : Nat) : Int)) = (48 + ((q % 10 : Nat) : Int)) % 256 from rfl]
  omega
 rw [this]
 rfl
def mtx (k : Int) : List UInt8 := 109 :: digs k.toNat
def markR : Int → List UInt8 × Int × Bool → List UInt8 × Int × Bool := fun k _ => (mtx k, k + 1, decide ((k + 2).tmod 3 = 0))
def ct3 {α : Type} : α → Nat := fun _ => 3
def markRS : Int → Rels → Rels := mkL markR ct3
theorem ct3_sum {α : Type} (l : List α) : (l.map ct3).sum = 3 * l.length := by
 induction l with
 | nil => rfl
 | cons x l ih => simp only [List.map_cons, List.sum_cons, ih, List.length_cons, ct3]; omega
theorem szT_ct3 {α : Type} (l : List α) {m : Nat} (h : m ≤ l.length) : szT ct3 l m = 3 * m := by
 unfold szT
 rw [ct3_sum, List.length_take, Nat.min_eq_left h]
theorem mkL_set3 {α : Type} {f : Int → α → α} {ct : α → Nat} {k : Int} {l : List α} {m : Nat} {z y1 y2 y : α} (h : l[m]? = some z) (hy : y = f (k + ((szT ct l m : Nat) : Int)) z) : (((mkL f ct k (l.take m) ++ l.drop m).set m y1).set m y2).set m y = mkL f ct k (l.take (m + 1)) ++ l.drop (m + 1) := by
 rw [List.set_set, List.set_set]
 exact mkL_set h hy
theorem markRS_len (k : Int) (l : Rels) : (markRS k l).length = l.length := mkL_length k l
theorem markRS_idem (k : Int) (l : Rels) : markRS k (markRS k l) = markRS k l := mkL_idem (f := markR) (ct := ct3) (fun k x => rfl) (fun k x => rfl) k l
def ctD : Dep → Nat := fun x => szS (fun (y : Int × List Int) => y.2.length) x.1 + szS (fun (y : Int × List Int) => y.2.length) x.2.1 + 3
def markD : Int → Dep → Dep := fun k x =>
 let a := k + ((szS (fun (y : Int × List Int) => y.2.length) x.1 : Nat) : Int)
 let b := a + ((szS (fun (y : Int × List Int) => y.2.length) x.2.1 : Nat) : Int)
 (markATS k x.1, markATS a x.2.1, decide (b.tmod 3 = 0), b + 1, b + 2)
def markDS : Int → List Dep → List Dep := mkL markD ctD
theorem mkL_set5 {α : Type} {f : Int → α → α} {ct : α → Nat} {k : Int} {l : List α} {m : Nat} {z y1 y2 y3 y4 y : α} (h : l[m]? = some z) (hy : y = f (k + ((szT ct l m : Nat) : Int)) z) : (((((mkL f ct k (l.take m) ++ l.drop m).set m y1).set m y2).set m y3).set m y4).set m y = mkL f ct k (l.take (m + 1)) ++ l.drop (m + 1) := by
 rw [List.set_set, List.set_set, List.set_set, List.set_set]
 exact mkL_set h hy
end Go.Eng

set_option linter.unusedVariables false
set_option linter.unusedSimpArgs false
namespace Go.Eng
open Go Go.RowKit
theorem rem_lit {q : Nat} (n : Nat) {b : Int} (hb : b = (n : Int)) (h : 0 < n) : binD .rem .i64 (q : Int) b = some (.int .i64 ((q % n : Nat) : Int)) := by
 subst hb
 exact binD_rem h
theorem quo_lit {q : Nat} (n : Nat) {b : Int} (hb : b = (n : Int)) (h : 0 < n) (hq : q < 4611686018427387904) : binD .quo .i64 (q : Int) b = some (.int .i64 ((q / n : Nat) : Int)) := by
 subst hb
 exact binD_quo h hq
theorem szT_sum {α : Type} {f : α → Nat} {l : List α} (m : Nat) : szT f l m ≤ (l.map f).sum := by
 have := szT_le (f := f) (l := l) m
 unfold szS at this
 omega
theorem szT_total {α : Type} {f : α → Nat} {l : List α} {m : Nat} (h : l.length ≤ m) : szT f l m = (l.map f).sum := by
 unfold szT
 rw [List.take_of_length_le h]
theorem ctD_sum (l : List Dep) : (l.map ctD).sum ≤ 3 * szS (fun (x : Dep) => szS (fun (y : Int × List Int) => y.2.length) x.1 + szS (fun (y : Int × List Int) => y.2.length) x.2.1) l := by
 unfold szS
 induction l with
 | nil => simp
 | cons x l ih =>
  simp only [List.map_cons, List.sum_cons, List.length_cons, ctD] at ih ⊢
  (try unfold szS at ih)
  (try unfold szS)
  omega
theorem mk_end {α : Type} {f : Int → α → α} {ct : α → Nat} {k : Int} {l : List α} {m : Nat} (h : l.length ≤ m) : mkL f ct k (l.take m) ++ l.drop m = mkL f ct k l := by
 rw [List.take_of_length_le h, List.drop_of_length_le h, List.append_nil]
end Go.Eng
namespace Go.Eng
open Go Go.RowKit
theorem ctD_ge (l : List Dep) : l.length ≤ (l.map ctD).sum := by
 induction l with
 | nil => simp
 | cons x l ih => simp only [List.map_cons, List.sum_cons, List.length_cons, ctD]; omega
theorem markD_eq {k w1 w2 : Int} {x : Dep} (h1 : w1 = k + ((szS (fun (y : Int × List Int) => y.2.length) x.1 : Nat) : Int) + ((szS (fun (y : Int × List Int) => y.2.length) x.2.1 : Nat) : Int) + 1) (h2 : w2 = k + ((szS (fun (y : Int × List Int) => y.2.length) x.1 : Nat) : Int) + ((szS (fun (y : Int × List Int) => y.2.length) x.2.1 : Nat) : Int) + 2) :
  (markATS k x.1, markATS (k + ((szS (fun (y : Int × List Int) => y.2.length) x.1 : Nat) : Int)) x.2.1, decide ((k + ((szS (fun (y : Int × List Int) => y.2.length) x.1 : Nat) : Int) + ((szS (fun (y : Int × List Int) => y.2.length) x.2.1 : Nat) : Int)).tmod 3 = 0), w1, w2) = markD k x := by
 subst h1 h2
 rfl
end Go.Eng
