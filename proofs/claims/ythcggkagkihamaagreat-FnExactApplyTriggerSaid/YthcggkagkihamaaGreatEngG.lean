import Derived.Test.YthcggkagkihamaaGreatEngF
import Derived.Laws.BytesArg
set_option linter.unusedVariables false
set_option linter.unusedSimpArgs false
namespace Go.Eng
open Go Go.RowKit
section rules
variable {cx : Cx} {s : St} {dst : Option Nat} {ty : TypeId} {pos : String} {aft : Array Edge}
def shD (op : BinOp) (k : IntKind) (a b : Int) : Option Value :=
 match op with
 | .shl => if b < 0 then none else some (.int k (k.wrap (a * 2 ^ (min b.toNat k.bits))))
 | .shr => if b < 0 then none else some (.int k (a.fdiv (2 ^ (min b.toNat k.bits))))
 | _ => none
def encU : Int → Nat → T := fun n _ => .v (.int .u8 n)
def bytesOf (l : List Int) : List UInt8 := l.map fun n => UInt8.ofNat n.toNat
theorem run_bytes {P : Program} {w : World} {S : Nat → Prop} {xs : List Int} {u : Value} {t t' e : TypeId} (hs : P.underlying t = some (.slice e)) (he : P.underlying e = some (.int .u8)) (hd : P.underlying t' = some .string) (h : Rd w S (.sl 1 encU xs) u) :
  ∀ w', Ext w w' → (convert t t' u).run P w' = .ok (.string (mkS (bytesOf xs))) w' := by
 intro w' hW
 obtain ⟨A, cap, rfl, hc, hr⟩ := h
 cases A with
 | none =>
  have : xs = [] := by
   cases xs with
   | nil => rfl
   | cons x xs =>
    obtain ⟨ad, h1, _⟩ := hr 0 x rfl
    cases h1
  subst this
  rw [run_convert_bytes_nil w' t e hs he _ _ t' hd]
  rfl
 | some ad =>
  rw [run_convert_bytes_string w' t t' e _ _ cap hs he hd]
  have hl : (loadCells ad xs.length).run P w' = .ok (xs.map (Value.int .u8)).toArray w' := by
   have := run_loadCells_list (P := P) w' ad (xs.map (Value.int .u8)) (fun j v hj => by
    rw [List.getElem?_map] at hj
    obtain ⟨x, hx, rfl⟩ := Option.map_eq_some_iff.mp hj
    obtain ⟨ad', h1, h2, h3⟩ := hr j x hx
    cases h1
    obtain ⟨u', h4, h5⟩ := h3 0 Nat.one_pos
    rw [Nat.mul_one, Nat.add_zero] at h4
    rw [hW.cell h4, h5.1])
   simpa using this
  rw [run_bytesToString w' _ _ cap xs hl, foldl_push_bytes]
  simp [bytesOf, mkS, ByteArray.empty, ByteArray.emptyWithCapacity]
  rfl
theorem p_convBSo {t t' e e0 i : TypeId} {x : Operand} {pn : Option Value} {deep : Bool} {xs : List Int} (hs : cx.P.underlying t = some (.slice e)) (he : cx.P.underlying e = some (.int .u8)) (hd : cx.P.underlying t' = some .string) (hx : s.ev x = some (.c (.own i))) (hb : alook s.ob i = some (.row pn e0 deep 1 encU xs)) :
  Ps cx s (.convert t t' x) (sc (.string (mkS (bytesOf xs)))) :=
 fun A w E S hI hT => by
  refine ⟨_, fun w' hW _ _ _ _ _ => ?_, sc_mk rfl⟩
  obtain ⟨_, hu, _⟩ := ev_den hT hx
  simp only [execOp, hu]
  rw [Sem.run_bind, run_bytes hs he hd (row_rd hI hb) w' hW]
  rfl
theorem o_convBSo {t t' e e0 i : TypeId} {x : Operand} {pn : Option Value} {deep : Bool} {xs : List Int} (hd0 : okd dst cx.n = true) (hs : cx.P.underlying t = some (.slice e)) (he : cx.P.underlying e = some (.int .u8)) (hd : cx.P.underlying t' = some .string) (hx : s.ev x = some (.c (.own i))) (hb : alook s.ob i = some (.row pn e0 deep 1 encU xs)) :
  Os cx s ⟨dst, .convert t t' x, ty, pos, aft, none⟩ (s.sets dst (some (sc (.string (mkS (bytesOf xs)))))) true := o_value hd0 (p_convBSo hs he hd hx hb)
end rules
end Go.Eng

set_option linter.unusedVariables false
set_option linter.unusedSimpArgs false
namespace Go.Eng
open Go Go.RowKit
section rules
variable {cx : Cx} {s : St} {R : Ending → World → Prop} {todo : List Item}
def posN : List Nat → Nat → Option Nat
 | [], _ => none
 | i :: r, k => cond (Nat.beq i k) (some 0) ((posN r k).map (· + 1))
def AC.ren (is : List Nat) : AC → AC
 | .own i => match posN is i with | some j => .own j | none => .top
 | .t none x => .t none x
 | _ => .top
def AV.ren (is : List Nat) : AV → AV
 | .c a => .c (a.ren is)
 | .agg cs => .agg (cs.map (AC.ren is))
 | .tup vs => .tup (vs.map fun x => (x.1, x.2.map (AC.ren is)))
def renT (is : List Nat) (l : List (Nat × Option AV)) : List (Nat × Option AV) := l.map fun x => (x.1, x.2.map (AV.ren is))
def unpin : Option Ob → Option Ob
 | some (.row _ e deep sz enc xs) => some (.row none e deep sz enc xs)
 | _ => none
def renO (ob : List (Nat × Option Ob)) : List Nat → Nat → List (Nat × Option Ob)
 | [], _ => []
 | i :: is, j => (j, unpin (alook ob i)) :: renO ob is (j + 1)
def nodupN : List Nat → Bool
 | [] => true
 | i :: r => (r.all fun k => !(Nat.beq i k)) && nodupN r
end rules
end Go.Eng

set_option linter.unusedVariables false
set_option linter.unusedSimpArgs false
namespace Go.Eng
open Go Go.RowKit
def PuE (P : Program) (f : FuncId) (args : List AV) (ob : Nat → List (Nat × Option Ob)) (nx : Nat) (res : AV) : Prop :=
 ∀ (n : Nat) (w : World) (S : Nat → Prop) (vs : List Value), (∀ k, S k → k < w.heap.size) → denA (fun _ => dead) S w args vs →
  Calls P f vs.toArray w fun e w' => ∃ et, post P f n w S (ob et) nx res e w'
section rules
variable {cx : Cx} {s : St} {dst : Option Nat} {ty : TypeId} {pos : String} {aft : Array Edge} {R : Ending → World → Prop} {k : List Item} {ops : Array Oper} {rest : List Oper}
def OsE {ι : Type} (cx : Cx) (s : St) (o : Oper) (s' : ι → St) : Prop :=
 ∀ (Q : Exit → Act → World → Prop) (a : Act) (w : World), Gm cx s a w → o.wp cx.P a w (fun a' w' => ∃ i, Gm cx (s' i) a' w') Q
end rules
def actD (rs : Rels) (fs : Atoms) (d : Dep) : List (List Int) := actL rs fs d.1 d.2.1 d.2.2.1 d.2.2.2.1 d.2.2.2.2
def hotD (rs : Rels) (fs : Atoms) (d : Dep) : Bool := decide (0 < (actD rs fs d).length)
def vioOk (rs : Rels) (fs : Atoms) (ds : List Dep) : Bool := instOk rs fs && (depsOk rs ds && ds.any (hotD rs fs))
def vioI (rs : Rels) (fs : Atoms) (ds : List Dep) : Int := if vioOk rs fs ds = true then idxI (hotD rs fs) ds else 0
def vioB (rs : Rels) (fs : Atoms) (ds : List Dep) : List Int := if vioOk rs fs ds = true then (actD rs fs (ds.getD (idxI (hotD rs fs) ds).toNat ([], [], false, 0, 0))).headD [] else []
def vioS (rs : Rels) (fs : Atoms) (ds : List Dep) : Bool := !vioOk rs fs ds && (instOk rs fs && depsOk rs ds)
section
variable {rs : Rels} {fs : Atoms} {ds : List Dep} {m n : Nat} {z : Dep}
end
def digs : Nat → List UInt8
 | 0 => []
 | k + 1 => digs ((k + 1) / 10) ++ [UInt8.ofNat (48 + (k + 1) % 10)]
theorem digs_step {q : Nat} (h : 0 < q) : digs q = digs (q / 10) ++ [UInt8.ofNat (48 + q % 10)] := by
 cases q with
 | zero => omega
 | succ k => rw [digs]
theorem binD_rem {q n : Nat} (h : 0 < n) : binD .rem .i64 (q : Int) (n : Int) = some (.int .i64 ((q % n : Nat) : Int)) := by
 simp only [binD]
 rw [if_neg (by omega), Int.ofNat_tmod]
theorem binD_quo {q n : Nat} (h : 0 < n) (hq : q < 4611686018427387904) : binD .quo .i64 (q : Int) (n : Int) = some (.int .i64 ((q / n : Nat) : Int)) := by
 simp only [binD]
 have hle := Nat.div_le_self q n
 rw [if_neg (by omega), ← Int.ofNat_tdiv]
 generalize q / n = r at *
 rw [wr64 (by omega) (by omega)]
theorem digit_byte (q : Nat) : bytesOf [IntKind.u8.wrap (IntKind.i64.wrap (48 + ((q % 10 : Nat) : Int)))] = [UInt8.ofNat (48 + q % 10)] := by
 have h : q % 10 < 10 := Nat.mod_lt _ (by decide)
 rw [wr64 (by omega) (by omega)]
 have : IntKind.u8.wrap (48 + ((q % 10 : Nat) : Int)) = ((48 + q % 10 : Nat) : Int) := by
  rw [show IntKind.u8.wrap (48 + ((q % 10 : Nat) : Int)) = (48 + ((q % 10 : Nat) : Int)) % 256 from rfl]
  omega
 rw [this]
 rfl
def mtx (k : Int) : List UInt8 := 109 :: digs k.toNat
def markR : Int → List UInt8 × Int × Bool → List UInt8 × Int × Bool := fun k _ => (mtx k, k + 1, decide ((k + 2).tmod 3 = 0))
def ct3 {α : Type} : α → Nat := fun _ => 3
def markRS : Int → Rels → Rels := mkL markR ct3
theorem ct3_sum {α : Type} (l : List α) : (l.map ct3).sum = 3 * l.length := by
 induction l with
 | nil => rfl
 | cons x l ih => simp only [List.map_cons, List.sum_cons, ih, List.length_cons, ct3]; omega
theorem szT_ct3 {α : Type} (l : List α) {m : Nat} (h : m ≤ l.length) : szT ct3 l m = 3 * m := by
 unfold szT
 rw [ct3_sum, List.length_take, Nat.min_eq_left h]
theorem mkL_set3 {α : Type} {f : Int → α → α} {ct : α → Nat} {k : Int} {l : List α} {m : Nat} {z y1 y2 y : α} (h : l[m]? = some z) (hy : y = f (k + ((szT ct l m : Nat) : Int)) z) : (((mkL f ct k (l.take m) ++ l.drop m).set m y1).set m y2).set m y = mkL f ct k (l.take (m + 1)) ++ l.drop (m + 1) := by
 rw [List.set_set, List.set_set]
 exact mkL_set h hy
theorem markRS_len (k : Int) (l : Rels) : (markRS k l).length = l.length := mkL_length k l
theorem markRS_idem (k : Int) (l : Rels) : markRS k (markRS k l) = markRS k l := mkL_idem (f := markR) (ct := ct3) (fun k x => rfl) (fun k x => rfl) k l
def ctD : Dep → Nat := fun x => szS (fun (y : Int × List Int) => y.2.length) x.1 + szS (fun (y : Int × List Int) => y.2.length) x.2.1 + 3
def markD : Int → Dep → Dep := fun k x =>
 let a := k + ((szS (fun (y : Int × List Int) => y.2.length) x.1 : Nat) : Int)
 let b := a + ((szS (fun (y : Int × List Int) => y.2.length) x.2.1 : Nat) : Int)
 (markATS k x.1, markATS a x.2.1, decide (b.tmod 3 = 0), b + 1, b + 2)
def markDS : Int → List Dep → List Dep := mkL markD ctD
end Go.Eng

set_option linter.unusedVariables false
set_option linter.unusedSimpArgs false
namespace Go.Eng
open Go Go.RowKit
theorem rem_lit {q : Nat} (n : Nat) {b : Int} (hb : b = (n : Int)) (h : 0 < n) : binD .rem .i64 (q : Int) b = some (.int .i64 ((q % n : Nat) : Int)) := by
 subst hb
 exact binD_rem h
theorem quo_lit {q : Nat} (n : Nat) {b : Int} (hb : b = (n : Int)) (h : 0 < n) (hq : q < 4611686018427387904) : binD .quo .i64 (q : Int) b = some (.int .i64 ((q / n : Nat) : Int)) := by
 subst hb
 exact binD_quo h hq
theorem mk_end {α : Type} {f : Int → α → α} {ct : α → Nat} {k : Int} {l : List α} {m : Nat} (h : l.length ≤ m) : mkL f ct k (l.take m) ++ l.drop m = mkL f ct k l := by
 rw [List.take_of_length_le h, List.drop_of_length_le h, List.append_nil]
end Go.Eng
namespace Go.Eng
open Go Go.RowKit
end Go.Eng
