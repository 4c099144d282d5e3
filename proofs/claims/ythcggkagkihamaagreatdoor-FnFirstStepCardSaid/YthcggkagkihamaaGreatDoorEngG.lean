import Derived.Test.YthcggkagkihamaaGreatDoorEngF
import Derived.Laws.BytesArg
set_option linter.unusedVariables false
set_option linter.unusedSimpArgs false
namespace Go.Eng
open Go Go.RowKit
section rules
variable {cx:Cx} {s:St} {dst:Option Nat} {ty:TypeId} {pos:String} {aft:Array Edge}
def RH (op:BinOp) (k:IntKind) (a b:Int):Option Value:=
 match op with
 | .shl=>if b < 0 then none else some (.int k (k.wrap (a * 2 ^(min b.toNat k.bits))))
 | .shr=>if b < 0 then none else some (.int k (a.fdiv (2 ^(min b.toNat k.bits))))
 | _=>none
theorem sN {P:Program} {op:BinOp} {k k':IntKind} {a b:Int} {v:Value} (h:RH op k a b=some v)(t:TypeId)(x y:Operand)(w:World):(do eqGuard op t x y (.int k a) (.int k' b);binOp op t (.int k a) (.int k' b):Sem Value).run P w= .ok v w∧v.oneCell'=true:=by
 cases op <;> simp only [RH] at h <;> first
  | (cases h;done)
  | (split at h <;> first | (cases h;done) | (cases h;constructor <;> simp_all [eqGuard,binOp,Op.shift,Value.oneCell'] <;>(intro hh;omega)))
theorem OI {op:BinOp} {t yt:TypeId} {x y:Operand} {kk kk':IntKind} {a b:Int} {v:Value} (hx:s.ev x=some (sc (.int kk a)))(hy:s.ev y=some (sc (.int kk' b)))(hv:RH op kk a b=some v):
  Ps cx s (.binOp op t x y yt) ((sc v)):=
 fun A w E S hI hT=>by
  have h1:=f7 (L9 hT hx)
  have h2:=f7 (L9 hT hy)
  have h3:=fun w'=>(sN (P:=cx.P) (k':=kk') hv t x y w').1
  have h4:=(sN (P:=cx.P) (k':=kk') hv t x y w).2
  refine⟨v,fun w' hW _ _ _ _ _=>?_,Z4 h4⟩
  simp only [execOp,h1,h2]
  rw [Sem.run_bind,h3]
  rfl
theorem aK {op:BinOp} {t yt:TypeId} {x y:Operand} {kk kk':IntKind} {a b:Int} {v:Value} (hd:D6 dst cx.n=true)(hx:s.ev x=some (sc (.int kk a)))(hy:s.ev y=some (sc (.int kk' b)))(hv:RH op kk a b=some v):
  Os cx s ⟨dst,.binOp op t x y yt,ty,pos,aft,none⟩ (s.sets dst (some (sc v))) true:=A8 hd (OI hx hy hv)
def u7:Int→Nat→T:=fun n _=> .v (.int .u8 n)
def D4 (l:List Int):List UInt8:=l.map fun n=>UInt8.ofNat n.toNat
theorem iM {P:Program} {w:World} {S:Nat→Prop} {xs:List Int} {u:Value} {t t' e:TypeId} (hs:P.underlying t=some (.slice e))(he:P.underlying e=some (.int .u8))(hd:P.underlying t'=some .string)(h:Rd w S (.sl 1 u7 xs) u):
  ∀w',BX w w'→(convert t t' u).run P w'= .ok (.string (U6 (D4 xs))) w':=by
 intro w' hW
 obtain⟨A,cap,rfl,hc,hr⟩:=h
 cases A with
 | none=>
  have:xs=[]:=by
   cases xs with
   | nil=>rfl
   | cons x xs=>
    obtain⟨ad,h1,_⟩:=hr 0 x rfl
    cases h1
  subst this
  rw [run_convert_bytes_nil w' t e hs he _ _ t' hd]
  rfl
 | some ad=>
  rw [run_convert_bytes_string w' t t' e _ _ cap hs he hd]
  have hl:(loadCells ad xs.length).run P w'= .ok (xs.map (Value.int .u8)).toArray w':=by
   have:=run_loadCells_list (P:=P) w' ad (xs.map (Value.int .u8)) (fun j v hj=>by
    rw [List.getElem?_map] at hj
    obtain⟨x,hx,rfl⟩:=Option.map_eq_some_iff.mp hj
    obtain⟨ad',h1,h2,h3⟩:=hr j x hx
    cases h1
    obtain⟨u',h4,h5⟩:=h3 0 Nat.one_pos
    rw [Nat.mul_one,Nat.add_zero] at h4
    rw [hW.cell h4,h5.1])
   simpa using this
  rw [run_bytesToString w' _ _ cap xs hl,foldl_push_bytes]
  simp [D4,U6,ByteArray.empty,ByteArray.emptyWithCapacity]
  rfl
theorem tM {t t' e e0 i:TypeId} {x:Operand} {pn:Option Value} {deep:Bool} {xs:List Int} (hs:cx.P.underlying t=some (.slice e))(he:cx.P.underlying e=some (.int .u8))(hd:cx.P.underlying t'=some .string)(hx:s.ev x=some (.c (.own i)))(hb:B9 s.ob i=some (.row pn e0 deep 1 u7 xs)):
  Ps cx s (.convert t t' x) (sc (.string (U6 (D4 xs)))):=
 fun A w E S hI hT=>by
  refine⟨_,fun w' hW _ _ _ _ _=>?_,Z4 rfl⟩
  obtain⟨_,hu,_⟩:=L9 hT hx
  simp only [execOp,hu]
  rw [Sem.run_bind,iM hs he hd (UR hI hb) w' hW]
  rfl
theorem WV {t t' e e0 i:TypeId} {x:Operand} {pn:Option Value} {deep:Bool} {xs:List Int} (hd0:D6 dst cx.n=true)(hs:cx.P.underlying t=some (.slice e))(he:cx.P.underlying e=some (.int .u8))(hd:cx.P.underlying t'=some .string)(hx:s.ev x=some (.c (.own i)))(hb:B9 s.ob i=some (.row pn e0 deep 1 u7 xs)):
  Os cx s ⟨dst,.convert t t' x,ty,pos,aft,none⟩ (s.sets dst (some (sc (.string (U6 (D4 xs)))))) true:=A8 hd0 (tM hs he hd hx hb)
end rules
theorem ES {n:Nat} (h:n=1∨n=2∨n=4):(List.replicate n (10:Int)++List.replicate (5 - n) 0).take n++((List.replicate n (10:Int)++List.replicate (5 - n) 0).take n).take (min n (5 - n))++(List.replicate n (10:Int)++List.replicate (5 - n) 0).drop (n + min n (5 - n))=List.replicate (n + min n (5 - n)) 10++List.replicate (5 - (n + min n (5 - n))) 0:=by
 rcases h with rfl | rfl | rfl <;> rfl
end Go.Eng

set_option linter.unusedVariables false
set_option linter.unusedSimpArgs false
namespace Go.Eng
open Go Go.RowKit
section rules
variable {cx:Cx} {s:St} {R:Ending→World→Prop} {todo:List Item}
def fO:List Nat→Nat→Option Nat
 | [],_=>none
 | i::r,k=>cond (Nat.beq i k) (some 0) ((fO r k).map (· + 1))
def AC.ren (is:List Nat):AC→AC
 | .own i=>match fO is i with | some j=> .own j | none=> .top
 | .t none x=> .t none x
 | _=> .top
def AV.ren (is:List Nat):AV→AV
 | .c a=> .c (a.ren is)
 | .agg cs=> .agg (cs.map (AC.ren is))
 | .tup vs=> .tup (vs.map fun x=>(x.1,x.2.map (AC.ren is)))
def gH (is:List Nat) (l:List (Nat × Option AV)):List (Nat × Option AV):=l.map fun x=>(x.1,x.2.map (AV.ren is))
def sU:Option Ob→Option Ob
 | some (.row _ e deep sz enc xs)=>some (.row none e deep sz enc xs)
 | _=>none
def sL (ob:List (Nat × Option Ob)):List Nat→Nat→List (Nat × Option Ob)
 | [],_=>[]
 | i::is,j=>(j,sU (B9 ob i))::sL ob is (j + 1)
def VR:List Nat→Bool
 | []=>true
 | i::r=>(r.all fun k=>!(Nat.beq i k))&&VR r
theorem tQ:∀ {is:List Nat} {k j:Nat},fO is k=some j→is[j]? =some k
 | [],k,j,h=>by simp [fO] at h
 | i::r,k,j,h=>by
  unfold fO at h
  cases hb:Nat.beq i k
  ·rw [hb] at h
   simp only [cond_false] at h
   obtain⟨j',h1,rfl⟩:=Option.map_eq_some_iff.mp h
   exact(tQ (is:=r) h1:r[j']? =some k)
  ·rw [hb] at h
   cases h
   rw [Nat.eq_of_beq_eq_true hb]
   rfl
theorem VT:∀ {is:List Nat},VR is=true→∀ {j j' k:Nat},is[j]? =some k→is[j']? =some k→j=j'
 | [],_,j,j',k,h,_=>by simp at h
 | i::r,hn,j,j',k,h,h'=>by
  unfold VR at hn
  rw [Bool.and_eq_true,List.all_eq_true] at hn
  have no:∀q,r[q]? =some i→False:=fun q hq=>by
   have:=hn.1 i (List.mem_of_getElem? hq)
   simp at this
  match j,j' with
  | 0,0=>rfl
  | 0,q + 1=>cases h;exact(no q h').elim
  | q + 1,0=>cases h';exact(no q h).elim
  | q + 1,q' + 1=>rw [VT hn.2 (show r[q]? =some k from h) (show r[q']? =some k from h')]
theorem cS {ob:List (Nat × Option Ob)}:∀ {is:List Nat} {st j:Nat} {o:Ob},B9 (sL ob is st) j=some o→∃q i,j=st + q∧is[q]? =some i∧sU (B9 ob i)=some o
 | [],st,j,o,h=>by simp [sL,B9] at h
 | i::r,st,j,o,h=>by
  unfold sL at h
  rw [E9] at h
  split at h
  ·rename_i e
   exact⟨0,i,by omega,rfl,h⟩
  ·obtain⟨q,i',h1,h2,h3⟩:=cS h
   exact⟨q + 1,i',by omega,h2,h3⟩
theorem qO {x:Option Ob} {o:Ob} (h:sU x=some o):∃(pn:Option Value) (e:Nat) (deep:Bool) (sz:Nat) (α:Type) (enc:α→Nat→T) (xs:List α),x=some (.row pn e deep sz enc xs)∧o= .row none e deep sz enc xs:=by
 cases x with
 | none=>simp [sU] at h
 | some x=>
  cases x with
  | box cs=>simp [sU] at h
  | row pn e deep sz enc xs=>cases h;exact⟨_,_,_,_,_,_,_,rfl,rfl⟩
  | pbox v cs=>simp [sU] at h
  | bag=>simp [sU] at h
theorem CI {is:List Nat} {E X:Nat→EE} {S:Nat→Prop} {w:World} (hX:∀j i,is[j]? =some i→X j=E i) {a:AC} {u:Value} (h:Y6 E S w a u):Y6 X S w (a.ren is) u:=by
 have ht:u.oneCell'=true:=h.one
 cases a with
 | own i=>
  show Y6 X S w (match fO is i with | some j=>AC.own j | none=>AC.top) u
  cases hp:fO is i with
  | none=>exact ht
  | some j=>
   have:=hX j i (tQ hp)
   obtain⟨h1,h2,h3⟩:=h
   exact⟨by rw [this];exact h1,by rw [this];exact h2,h3⟩
 | t r x=>
  cases r with
  | none=>exact⟨trivial,h.2⟩
  | some i=>exact ht
 | _=>exact ht
theorem WL {is:List Nat} {E X:Nat→EE} {S:Nat→Prop} {w:World} (hX:∀j i,is[j]? =some i→X j=E i) {cs:List AC} {us:List Value} (h:x6 E S w cs us):x6 X S w (cs.map (AC.ren is)) us:=by
 obtain⟨hl,h⟩:=h
 refine⟨by rw [hl,List.length_map],fun j c hc=>?_⟩
 rw [List.getElem?_map] at hc
 obtain⟨c0,h0,rfl⟩:=Option.map_eq_some_iff.mp hc
 obtain⟨u',h1,h2⟩:=h j c0 h0
 exact⟨u',h1,CI hX h2⟩
theorem EH {is:List Nat} {E X:Nat→EE} {S:Nat→Prop} {w:World} (hX:∀j i,is[j]? =some i→X j=E i) {v:AV} {u:Value} (h:G6 E S w v u):G6 X S w (v.ren is) u:=by
 cases v with
 | c a=>exact CI hX h
 | agg cs=>obtain⟨us,h1,h2⟩:=h;exact⟨us,h1,WL hX h2⟩
 | tup vs=>
  obtain⟨us,h1,hl,h2⟩:=h
  refine⟨us,h1,by rw [hl,List.length_map],fun j b cs hc=>?_⟩
  rw [List.getElem?_map] at hc
  obtain⟨⟨b0,c0⟩,h0,he⟩:=Option.map_eq_some_iff.mp hc
  cases he
  obtain⟨u',h3,h4⟩:=h2 j b0 c0 h0
  refine⟨u',h3,?_⟩
  unfold uW at h4 ⊢
  split
  ·rename_i hb
   rw [if_pos hb] at h4
   obtain⟨us',q1,q2⟩:=h4
   exact⟨us',q1,WL hX q2⟩
  ·rename_i hb
   rw [if_neg hb] at h4
   exact WL hX h4
theorem oU (is:List Nat)(hd:VR is=true)(h:Wt cx ⟨gH is s.tm,sL s.ob is 0,is.length⟩ todo R)(hl:(is.all fun i=>(sU (B9 s.ob i)).isSome)=true):Wt cx s todo R:=by
 intro a w hg
 refine h a w ?_
 obtain⟨E,S,hI,hT,hsz,hdf⟩:=hg
 let X:Nat→EE:=fun j=>match is[j]? with | some i=>E i | none=>V6
 have hX:∀j i,is[j]? =some i→X j=E i:=fun j i hj=>by
  show(match is[j]? with | some i=>E i | none=>V6)=_
  rw [hj]
 have hlv:∀j,(X j).live→∃i,is[j]? =some i∧X j=E i:=fun j hj=>by
  cases hp:is[j]? with
  | none=>
   have:X j=V6:=by
    show(match is[j]? with | some i=>E i | none=>V6)=_
    rw [hp]
   rw [this] at hj
   exact hj.elim
  | some i=>exact⟨i,rfl,hX j i hp⟩
 refine⟨X,S,⟨hI.slt,hI.snew,fun j o hj=>?_,fun j j' hij hj hj' k hk hk'=>?_,fun j hj k hk=>?_,fun j hj=>?_,hI.kept⟩,fun t' v' ht'=>?_,hsz,hdf⟩
 ·obtain⟨q,i,rfl,h1,h2⟩:=cS hj
  rw [Nat.zero_add]
  obtain⟨pn,e,deep,sz,α,enc,xs,h3,rfl⟩:=qO h2
  obtain⟨q1,q2,q3,q4⟩:=hI.obs _ _ h3
  refine⟨by rw [hX _ _ h1];exact q1,by rw [hX _ _ h1];exact q2,fun v hv=>(by cases hv),?_⟩
  rw [hX _ _ h1]
  exact q4
 ·obtain⟨i,h1,h2⟩:=hlv j hj
  obtain⟨i',h1',h2'⟩:=hlv j' hj'
  rw [h2] at hj hk
  rw [h2'] at hj' hk'
  refine hI.dis i i' (fun e=>hij ?_) hj hj' k hk hk'
  subst e
  exact VT hd h1 h1'
 ·obtain⟨i,h1,h2⟩:=hlv j hj
  rw [h2] at hj hk
  exact hI.fp i hj k hk
 ·obtain⟨i,h1,_⟩:=hlv j hj
  exact(List.getElem?_eq_some_iff.1 h1).1
 ·have:∀(l:List (Nat × Option AV)),B9 (gH is l) t'=(B9 l t').map (AV.ren is):=by
   intro l
   induction l with
   | nil=>rfl
   | cons p r ih=>
    obtain⟨k,v⟩:=p
    show B9 ((k,v.map (AV.ren is))::gH is r) t'=_
    rw [E9,E9]
    split
    ·rfl
    ·exact ih
  rw [this] at ht'
  obtain⟨v0,h0,rfl⟩:=Option.map_eq_some_iff.mp ht'
  exact EH hX (hT _ _ h0)
end rules
theorem eV {fs l:w9} {m:Nat} {y:List Int} (h:y∈Q4 ((S9 fs l B8).take m)):y.length=5:=IZ fs l B8 y (List.mem_of_mem_take (TP _ _ h))
theorem XW {fs l:w9} {m:Nat} (hf:fs.length≤30)(hl:l.length≤3):(Q4 ((S9 fs l B8).take m)).length≤27000:=by
 have h1:=eT ((S9 fs l B8).take m)
 have h2:=Q5 hf hl B8
 rw [List.length_take] at h1
 omega
theorem qM {q:List (List Int)} {x:List Int} {k:Nat} (h:sY (q.take k) x=true):true=sY (q.take (k + 1)) x:=by
 unfold sY at h ⊢
 rw [List.any_eq_true] at h
 obtain⟨y,h1,h2⟩:=h
 refine(List.any_eq_true.2 ⟨y,?_,h2⟩).symm
 rw [List.take_add_one]
 exact List.mem_append_left _ h1
theorem eM {q:List (List Int)} {x:List Int}:sY (q.take 0) x=false:=by rw [List.take_zero];rfl
theorem VL {q:List (List Int)} {y x:List Int} {k n:Nat} (h:sY (q.take k) x=false)(hy:q[n]? =some y)(e:n=k):decide (Q6 y x=0)=sY (q.take (k + 1)) x:=by
 rw [IM hy e,h,Bool.false_or]
 exact decide_eq_decide.2 (QX _ _)
theorem TQ {rs:T9} {fs l:w9} (h:sV rs fs l=false):[]=T7 rs fs l:=by unfold T7;rw [h];rfl
theorem KX {rs:T9} {fs l:w9} {m:Nat} (h:sV rs fs l=true)(hm:(S9 fs l B8).length≤m):Q4 ((S9 fs l B8).take m)=T7 rs fs l:=by unfold T7;rw [if_pos h,List.take_of_length_le hm]
theorem KS {p:List Int→Bool} {L:List (List Int)} {m n:Nat} {z:List Int} (hz:L[n]? =some z)(e:n=m):(L.take (m + 1)).filter p=if p z=true then(L.take m).filter p++[z] else(L.take m).filter p:=by
 subst e
 rw [List.take_add_one,hz,List.filter_append]
 show _++[z].filter p=_
 cases h:p z <;> simp [List.filter,h]
theorem TO {rs:T9} {fs a0 a1:w9} {a2:Bool} {a3 a4:Int} (h:P6 rs a0 a1 a2 a3 a4=false):[]=N6 rs fs a0 a1 a2 a3 a4:=by unfold N6;rw [h];rfl
theorem nP {rs:T9} {fs a0 a1:w9} {a2:Bool} {a3 a4:Int} {m:Nat} (h:P6 rs a0 a1 a2 a3 a4=true)(hm:(T7 rs fs a0).length≤m):((T7 rs fs a0).take m).filter (f6 rs fs a0 a1 a2 a3 a4)=N6 rs fs a0 a1 a2 a3 a4:=by unfold N6;rw [if_pos h,List.take_of_length_le hm]
theorem IS {p:List Int→Bool} {L:List (List Int)} {m:Nat} (h:L.length≤27000):((L.take m).filter p).length≤27000:=by
 have:=List.length_filter_le p (L.take m)
 rw [List.length_take] at this
 omega
theorem JX {rs:T9} {fs a0 a1:w9} {a2:Bool} {a3 a4:Int} {r:List Int} (h:r∈N6 rs fs a0 a1 a2 a3 a4):r∈T7 rs fs a0∧r.length=5:=by
 unfold N6 at h
 split at h
 ·have:=(List.mem_filter.1 h).1
  exact⟨this,qY this⟩
 ·cases h
end Go.Eng

set_option linter.unusedVariables false
set_option linter.unusedSimpArgs false
namespace Go.Eng
open Go Go.RowKit
def QH (P:Program) (f:FuncId) (args:List AV) (ob:Nat→List (Nat × Option Ob)) (nx:Nat) (res:AV):Prop:=
 ∀(n:Nat) (w:World) (S:Nat→Prop) (vs:List Value),(∀k,S k→k < w.heap.size)→E1 (fun _=>V6) S w args vs→
  Calls P f vs.toArray w fun e w'=>∃et,post P f n w S (ob et) nx res e w'
theorem UV {P:Program} {f:FuncId} {fn:Func} {c:Code} {args:List AV} {ob:Nat→List (Nat × Option Ob)} {nx:Nat} {res:AV} (hf:P.funcs[f]? =some fn)(hb:fn.body=some c)(ha:args.length≤fn.ntmps)
  (h:∀w S,Wt ⟨P,f,fn.ntmps,w,S,fun _=>False⟩ ⟨G3 0 args,[],0⟩ [.code c] (fun e w'=>∃et,post P f fn.ntmps w S (ob et) nx res e w')):QH P f args ob nx res:=by
 intro n w S vs hS hA cs
 let b:Frame:= {(default:Frame) with fn:=f,kind:=.normal}
 have henter:Frame.enter P f vs.toArray .normal=b.at {tmps:=vs.toArray++Array.replicate (fn.ntmps - vs.toArray.size) undef,defers:=[]} [.code c]:=by
  simp [Frame.enter,Frame.at,hf,hb,b]
 have hg:Gm ⟨P,f,fn.ntmps,w,S,fun _=>False⟩ ⟨G3 0 args,[],0⟩ {tmps:=vs.toArray++Array.replicate (fn.ntmps - vs.toArray.size) undef,defers:=[]} w:=by
  refine⟨fun _=>V6,S,⟨hS,fun k h=> .inl h,fun i o h=>by simp [B9] at h,fun i j _ h=>h.elim,fun i h=>h.elim,fun i h=>h.elim,Y0.refl _ _⟩,fun t v ht=>?_,?_,rfl⟩
  ·rw [show(⟨G3 0 args,[],0⟩:St).tm=G3 0 args from rfl,hZ] at ht
   simp only [Nat.not_lt_zero,if_false,Nat.sub_zero] at ht
   obtain⟨u,h1,h2⟩:=hA.2 t v ht
   have:(vs.toArray++Array.replicate (fn.ntmps - vs.toArray.size) undef).getD t undef=u:=by
    rw [Array.getD_eq_getD_getElem?,Array.getElem?_append_left (by simpa using (List.getElem?_eq_some_iff.1 h1).1)]
    simp [h1]
   rw [show({tmps:=vs.toArray++Array.replicate (fn.ntmps - vs.toArray.size) undef,defers:=[]}:Act).tmps=vs.toArray++Array.replicate (fn.ntmps - vs.toArray.size) undef from rfl,this]
   exact h2
  ·have:=hA.1
   simp
   omega
 obtain⟨e,w',fr,⟨et,hR⟩,hc,hfr,hl⟩:=h w S _ w hg b cs rfl rfl
 rw [← henter] at hc
 exact⟨e,w',fr,⟨et,jO hR⟩,hc,hfr,hl⟩
section rules
variable {cx:Cx} {s:St} {dst:Option Nat} {ty:TypeId} {pos:String} {aft:Array Edge} {R:Ending→World→Prop} {k:List Item} {ops:Array Oper} {rest:List Oper}
def cG {ι:Type} (cx:Cx) (s:St) (o:Oper) (s':ι→St):Prop:=
 ∀(Q:Exit→Act→World→Prop) (a:Act) (w:World),Gm cx s a w→o.wp cx.P a w (fun a' w'=>∃i,Gm cx (s' i) a' w') Q
theorem KO {ι:Type} {op:Go.Op} {s':ι→St} (h:cG cx s ⟨dst,op,ty,pos,aft,none⟩ s')(hW:∀i,Wr cx (s' i) ops rest k R):Wr cx s ops (⟨dst,op,ty,pos,aft,none⟩::rest) k R:=by
 intro a w hg
 refine wpList_plain rfl fun K hK=>?_
 exact l6 (fun a' w' ⟨i,h'⟩=>hK _ _ (hW i a' w' h')) (fun _ _ _ h=>h) (h _ a w hg)
theorem MU (d m:Nat) {g:FuncId} {xs:Array Operand} {ats:Array TypeId} {cargs:List AV} {ob':Nat→List (Nat × Option Ob)} {nx':Nat} {res:AV} (hE:Go.Proofs.Enters cx.P g)(hC:QH cx.P g cargs ob' nx' res)(hd:D6 dst cx.n=true)(ha:cT s false xs.toList cargs)(hns:∀e,(vI (ob' e)&&res.all AC.ns)=true)(hdx:s.nx=d)(hm:d + nx'=m):
  cG cx s ⟨dst,.call {callee:=.value (.func g),args:=xs,argTypes:=ats},ty,pos,aft,none⟩ fun e=>((⟨s.tm,CS d (ob' e) s.ob,m⟩:St).sets dst (some (res.up d))):=by
 subst hdx hm
 intro Q a w hg
 obtain⟨E,S,hI,hT,hn,hdf⟩:=hg
 unfold Oper.wp
 rw [execOp_call_go,hE]
 have hargs:#[]++Array.map a.eval xs++#[]=(xs.toList.map a.eval).toArray:=by
  apply Array.ext'
  simp
 rw [hargs,Oper.upon_enter]
 refine(hC 0 w (Sc false S w) (xs.toList.map a.eval) (fun k hk=>?_) (ha.den hI hT)).mono ?_
 ·exact hk
 ·rintro e w' ⟨et,u,E',S',rfl,hI',hu⟩
  have hns':=hns et
  rw [Bool.and_eq_true] at hns'
  obtain⟨h1,h2⟩:=hI.join hI' (.inr hns'.1)
  refine⟨et,_,_,by rw [r7,s7];exact h1,J8 (s:=⟨s.tm,CS s.nx (ob' et) s.ob,s.nx + nx'⟩) hd hn (N7.carry h2 hT) (fun v' e=>?_),by rw [T8];exact hn,by rw [put_defers];exact hdf⟩
  cases e
  exact BT (S':=fun k=>S k∨(false=true∧S' k)) (fun k hk=>hk) (lL hns'.2 hu)
end rules
theorem xQ {p:List Int→Bool} {L:List (List Int)} {m n:Nat} {z:List Int} (hz:L[n]? =some z)(e:n=m)(h:p z=true):(L.take m).filter p++[z]=(L.take (m + 1)).filter p:=by rw [KS hz e,if_pos h]
theorem OS {p:List Int→Bool} {L:List (List Int)} {m n:Nat} {z:List Int} (hz:L[n]? =some z)(e:n=m)(h:p z=false):(L.take m).filter p=(L.take (m + 1)).filter p:=by rw [KS hz e,h];rfl
def jV (rs:T9) (fs:w9) (d:Y1):List (List Int):=N6 rs fs d.1 d.2.1 d.2.2.1 d.2.2.2.1 d.2.2.2.2
def dW (rs:T9) (fs:w9) (d:Y1):Bool:=decide (0 < (jV rs fs d).length)
def B6 (rs:T9) (fs:w9) (ds:List Y1):Bool:=C6 rs fs&&(gZ rs ds&&ds.any (dW rs fs))
def P1 (rs:T9) (fs:w9) (ds:List Y1):Int:=if B6 rs fs ds=true then Y4 (dW rs fs) ds else 0
def P3 (rs:T9) (fs:w9) (ds:List Y1):List Int:=if B6 rs fs ds=true then(jV rs fs (ds.getD (Y4 (dW rs fs) ds).toNat ([],[],false,0,0))).headD [] else []
section
variable {rs:T9} {fs:w9} {ds:List Y1} {m n:Nat} {z:Y1}
theorem DP (h:(0:Int) < ((N6 rs fs z.1 z.2.1 z.2.2.1 z.2.2.2.1 z.2.2.2.2).length:Nat)):dW rs fs z=true:=decide_eq_true (by unfold jV;omega)
theorem XQ (h:¬(0:Int) < ((N6 rs fs z.1 z.2.1 z.2.2.1 z.2.2.2.1 z.2.2.2.2).length:Nat)):dW rs fs z=false:=decide_eq_false (by unfold jV;omega)
theorem yN {x:List Int} (h1:C6 rs fs=true)(h2:gZ rs ds=true)(h:∀j z,j < m→ds[j]? =some z→dW rs fs z=false)(hz:ds[m]? =some z)(hh:dW rs fs z=true)(hx:(N6 rs fs z.1 z.2.1 z.2.2.1 z.2.2.2.1 z.2.2.2.2)[0]? =some x):B6 rs fs ds=true∧P1 rs fs ds=(m:Int)∧P3 rs fs ds=x:=by
 have h3:ds.any (dW rs fs)=true:=s8 hz hh
 have h4:B6 rs fs ds=true:=by unfold B6;rw [h1,h2,h3];rfl
 have h5:Y4 (dW rs fs) ds=(m:Int):=W2 h hz hh
 refine⟨h4,by unfold P1;rw [if_pos h4,h5],?_⟩
 unfold P3
 rw [if_pos h4,h5]
 have:ds.getD ((m:Int)).toNat ([],[],false,0,0)=z:=by rw [show((m:Int)).toNat=m from rfl,List.getD_eq_getElem?_getD,hz];rfl
 rw [this]
 have hx':(jV rs fs z)[0]? =some x:=hx
 cases hc:jV rs fs z with
 | nil=>rw [hc] at hx';simp at hx'
 | cons y r=>rw [hc] at hx';simpa using hx'
theorem gQ (h:∀j z,j < m→ds[j]? =some z→dW rs fs z=false)(hm:ds.length≤m):B6 rs fs ds=false:=by
 unfold B6
 rw [n4 h hm]
 simp
theorem tU {k:IntKind} {a a':Int} {b b':Bool} (h1:a=a')(h2:b=b'):AV.tup [(false,[.t none (.v (.int k a))]),(false,[.own 0]),(false,[.t none (.v (.bool b))])]= .tup [(false,[.t none (.v (.int k a'))]),(false,[.own 0]),(false,[.t none (.v (.bool b'))])]:=by rw [h1,h2]
theorem yQ (h:C6 rs fs=false):B6 rs fs ds=false:=by unfold B6;rw [h];rfl
theorem zP (h:gZ rs ds=false):B6 rs fs ds=false:=by unfold B6;rw [h];simp
theorem LX (h:B6 rs fs ds=false):P1 rs fs ds=0∧P3 rs fs ds=[]:=by unfold P1 P3;rw [h];exact⟨rfl,rfl⟩
theorem zT:(P3 rs fs ds).length≤5:=by
 unfold P3
 split
 ·cases hc:jV rs fs (ds.getD (Y4 (dW rs fs) ds).toNat ([],[],false,0,0)) with
  | nil=>simp
  | cons y r=>
   have:y∈jV rs fs (ds.getD (Y4 (dW rs fs) ds).toNat ([],[],false,0,0)):=by rw [hc];exact List.mem_cons_self
   have:=(JX this).2
   simp only [List.headD_cons]
   omega
 ·simp
end
def B1:Nat→List UInt8
 | 0=>[]
 | k + 1=>B1 ((k + 1) / 10)++[UInt8.ofNat (48 +(k + 1) % 10)]
theorem J2 {q:Nat} (h:0 < q):B1 q=B1 (q / 10)++[UInt8.ofNat (48 + q % 10)]:=by
 cases q with
 | zero=>omega
 | succ k=>rw [B1]
theorem jL {q n:Nat} (h:0 < n):KZ .rem .i64 (q:Int) (n:Int)=some (.int .i64 ((q % n:Nat):Int)):=by
 simp only [KZ]
 rw [if_neg (by omega),Int.ofNat_tmod]
theorem fL {q n:Nat} (h:0 < n)(hq:q < 4611686018427387904):KZ .quo .i64 (q:Int) (n:Int)=some (.int .i64 ((q / n:Nat):Int)):=by
 simp only [KZ]
 have hle:=Nat.div_le_self q n
 rw [if_neg (by omega),← Int.ofNat_tdiv]
 generalize q / n=r at *
 rw [n8 (by omega) (by omega)]
theorem zW (q:Nat):D4 [IntKind.u8.wrap (IntKind.i64.wrap (48 +((q % 10:Nat):Int)))]=[UInt8.ofNat (48 + q % 10)]:=by
 have h:q % 10 < 10:=Nat.mod_lt _ (by decide)
 rw [n8 (by omega) (by omega)]
 have:IntKind.u8.wrap (48 +((q % 10:Nat):Int))=((48 + q % 10:Nat):Int):=by
  rw [show IntKind.u8.wrap (48 +((q % 10:Nat):Int))=(48 +((q % 10:Nat):Int)) % 256 from rfl]
  omega
 rw [this]
 rfl
end Go.Eng

set_option linter.unusedVariables false
set_option linter.unusedSimpArgs false
namespace Go.Eng
open Go Go.RowKit
theorem ZJ {q:Nat} (n:Nat) {b:Int} (hb:b=(n:Int))(h:0 < n):KZ .rem .i64 (q:Int) b=some (.int .i64 ((q % n:Nat):Int)):=by
 subst hb
 exact jL h
theorem FJ {q:Nat} (n:Nat) {b:Int} (hb:b=(n:Int))(h:0 < n)(hq:q < 4611686018427387904):KZ .quo .i64 (q:Int) b=some (.int .i64 ((q / n:Nat):Int)):=by
 subst hb
 exact fL h hq
end Go.Eng
namespace Go.Eng
open Go Go.RowKit
end Go.Eng
