import Derived.Test.YthcggkagkihamaaGreatDoorEngP
import Derived.Lib.AppendIntMem
set_option linter.unusedVariables false
set_option linter.unusedSimpArgs false
namespace Go.Eng
open Go Go.RowKit Go.Proofs
def aL (X:World→Prop) (P:Program) (f:FuncId) (args:List AV) (ob:List (Nat × Option Ob)) (nx:Nat) (res:AV):Prop:=
 ∀(n:Nat) (w:World) (S:Nat→Prop) (vs:List Value),X w→(∀k,S k→k < w.heap.size)→E1 (fun _=>V6) S w args vs→
  Calls P f vs.toArray w fun e w'=>∃u E' S',e= .returned u∧c5 ⟨P,f,n,w,S,fun _=>False⟩ ob nx E' S' w'∧G6 E' S' w' res u
theorem PX {X:World→Prop} {P:Program} {f:FuncId} {fn:Func} {c:Code} {args:List AV} {ob:List (Nat × Option Ob)} {nx:Nat} {res:AV} (hf:P.funcs[f]? =some fn)(hb:fn.body=some c)(ha:args.length≤fn.ntmps)
  (h:∀w S,X w→Wt ⟨P,f,fn.ntmps,w,S,fun _=>False⟩ ⟨G3 0 args,[],0⟩ [.code c] (post P f fn.ntmps w S ob nx res)):aL X P f args ob nx res:=by
 intro n w S vs hX hS hA cs
 let b:Frame:= {(default:Frame) with fn:=f,kind:=.normal}
 have henter:Frame.enter P f vs.toArray .normal=b.at {tmps:=vs.toArray++Array.replicate (fn.ntmps - vs.toArray.size) undef,defers:=[]} [.code c]:=by
  simp [Frame.enter,Frame.at,hf,hb,b]
 have hg:Gm ⟨P,f,fn.ntmps,w,S,fun _=>False⟩ ⟨G3 0 args,[],0⟩ {tmps:=vs.toArray++Array.replicate (fn.ntmps - vs.toArray.size) undef,defers:=[]} w:=by
  refine⟨fun _=>V6,S,⟨hS,fun k h=> .inl h,fun i o h=>by simp [B9] at h,fun i j _ h=>h.elim,fun i h=>h.elim,fun i h=>h.elim,Y0.refl _ _⟩,fun t v ht=>?_,?_,rfl⟩
  ·rw [show(⟨G3 0 args,[],0⟩:St).tm=G3 0 args from rfl,hZ] at ht
   simp only [Nat.not_lt_zero,if_false,Nat.sub_zero] at ht
   obtain⟨u,h1,h2⟩:=hA.2 t v ht
   have:(vs.toArray++Array.replicate (fn.ntmps - vs.toArray.size) undef).getD t undef=u:=by
    rw [Array.getD_eq_getD_getElem?,Array.getElem?_append_left (by simpa using (List.getElem?_eq_some_iff.1 h1).1)]
    simp [h1]
   rw [show({tmps:=vs.toArray++Array.replicate (fn.ntmps - vs.toArray.size) undef,defers:=[]}:Act).tmps=vs.toArray++Array.replicate (fn.ntmps - vs.toArray.size) undef from rfl,this]
   exact h2
  ·have:=hA.1
   simp
   omega
 obtain⟨e,w',fr,hR,hc,hfr,hl⟩:=h w S hX _ w hg b cs rfl rfl
 rw [← henter] at hc
 exact⟨e,w',fr,jO hR,hc,hfr,hl⟩
section
variable {cx:Cx} {s:St} {dst:Option Nat} {ty:TypeId} {pos:String} {aft:Array Edge}
theorem HY {X:World→Prop} (hX:∀w,Y0 cx.M cx.w0 w→X w)(d m:Nat)(sh:Bool) {g:FuncId} {xs:Array Operand} {ats:Array TypeId} {cargs:List AV} {ob':List (Nat × Option Ob)} {nx':Nat} {res:AV} (hE:Go.Proofs.Enters cx.P g)(hC:aL X cx.P g cargs ob' nx' res)(hd:D6 dst cx.n=true)(ha:cT s sh xs.toList cargs)(hns:(sh||(vI ob'&&res.all AC.ns))=true)(hdx:s.nx=d)(hm:d + nx'=m):
  Os cx s ⟨dst,.call {callee:=.value (.func g),args:=xs,argTypes:=ats},ty,pos,aft,none⟩ ((⟨s.tm,CS d ob' s.ob,m⟩:St).sets dst (some (res.up d))) true:=by
 subst hdx hm
 intro Q a w hg
 obtain⟨E,S,hI,hT,hn,hdf⟩:=hg
 unfold Oper.wp
 rw [execOp_call_go,hE]
 have hargs:#[]++Array.map a.eval xs++#[]=(xs.toList.map a.eval).toArray:=by
  apply Array.ext'
  simp
 rw [hargs,Oper.upon_enter]
 refine(hC 0 w (Sc sh S w) (xs.toList.map a.eval) (hX w hI.kept) (fun k hk=>?_) (ha.den hI hT)).mono ?_
 ·unfold Sc at hk
  split at hk
  ·exact hI.slt k hk
  ·exact hk
 ·rintro e w' ⟨u,E',S',rfl,hI',hu⟩
  obtain⟨h1,h2⟩:=hI.join hI' (by cases sh <;> simp_all)
  refine⟨⟨_,_,by rw [r7,s7];exact h1,J8 (s:=⟨s.tm,CS s.nx ob' s.ob,s.nx + nx'⟩) hd hn (N7.carry h2 hT) (fun v' e=>?_),by rw [T8];exact hn,by rw [put_defers];exact hdf⟩,fun _=>⟨hI'.kept.size,fun k hk=>hI'.kept.block k hk (fun h=>h)⟩⟩
  cases e
  cases hsh:sh
  ·have hres:res.all AC.ns=true:=by rw [hsh] at hns;simp_all
   exact BT (S':=fun k=>S k∨(false=true∧S' k)) (fun k hk=>hk) (lL hres hu)
  ·exact BT (fun k hk=> .inr ⟨rfl,hk⟩) hu
end
def DT (P:Program) (w:World):Prop:=Lib.TabIs P w "internal/strconv.uint64pow10" .u64 Lib.pow10Tab
theorem nZ {P:Program} {w w':World} (h:Y0 (fun _=>False) w w')(ht:DT P w):DT P w':=by
 unfold DT Lib.TabIs World.var? at *
 cases hg:P.globalNamed "internal/strconv.uint64pow10" with
 | none=>rw [hg] at ht;simp at ht
 | some g=>
  rw [hg] at ht
  simp only [Option.bind_some] at ht ⊢
  cases hh:w.heap[g]? with
  | none=>rw [hh] at ht;simp at ht
  | some o=>
   rw [h.block g (Array.getElem?_eq_some_iff.1 hh).1 (fun h=>h)]
   exact ht
theorem jI {X:World→Prop} {P:Program} {f:FuncId} {args:List AV} {t:List UInt8} (h:∀(w:World) (S:Nat→Prop) (vs:List Value),X w→(∀k,S k→k < w.heap.size)→E1 (fun _=>V6) S w args vs→Calls P f vs.toArray w fun e w'=>e= .returned (.string (U6 t))∧Below w.heap.size w w'):
  aL X P f args [] 0 (.c (.t none (.v (.string (U6 t))))):=by
 intro n w S vs hX hS hA
 refine(h w S vs hX hS hA).mono fun e w' ⟨he,hb⟩=>⟨_,fun _=>V6,S,he,⟨fun k hk=>Nat.lt_of_lt_of_le (hS k hk) hb.size,fun k hk=> .inl hk,fun i o h=>by simp [B9] at h,fun i j _ h=>h.elim,fun i h=>h.elim,fun i h=>h.elim,⟨hb.os,hb.tape,hb.output,hb.size,fun k hk _=>hb.block k hk⟩⟩,⟨trivial,rfl,rfl⟩⟩
def VY (n:Int):List UInt8:=if n < 0 then 45::B1 n.natAbs else yU n
theorem mM (n:Int):Lib.itoa n=VY n:=by
 unfold Lib.itoa VY
 split
 ·rw [oP (by omega)]
 ·exact IK (by omega)
theorem CL {P:Program} {ρ:Go.Shelf.Ren} (L:Go.Proofs.LaysM.n171 P ρ)(i:Int)(h:B7 i):
  aL (DT P) P (ρ.f 171) [.c (.t none (.v (.int .i64 i)))] [] 0 (.c (.t none (.v (.string (U6 (VY i)))))):=by
 refine jI fun w S vs hX hS hA=>?_
 obtain⟨u0,e0,d0⟩:=hA.2 0 _ rfl
 have hvs:vs=[u0]:=by
  have h:=hA.1
  match vs,h,e0 with
  | [x],_,e0=>cases e0;rfl
 subst hvs
 obtain⟨_,rfl,_⟩:=d0
 refine(Go.Proofs.Any.strconv_Itoa L i h.1 h.2 w hX).mono fun e w' ⟨h1,k,os,h2⟩=>⟨by rw [h1,mM],?_⟩
 subst h2
 exact Go.Lib.below_grow _ w (Nat.le_refl _) k os
theorem iQ:∀(k q:Nat),q < 10 ^ k→(B1 q).length≤k
 | 0,q,h=>by
  obtain rfl:q=0:=by simpa using h
  simp [B1]
 | k + 1,q,h=>by
  rcases Nat.eq_zero_or_pos q with rfl | h0
  ·simp [B1]
  ·rw [J2 h0,List.length_append]
   have:=iQ k (q / 10) (by rw [Nat.pow_succ] at h;omega)
   simp only [List.length_cons,List.length_nil]
   omega
theorem ER {q:Nat} (h:q≤9223372036854775808):(B1 q).length≤20:=iQ 20 q (by omega)
theorem QO {q N:Nat} {out:List UInt8} (h:B1 q++out=B1 N)(hN:N≤9223372036854775808):out.length≤20:=by
 have h1:=ER hN
 rw [← h,List.length_append] at h1
 omega
theorem RJ {q:Nat} {b:Int} (hb:b=10)(hq:q≤9223372036854775808):KZ .quo .i64 (q:Int) b=some (.int .i64 ((q / 10:Nat):Int)):=by
 subst hb
 simp only [KZ]
 have hle:q / 10≤922337203685477581:=by omega
 rw [if_neg (by omega),show(10:Int)=((10:Nat):Int) from rfl,← Int.ofNat_tdiv]
 generalize q / 10=r at *
 rw [n8 (by omega) (by omega)]
theorem tJ {q:Nat} {b:Int} (hb:b=10):KZ .rem .i64 (-(q:Int)) b=some (.int .i64 (-((q % 10:Nat):Int))):=by
 subst hb
 simp only [KZ]
 rw [if_neg (by omega),Int.neg_tmod,show(10:Int)=((10:Nat):Int) from rfl,Int.ofNat_tmod]
theorem xN {q:Nat} {b:Int} (hb:b=10)(hq:q≤9223372036854775808):KZ .quo .i64 (-(q:Int)) b=some (.int .i64 (-((q / 10:Nat):Int))):=by
 subst hb
 simp only [KZ]
 have hle:q / 10≤922337203685477581:=by omega
 rw [if_neg (by omega),Int.neg_tdiv,show(10:Int)=((10:Nat):Int) from rfl,← Int.ofNat_tdiv]
 generalize q / 10=r at *
 rw [n8 (by omega) (by omega)]
theorem JM (q:Nat):D4 [IntKind.u8.wrap (IntKind.i64.wrap (48 + IntKind.i64.wrap (0 - -((q % 10:Nat):Int))))]=[UInt8.ofNat (48 + q % 10)]:=by
 rw [show(0:Int) - -((q % 10:Nat):Int)=((q % 10:Nat):Int) by omega,n8 (x:=((q % 10:Nat):Int)) (by omega) (by omega),zW]
theorem eO {q:Nat} (h:¬(-((q % 10:Nat):Int) < 0)):D4 [IntKind.u8.wrap (IntKind.i64.wrap (48 + -((q % 10:Nat):Int)))]=[UInt8.ofNat (48 + q % 10)]:=by
 have h0:q % 10=0:=by omega
 have:=zW q
 rw [h0] at *
 simpa using this
theorem WW {k:Int} (h:0≤k):yU k=VY k:=by unfold VY;rw [if_neg (by omega)]
theorem QM {k:Int} (h:k < 0):45::B1 k.natAbs=VY k:=by unfold VY;rw [if_pos h]
theorem WZ {k:Int} (h:B7 k):(VY k).length≤21:=by
 have h1:=h.1
 have h2:=h.2
 unfold VY yU
 split
 ·have:=ER (q:=k.natAbs) (by omega)
  simp only [List.length_cons]
  omega
 ·split
  ·simp
  ·have:=ER (q:=k.toNat) (by omega)
   omega
def XY (v:Int):List UInt8:=if -40≤v∧v≤ -1 then 110::yU (-1 - v) else if 0≤v∧v≤9 then yU v else []
def A4 (v:Int):List UInt8:=if XY v=[] then [45] else XY v
def bI (d:Int) (b:List Int):List UInt8:=(VY d++[58])++Lib.join (b.map A4) [44]
section
variable {v:Int} {b:List Int} {m:Nat} {z:Int}
theorem HM (h: -40≤v∧v≤ -1):[110]++VY (IntKind.i64.wrap (-1 - v))=XY v:=by
 rw [n8 (by omega) (by omega),← WW (by omega)]
 unfold XY
 rw [if_pos h]
 rfl
theorem wO (h: -40≤v∧v≤ -1):[110]++VY (if -40≤v∧v≤ -1 then -1 - v else 0)=XY v:=by
 rw [if_pos h,← WW (by omega)]
 unfold XY
 rw [if_pos h]
 rfl
theorem UP (h:0≤v∧v≤9):VY v=XY v:=by
 rw [← WW h.1]
 unfold XY
 rw [if_neg (by omega),if_pos h]
theorem kN (h:¬(-40≤v∧v≤9)):[]=XY v:=by
 unfold XY
 rw [if_neg (by omega),if_neg (by omega)]
theorem fS (v:Int):(XY v).length≤3:=by
 unfold XY
 split
 ·have:=jQ (n:= -1 - v) (by omega)
  simp only [List.length_cons]
  omega
 ·split
  ·have:=jQ (n:=v) (by omega)
   omega
  ·simp
theorem cR (v:Int):(A4 v).length≤3:=by
 unfold A4
 split
 ·simp
 ·exact fS v
theorem YU (h:XY z=[]):[45]=A4 z:=by unfold A4;rw [if_pos h]
theorem JV (h:¬XY z=[]):XY z=A4 z:=by unfold A4;rw [if_neg h]
theorem tT {X y:List UInt8} (hz:b[m]? =some z)(hy:y=A4 z)(hm:0 < m):((X++Lib.join ((b.take m).map A4) [44])++[44])++y=X++Lib.join ((b.take (m + 1)).map A4) [44]:=by
 rw [← cO hz hm,hy]
 simp only [List.append_assoc]
theorem qU {X y:List UInt8} (hz:b[m]? =some z)(hy:y=A4 z)(hm:¬0 < m):(X++Lib.join ((b.take m).map A4) [44])++y=X++Lib.join ((b.take (m + 1)).map A4) [44]:=by
 rw [← wP hz hm,hy]
 simp only [List.append_assoc]
theorem bR {y:List UInt8} (hz:b[m]? =some z)(hy:y=A4 z):(b.take m).map A4++[y]=(b.take (m + 1)).map A4:=by
 rw [hy]
 exact yM hz
theorem mP {d:Int} (hm:b.length≤m):(VY d++[58])++Lib.join ((b.take m).map A4) [44]=bI d b:=by
 unfold bI
 rw [List.take_of_length_le hm]
end
end Go.Eng
