import Derived.Test.YtiikejgonbnimaaGreatEngB
import Derived.Deep.Fields
import Derived.ChangeArms
import Derived.WideShapes
import Derived.Laws.Strings
import Derived.Laws.Cover1
set_option linter.unusedVariables false
set_option linter.unusedSimpArgs false
namespace Go.Eng
open Go Go.RowKit

def s7 (x:Int):Prop:= -9223372036854775808≤x∧x≤9223372036854775807
def W5 (b:List Int) (t:Int):Option Int:=
 (if 0≤t then b[t.toNat]? else some (-1 - t)).bind fun v=>if -40≤v∧v≤9 then some v else none
def Y8 (b:List Int):List Int→Option (List Int)
 | []=>some []
 | t::r=>(W5 b t).bind fun v=>(Y8 b r).map (v:: ·)
theorem nW (b:List Int)(x y:List Int):Y8 b (x++y)=(Y8 b x).bind fun u=>(Y8 b y).map (u++ ·):=by
 induction x with
 | nil=>simp [Y8]
 | cons t x ih=>
  simp only [List.cons_append,Y8,ih]
  cases W5 b t with
  | none=>rfl
  | some v=>
   simp only [Option.bind_some]
   cases Y8 b x with
   | none=>rfl
   | some u=>cases Y8 b y <;> rfl
theorem N6 {b x u:List Int} (h:Y8 b x=some u):u.length=x.length:=by
 induction x generalizing u with
 | nil=>cases h;rfl
 | cons t x ih=>
  simp only [Y8] at h
  obtain⟨v,_,h⟩:=Option.bind_eq_some_iff.mp h
  obtain⟨u',h1,rfl⟩:=Option.map_eq_some_iff.mp h
  simp [ih h1]
theorem iX {b ts acc:List Int} {t v:Int} {m n:Nat} (h:Y8 b (ts.take m)=some acc)(ht:ts[n]? =some t)(e:n=m)(hv:W5 b t=some v):Y8 b (ts.take (m + 1))=some (acc++[v]):=by
 subst e
 rw [List.take_add_one,ht,nW,h]
 simp [Y8,hv]
theorem Z1 {b ts acc:List Int} {t:Int} {m n:Nat} (h:Y8 b (ts.take m)=some acc)(ht:ts[n]? =some t)(e:n=m)(hv:W5 b t=none):Y8 b ts=none:=by
 subst e
 have hn:=(List.getElem?_eq_some_iff.1 ht).1
 rw [← List.take_append_drop n ts,nW,h,List.drop_eq_getElem_cons hn]
 have:ts[n]=t:=(List.getElem?_eq_some_iff.1 ht).2
 simp [Y8,this,hv]
theorem KQ {b:List Int} {t:Int} (h0:0≤t)(h:(b.length:Int)≤t):W5 b t=none:=by
 unfold W5
 rw [if_pos h0,List.getElem?_eq_none (by omega)]
 rfl
theorem vP {b:List Int} {t v:Int} (h0:0≤t)(h:b[t.toNat]? =some v)(hv:¬(-40≤v∧v≤9)):W5 b t=none:=by
 unfold W5
 rw [if_pos h0,h,Option.bind_some,if_neg hv]
theorem bX {b:List Int} {t v:Int} (h0:0≤t)(h:b[t.toNat]? =some v)(hv: -40≤v∧v≤9):W5 b t=some v:=by
 unfold W5
 rw [if_pos h0,h,Option.bind_some,if_pos hv]
theorem ST {b:List Int} {t:Int} (h0:¬0≤t)(ht: -9223372036854775808≤t)(hv:¬(-40≤IntKind.i64.wrap (-1 - t)∧IntKind.i64.wrap (-1 - t)≤9)):W5 b t=none:=by
 rw [s8 (by omega) (by omega)] at hv
 unfold W5
 rw [if_neg h0,Option.bind_some,if_neg hv]
theorem uT {b:List Int} {t:Int} (h0:¬0≤t)(ht: -9223372036854775808≤t)(hv: -40≤IntKind.i64.wrap (-1 - t)∧IntKind.i64.wrap (-1 - t)≤9):W5 b t=some (IntKind.i64.wrap (-1 - t)):=by
 have e:IntKind.i64.wrap (-1 - t)= -1 - t:=s8 (by omega) (by omega)
 rw [e] at hv ⊢
 unfold W5
 rw [if_neg h0,Option.bind_some,if_pos hv]
end Go.Eng

set_option linter.unusedVariables false
set_option linter.unusedSimpArgs false
namespace Go.Eng
open Go Go.RowKit Go.ChangeShapes Go.WideShapes Go.Deep

def Op {α:Type} (P:Program) (t:TypeId) (sz:Nat) (enc:α→Nat→T) (ok:α→Prop):Prop:=
 ∀(H:Type) (en:TypeId × Value→H) (w:World) (base:Nat) (spare:Nat→Bool) (held:Bool) (fuel:Nat) (cs:List Value) (x:DataW H × List MemPlace),
  DataW.trod en P w base spare held fuel t cs=some x→∃a,cs.length=sz∧(∀j,j < sz→∃u,cs[j]? =some u∧Rd w (fun k=>k < w.heap.size) (enc a j) u)∧ok a
def CG {α:Type} (ok:α→Prop) (l:List α):Prop:=l.length≤9223372036854775807∧∀a∈l,ok a
abbrev JY (l:List UInt8):ByteArray:=⟨l.toArray⟩
def Z9:List UInt8→Nat→T:=fun s _=> .v (.string (JY s))
def E9 {α β:Type} (e0:α→Nat→T) (e1:β→Nat→T):α × β→Nat→T:=fun x j=>match j with | 0=>e0 x.1 0 | _=>e1 x.2 0
def d8 {α β γ:Type} (e0:α→Nat→T) (e1:β→Nat→T) (e2:γ→Nat→T):α × β × γ→Nat→T:=fun x j=>match j with | 0=>e0 x.1 0 | 1=>e1 x.2.1 0 | _=>e2 x.2.2 0
def B9 {α:Type} (sz:Nat) (e:α→Nat→T):List α→Nat→T:=fun l _=> .sl sz e l
def a8:Bool→Nat→T:=fun b _=> .v (.bool b)
section
variable {P:Program} {t e:TypeId}
theorem ZJ {α:Type} {p:Nat→α→Prop} (n:Nat)(h:∀i,i < n→∃x,p i x):∃l:List α,l.length=n∧∀i x,l[i]? =some x→p i x:=by
 induction n with
 | zero=>exact⟨[],rfl,fun i x hx=>by simp at hx⟩
 | succ n ih=>
  obtain⟨l,hl,hp⟩:=ih (fun i hi=>h i (by omega))
  obtain⟨y,hy⟩:=h n (by omega)
  refine⟨l++[y],by simp [hl],fun i x hx=>?_⟩
  by_cases hi:i < l.length
  ·rw [List.getElem?_append_left hi] at hx
   exact hp i x hx
  ·rw [List.getElem?_append_right (by omega)] at hx
   have hi2:i - l.length=0:=by
    have:=(List.getElem?_eq_some_iff.1 hx).1
    simp at this
    omega
   rw [hi2] at hx
   simp at hx
   rw [← hx,show i=n by omega]
   exact hy
theorem sL {α:Type} {sz:Nat} {enc:α→Nat→T} {ok:α→Prop} (ht:P.underlying t=some (.slice e))(hc:P.cellsOf e=sz)(hz:0 < sz)(ho:Op P e sz enc ok):Op P t 1 (B9 sz enc) (CG ok):=by
 intro H en w base spare held fuel cs x h
 rcases DataW.trod_slice ht h with⟨rfl,_⟩ | ⟨a,len,cap,elems,rest,n,_,rfl,_,hb,hl,hm,hlen,hel,_,_⟩
 ·exact⟨[],rfl,fun j hj=>by(obtain rfl:j=0:=by omega);exact⟨_,rfl,OX⟩,by simp,fun a ha=>by simp at ha⟩
 ·have each:∀i,i < len→∃y:α,(∀j,j < sz→∃u,w.cell? (a.add (i * sz + j))=some u∧Rd w (fun k=>k < w.heap.size) (enc y j) u)∧ok y:=by
   intro i hi
   have h1:=hel i hi
   rw [List.getElem?_eq_getElem (by omega),Option.bind_eq_some_iff] at h1
   obtain⟨cs',h2,h3⟩:=h1
   obtain⟨y,hK1,hK,hok⟩:=ho H en w base spare held n cs' _ h3
   obtain⟨_,hsz,hcell⟩:=World.cells?_some h2
   refine⟨y,fun j hj=>?_,hok⟩
   obtain⟨u,hu,hr⟩:=hK j hj
   have h4:=hcell j (by omega)
   rw [hu,hc,Deep.add_add] at h4
   exact⟨u,h4,hr⟩
  obtain⟨l,hll,hp⟩:=ZJ len each
  have hmx:maxLen=9223372036854775807:=by decide
  subst hll
  have hR:Rd w (fun k=>k < w.heap.size) (.sl sz enc l) (.slice (some a) l.length cap):=by
   refine⟨some a,cap,rfl,hl,fun i y hy=>⟨a,rfl,?_,fun j hj=>(hp i y hy).1 j hj⟩⟩
   obtain⟨u,hu,_⟩:=(hp i y hy).1 0 hz
   have:=World.block_lt_of_cell? w _ hu
   rwa [E3] at this
  refine⟨l,rfl,fun j hj=>by(obtain rfl:j=0:=by omega);exact⟨_,rfl,hR⟩,by omega,fun y hy=>?_⟩
  obtain⟨i,hi⟩:=List.getElem?_of_mem hy
  exact(hp i y hi).2
end
theorem sI {H:Type} {en:TypeId × Value→H} {P:Program} {t:TypeId} {w:World} {base:Nat} {spare:Nat→Bool} {held:Bool} {v:Value} {d:DataW H} {p:List MemPlace} {α:Type} {enc:α→Nat→T} {ok:α→Prop}
  (ho:Op P t 1 enc ok) (hc:v.cells.toList=[v]) (h:DataW.Trod en P w base spare held t v d p):∃a,Rd w (fun k=>k < w.heap.size) (enc a 0) v∧ok a:=by
 obtain⟨fuel,hf⟩:=h
 obtain⟨a,hl,hK,hok⟩:=ho H en w base spare held fuel _ _ hf
 obtain⟨u,hu,hr⟩:=hK 0 (by omega)
 rw [hc] at hu
 cases hu
 exact⟨a,hr,hok⟩
end Go.Eng
namespace Go.Eng
open Go Go.RowKit
theorem QM {E:Nat→EE} {S:Nat→Prop} {w:World}:F2 E S w [] []:=⟨rfl,fun j v h=>by simp at h⟩
theorem KN {E:Nat→EE} {S:Nat→Prop} {w:World} {a:AV} {u:Value} {al:List AV} {us:List Value} (h:M6 E S w a u)(hr:F2 E S w al us):F2 E S w (a::al) (u::us):=by
 refine⟨by simp [hr.1],fun j v hj=>?_⟩
 match j with
 | 0=>cases hj;exact⟨u,rfl,h⟩
 | j + 1=>exact hr.2 j v hj
theorem ZP {w w':World} (h:xZ (fun _=>False) w w'):Below w.heap.size w w':=⟨h.os,h.tape,h.output,h.size,fun k hk=>h.block k hk (fun h=>h)⟩
end Go.Eng

set_option linter.unusedVariables false
set_option linter.unusedSimpArgs false
namespace Go.Eng
open Go Go.RowKit

def ET (cs:List ((Nat→T) × Nat)):List AV:=cs.map fun c=> .c (.pel none c.1 c.2)
def Fu (P:Program) (f:FuncId) (args:List AV) (res:AV):Prop:=Go.Proofs.Enters P f∧Pu P f args [] 0 res
theorem yP {E:Nat→EE} {S:Nat→Prop} {w:World} {bs0 bs:List AV} {us vs:List Value} (h:F2 E S w bs0 us)(k:F2 E S w bs vs):F2 E S w (bs0++bs) (us++vs):=by
 refine⟨by simp [h.1,k.1],fun j v hj=>?_⟩
 rw [List.getElem?_append] at hj
 split at hj
 ·rename_i hl
  obtain⟨u,h1,h2⟩:=h.2 j v hj
  exact⟨u,by rw [List.getElem?_append_left (by rw [h.1];exact hl)];exact h1,h2⟩
 ·rename_i hl
  obtain⟨u,h1,h2⟩:=k.2 _ v hj
  exact⟨u,by rw [List.getElem?_append_right (by rw [h.1];omega),h.1];exact h1,h2⟩
section rules
variable {cx:Cx} {s:St} {dst:Option Nat} {ty:TypeId} {pos:String} {aft:Array Edge}
inductive SP (s:St):List Operand→List (Nat × Nat)→Prop
 | nil:SP s [] []
 | cons {x:Operand} {i o:Nat} {xs:List Operand} {ps:List (Nat × Nat)} (hx:s.ev x=some (.c (.ptr i o))) (hr:SP s xs ps):SP s (x::xs) ((i,o)::ps)
theorem SP.den {xs:List Operand} {ps:List (Nat × Nat)} {a:Act} {E:Nat→EE} {S:Nat→Prop} {w:World} (h:SP s xs ps)(hT:O7 E S w s.tm a.tmps):
  (xs.map a.eval).length=ps.length∧∀(j:Nat) (p:Nat × Nat),ps[j]? =some p→∃u',(xs.map a.eval)[j]? =some u'∧NV E p.1 p.2 u':=by
 induction h with
 | nil=>exact⟨rfl,fun j p hj=>by simp at hj⟩
 | cons hx hr ih=>
  refine⟨by simp at ih ⊢;exact ih.1,fun j p hj=>?_⟩
  match j with
  | 0=>cases hj;exact⟨_,rfl,J9 hT hx⟩
  | j + 1=>exact ih.2 j p hj
theorem MP {f:Nat} {xs:Array Operand} {ps:List (Nat × Nat)} (hx:SP s xs.toList ps):Ps cx s (.makeFunc (.func f) #[] xs) (.c (.clo f ps)):=by
 intro a w E S hI hT
 obtain⟨h1,h2⟩:=hx.den hT
 refine⟨.func (.func f) #[] (xs.map a.eval),fun _ _ _ _ _ _ _=>?_,xs.toList.map a.eval,?_,h1,h2⟩
 ·simp [execOp,Instr.makeFunc]
 ·congr 1
  apply Array.ext'
  simp
theorem m0 {f:Nat} {xs:Array Operand} {ps:List (Nat × Nat)} (hd:Q6 dst cx.n=true)(hx:SP s xs.toList ps):
  Os cx s ⟨dst,.makeFunc (.func f) #[] xs,ty,pos,aft,none⟩ (s.sets dst (some (.c (.clo f ps)))) true:=C8 hd (MP hx)
theorem KM {E:Nat→EE} {S:Nat→Prop} {w:World} {cs:List ((Nat→T) × Nat)} {us:List Value} (hl:us.length=cs.length)
  (h:∀(j:Nat) (p:(Nat→T) × Nat),cs[j]? =some p→∃ad:Addr,us[j]? =some (.pointer (some ad))∧S ad.block∧∀q,q < p.2→∃u',w.cell? (ad.add q)=some u'∧Rd w S (p.1 q) u'):F2 E S w (ET cs) us:=by
 refine⟨by simp [ET,hl],fun j v hj=>?_⟩
 unfold ET at hj
 rw [List.getElem?_map] at hj
 obtain⟨p,hp,rfl⟩:=Option.map_eq_some_iff.mp hj
 obtain⟨ad,h1,h2,h3⟩:=h j p hp
 exact⟨_,h1,trivial,ad,rfl,h2,h3⟩
theorem nR (d m:Nat)(sh:Bool) {t:Nat} {f:Nat} {cs:List ((Nat→T) × Nat)} {v:AV} {xs:Array Operand} {ats:Array TypeId} {cargs:List AV} {ob':List (Nat × Option Ob)} {nx':Nat} {res:AV} (hE:Go.Proofs.Enters cx.P f)(hC:Pu cx.P f (cargs++ET cs) ob' nx' res)(hd:Q6 dst cx.n=true)(hv:s.ev (.tmp t)=some v)(hf:yN s sh v (.c (.fv f cs)))(ha:pR s sh xs.toList cargs)(hns:(sh||(JH ob'&&res.all AC.ns))=true)(hdx:s.nx=d)(hm:d + nx'=m):
  Os cx s ⟨dst,.call {callee:=.value (.tmp t),args:=xs,argTypes:=ats},ty,pos,aft,none⟩ ((⟨s.tm,BP d ob' s.ob,m⟩:St).sets dst (some (res.up d))) true:=by
 subst hdx hm
 intro Q a w hg
 obtain⟨E,S,hI,hT,hn,hdf⟩:=hg
 obtain⟨us,hu,hl,hcap⟩:=hf.den hI (J9 hT hv)
 have hrun:execOp a.eval ⟨dst,.call {callee:=.value (.tmp t),args:=xs,argTypes:=ats},ty,pos,aft,none⟩=callFunc f (#[]++Array.map a.eval xs++us.toArray):=by
  simp [execOp,resolve,Deferred.ofValue,invoke,hu]
 unfold Oper.wp
 rw [hrun,hE]
 have hargs:#[]++Array.map a.eval xs++us.toArray=(xs.toList.map a.eval++us).toArray:=by
  apply Array.ext'
  simp
 rw [hargs,Oper.upon_enter]
 refine(hC 0 w (Sc sh S w) (xs.toList.map a.eval++us) (fun k hk=>?_) (yP (ha.den hI hT) (KM hl hcap))).mono ?_
 ·unfold Sc at hk
  split at hk
  ·exact hI.slt k hk
  ·exact hk
 ·rintro e w' ⟨u,E',S',rfl,hI',hu⟩
  obtain⟨h1,h2⟩:=hI.join hI' (by cases sh <;> simp_all)
  refine⟨⟨_,_,by rw [B7,A7];exact h1,I8 (s:=⟨s.tm,BP s.nx ob' s.ob,s.nx + nx'⟩) hd hn (O7.carry h2 hT) (fun v' e=>?_),by rw [P8];exact hn,by rw [put_defers];exact hdf⟩,fun _=>⟨hI'.kept.size,fun k hk=>hI'.kept.block k hk (fun h=>h)⟩⟩
  cases e
  cases hsh:sh
  ·have hres:res.all AC.ns=true:=by rw [hsh] at hns;simp_all
   exact cP (S':=fun k=>S k∨(false=true∧S' k)) (fun k hk=>hk) (pH hres hu)
  ·exact cP (fun k hk=> .inr ⟨rfl,hk⟩) hu
end rules
end Go.Eng

set_option linter.unusedVariables false
set_option linter.unusedSimpArgs false
namespace Go.Eng
open Go Go.RowKit

theorem GS:∀x:List UInt8,Op.bytesLess x x=false
 | []=>rfl
 | a::x=>by simp [Op.bytesLess,GS x]
theorem qQ:∀x y:List UInt8,Op.bytesLess x y=true→Op.bytesLess y x=false
 | x,[]=>fun h=>by cases x <;> simp [Op.bytesLess] at h
 | [],b::y=>fun _=>rfl
 | a::x,b::y=>fun h=>by
  simp only [Op.bytesLess,Bool.or_eq_true,Bool.and_eq_true,decide_eq_true_eq,beq_iff_eq] at h
  rcases h with h | ⟨rfl,h⟩
  ·have h1:¬b < a:=by simp only [UInt8.lt_iff_toNat_lt] at h ⊢;omega
   have h2:¬b=a:=by rintro rfl;simp [UInt8.lt_iff_toNat_lt] at h
   simp [Op.bytesLess,h1,h2]
  ·simp [Op.bytesLess,qQ x y h,UInt8.lt_iff_toNat_lt]
theorem QR:∀x y:List UInt8,Op.bytesLess y x=false→Op.bytesLess x y=true∨x=y
 | [],[]=>fun _=> .inr rfl
 | [],_::_=>fun _=> .inl rfl
 | a::x,[]=>fun h=>by simp [Op.bytesLess] at h
 | a::x,b::y=>fun h=>by
  simp only [Op.bytesLess,Bool.or_eq_false_iff,decide_eq_false_iff_not] at h
  by_cases he:a=b
  ·subst he
   have h2:Op.bytesLess y x=false:=by simpa using h.2
   rcases QR x y h2 with h3 | rfl
   ·exact .inl (by simp [Op.bytesLess,h3])
   ·exact .inr rfl
  ·have h1:a < b:=by
    have h3:=h.1
    have h4:a.toNat≠b.toNat:=fun z=>he (UInt8.toNat_inj.1 z)
    simp only [UInt8.lt_iff_toNat_lt] at h3 ⊢
    omega
   exact .inl (by simp [Op.bytesLess,h1])
theorem UM (x y:List UInt8):(Op.bytesLess x y||x == y)=!Op.bytesLess y x:=by
 cases h:Op.bytesLess y x
 ·rcases QR x y h with h | h <;> simp [h]
 ·have h1:=qQ _ _ h
  have h2:¬x=y:=by rintro rfl;rw [GS] at h;cases h
  simp [h1,h2]

theorem IZ (l:List UInt8):(JY l).toList=l:=ByteArray.toList_mk l
def TJ (op:BinOp) (a b:List UInt8):Option Value:=
 match op with
 | .eql=>some (.bool (decide (a=b)))
 | .neq=>some (.bool (decide (a≠b)))
 | .lss=>some (.bool (Op.bytesLess a b))
 | .leq=>some (.bool (!(Op.bytesLess b a)))
 | .gtr=>some (.bool (Op.bytesLess b a))
 | .geq=>some (.bool (!(Op.bytesLess a b)))
 | _=>none
theorem VQ (a b:List UInt8):(a == b)=decide (a=b):=by
 by_cases h:a=b <;> simp [h]
theorem PO {P:Program} {op:BinOp} {a b:List UInt8} {v:Value} (h:TJ op a b=some v)(t:TypeId)(x y:Operand)(w:World):(do eqGuard op t x y (.string (JY a)) (.string (JY b));binOp op t (.string (JY a)) (.string (JY b)):Sem Value).run P w= .ok v w∧v.oneCell'=true:=by
 cases op <;> simp only [TJ] at h <;> first | (cases h;done) | (cases h;refine⟨?_,rfl⟩;simp [eqGuard,binOp_string_eql,binOp_string_neq,binOp_string_lss,binOp_string_leq,binOp_string_gtr,binOp_string_geq,IZ,VQ,UM];done) | (cases h;refine⟨?_,rfl⟩;simp only [eqGuard,binOp_string_eql,binOp_string_neq,binOp_string_lss,binOp_string_leq,binOp_string_gtr,binOp_string_geq,IZ,UM,Bool.not_not];simp [VQ];done)
section rules
variable {cx:Cx} {s:St} {dst:Option Nat} {ty:TypeId} {pos:String} {aft:Array Edge}
theorem bK {op:BinOp} {t yt:TypeId} {x y:Operand} {a b:List UInt8} {v:Value} (hx:s.ev x=some (sc (.string (JY a))))(hy:s.ev y=some (sc (.string (JY b))))(hv:TJ op a b=some v):
  Ps cx s (.binOp op t x y yt) (sc v):=
 fun A w E S hI hT=>by
  have h1:=Z8 (J9 hT hx)
  have h2:=Z8 (J9 hT hy)
  have h3:=fun w'=>(PO (P:=cx.P) hv t x y w').1
  have h4:=(PO (P:=cx.P) hv t x y w).2
  refine⟨v,fun w' hW _ _ _ _ _=>?_,D2 h4⟩
  simp only [execOp,h1,h2]
  rw [Sem.run_bind,h3]
  rfl
theorem CI {op:BinOp} {t yt:TypeId} {x y:Operand} {a b:List UInt8} {v:Value} (hd:Q6 dst cx.n=true)(hx:s.ev x=some (sc (.string (JY a))))(hy:s.ev y=some (sc (.string (JY b))))(hv:TJ op a b=some v):
  Os cx s ⟨dst,.binOp op t x y yt,ty,pos,aft,none⟩ (s.sets dst (some (sc v))) true:=C8 hd (bK hx hy hv)
theorem UI {t:TypeId} {x:Operand} {b:List UInt8} (ht:cx.P.underlying t=some .string)(hx:s.ev x=some (sc (.string (JY b)))):
  Ps cx s (.call {callee:=.builtin .len,args:=#[x],argTypes:=#[t]}) ((sc (.int .i64 (b.length:Int)))):=bH ht hx
theorem DK {t:TypeId} {x:Operand} {b:List UInt8} (hd:Q6 dst cx.n=true)(ht:cx.P.underlying t=some .string)(hx:s.ev x=some (sc (.string (JY b)))):
  Os cx s ⟨dst,.call {callee:=.builtin .len,args:=#[x],argTypes:=#[t]},ty,pos,aft,none⟩ (s.sets dst (some (sc (.int .i64 (b.length:Int))))) true:=C8 hd (UI ht hx)
theorem RK {t:TypeId} {x y:Operand} {b:List UInt8} {kk:IntKind} {n:Int} {z:UInt8} (ht:cx.P.underlying t=some .string)(hx:s.ev x=some (sc (.string (JY b))))(hy:s.ev y=some (sc (.int kk n)))(h0:0≤n)(hz:b[n.toNat]? =some z):
  Ps cx s (.index t x y) (sc (.int .u8 (z.toNat:Int))):=
 fun A w E S hI hT=>by
  refine⟨_,fun w' hW _ _ _ _ _=>?_,D2 rfl⟩
  simp only [execOp,Z8 (J9 hT hx),Z8 (J9 hT hy)]
  obtain⟨hl,hz⟩:=List.getElem?_eq_some_iff.1 hz
  rw [Sem.run_bind,run_index_string w' t _ kk n ht,dif_pos (by constructor;exact h0;show n < ((b.length:Nat):Int);omega)]
  subst hz
  rfl
theorem mQ {t:TypeId} {x y:Operand} {b:List UInt8} {kk:IntKind} {n:Int} {z:UInt8} (hd:Q6 dst cx.n=true)(ht:cx.P.underlying t=some .string)(hx:s.ev x=some (sc (.string (JY b))))(hy:s.ev y=some (sc (.int kk n)))(h0:0≤n)(hz:b[n.toNat]? =some z):
  Os cx s ⟨dst,.index t x y,ty,pos,aft,none⟩ (s.sets dst (some (sc (.int .u8 (z.toNat:Int))))) true:=C8 hd (RK ht hx hy h0 hz)
end rules
end Go.Eng
