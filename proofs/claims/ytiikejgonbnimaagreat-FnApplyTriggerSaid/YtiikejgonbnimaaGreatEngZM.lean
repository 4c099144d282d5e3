import Derived.Test.YtiikejgonbnimaaGreatEngZL
set_option linter.unusedVariables false
set_option linter.unusedSimpArgs false
namespace Go.Eng
open Go Go.RowKit
def vQ:Value→Nat→T:=fun v _=> .v v
def xG (S0:Nat→Prop) (X:World→Prop) (P:Program) (f:FuncId) (args:List AV) (ob:List (Nat × Option Ob)) (n0:Nat) (ob':List (Nat × Option Ob)) (nx:Nat) (res:AV):Prop:=
 ∀(n:Nat) (w:World) (E:Nat→EE) (S:Nat→Prop) (vs:List Value),X w→(∀k,S0 k→¬K7 E k)→G6 ⟨P,f,n,w,S,K7 E⟩ ob n0 E S w→F2 E S w args vs→
  Calls P f vs.toArray w fun e w'=>∃u E' S',e= .returned u∧G6 ⟨P,f,n,w,S,K7 E⟩ ob' nx E' S' w'∧M6 E' S' w' res u
theorem xN {S0:Nat→Prop} {X:World→Prop} {P:Program} {f:FuncId} {fn:Func} {c:Code} {args:List AV} {ob ob':List (Nat × Option Ob)} {n0 nx:Nat} {res:AV} (hf:P.funcs[f]? =some fn)(hb:fn.body=some c)(ha:args.length≤fn.ntmps)
  (h:∀w S M,X w→(∀k,S0 k→¬M k)→Wt ⟨P,f,fn.ntmps,w,S,M⟩ ⟨X0 0 args,ob,n0⟩ [.code c] (VR P f fn.ntmps w S M ob' nx res)):xG S0 X P f args ob n0 ob' nx res:=by
 intro n w E S vs hX hM hI hA cs
 let b:Frame:= {(default:Frame) with fn:=f,kind:=.normal}
 have henter:Frame.enter P f vs.toArray .normal=b.at {tmps:=vs.toArray++Array.replicate (fn.ntmps - vs.toArray.size) undef,defers:=[]} [.code c]:=by
  simp [Frame.enter,Frame.at,hf,hb,b]
 have hg:Gm ⟨P,f,fn.ntmps,w,S,K7 E⟩ ⟨X0 0 args,ob,n0⟩ {tmps:=vs.toArray++Array.replicate (fn.ntmps - vs.toArray.size) undef,defers:=[]} w:=by
  refine⟨E,S,hI.fn,fun t v ht=>?_,?_,rfl⟩
  ·rw [show(⟨X0 0 args,ob,n0⟩:St).tm=X0 0 args from rfl,TY] at ht
   simp only [Nat.not_lt_zero,if_false,Nat.sub_zero] at ht
   obtain⟨u,h1,h2⟩:=hA.2 t v ht
   have:(vs.toArray++Array.replicate (fn.ntmps - vs.toArray.size) undef).getD t undef=u:=by
    rw [Array.getD_eq_getD_getElem?,Array.getElem?_append_left (by simpa using (List.getElem?_eq_some_iff.1 h1).1)]
    simp [h1]
   rw [show({tmps:=vs.toArray++Array.replicate (fn.ntmps - vs.toArray.size) undef,defers:=[]}:Act).tmps=vs.toArray++Array.replicate (fn.ntmps - vs.toArray.size) undef from rfl,this]
   exact h2
  ·have:=hA.1
   simp
   omega
 obtain⟨e,w',fr,⟨u,E',S',h1,h2,h3⟩,hc,hfr,hl⟩:=h w S (K7 E) hX hM _ w hg b cs rfl rfl
 rw [← henter] at hc
 exact⟨e,w',fr,⟨u,E',S',h1,h2.fn,h3⟩,hc,hfr,hl⟩
section
variable {cx:Cx} {s:St} {dst:Option Nat} {ty:TypeId} {pos:String} {aft:Array Edge}
theorem UR {X:World→Prop} (hX:∀w,xZ cx.M cx.w0 w→X w)(d m:Nat)(sh:Bool) {t:Nat} {f:Nat} {xs:Array Operand} {ats:Array TypeId} {cargs:List AV} {ob':List (Nat × Option Ob)} {nx':Nat} {res:AV} (hE:Go.Proofs.Enters cx.P f)(hC:BG X cx.P f cargs ob' nx' res)(hd:Q6 dst cx.n=true)(hv:s.ev (.tmp t)=some (.c (.clo f [])))(ha:pR s sh xs.toList cargs)(hns:(sh||(JH ob'&&res.all AC.ns))=true)(hdx:s.nx=d)(hm:d + nx'=m):
  Os cx s ⟨dst,.call {callee:=.value (.tmp t),args:=xs,argTypes:=ats},ty,pos,aft,none⟩ ((⟨s.tm,BP d ob' s.ob,m⟩:St).sets dst (some (res.up d))) true:=by
 subst hdx hm
 intro Q a w hg
 obtain⟨E,S,hI,hT,hn,hdf⟩:=hg
 obtain⟨us,hu,hl,_⟩:=J9 hT hv
 obtain rfl:us=[]:=List.eq_nil_of_length_eq_zero hl
 have hrun:execOp a.eval ⟨dst,.call {callee:=.value (.tmp t),args:=xs,argTypes:=ats},ty,pos,aft,none⟩=callFunc f (#[]++Array.map a.eval xs++#[]):=by
  simp [execOp,resolve,Deferred.ofValue,invoke,hu]
 unfold Oper.wp
 rw [hrun,hE]
 have hargs:#[]++Array.map a.eval xs++#[]=(xs.toList.map a.eval).toArray:=by
  apply Array.ext'
  simp
 rw [hargs,Oper.upon_enter]
 refine(hC 0 w (Sc sh S w) (xs.toList.map a.eval) (hX w hI.kept) (fun k hk=>?_) (ha.den hI hT)).mono ?_
 ·unfold Sc at hk
  split at hk
  ·exact hI.slt k hk
  ·exact hk
 ·rintro e w' ⟨u,E',S',rfl,hI',hu⟩
  obtain⟨h1,h2⟩:=hI.join hI' (by cases sh <;> simp_all)
  refine⟨⟨_,_,by rw [B7,A7];exact h1,I8 (s:=⟨s.tm,BP s.nx ob' s.ob,s.nx + nx'⟩) hd hn (O7.carry h2 hT) (fun v' e=>?_),by rw [P8];exact hn,by rw [put_defers];exact hdf⟩,fun _=>⟨hI'.kept.size,fun k hk=>hI'.kept.block k hk (fun h=>h)⟩⟩
  cases e
  cases hsh:sh
  ·have hres:res.all AC.ns=true:=by rw [hsh] at hns;simp_all
   exact cP (S':=fun k=>S k∨(false=true∧S' k)) (fun k hk=>hk) (pH hres hu)
  ·exact cP (fun k hk=> .inr ⟨rfl,hk⟩) hu
end
def IN (S0:Nat→Prop) (Dm:Value→Prop) (D:Value→List Int) (w:World):Prop:=(∀k,S0 k→k < w.heap.size)∧∀u,Dm u→Rd w S0 (.sl 1 f9 (D u)) u∧(D u).length≤1048576
theorem nP {S0 M:Nat→Prop} {Dm:Value→Prop} {D:Value→List Int} {w w':World} (h:xZ M w w')(hM:∀k,S0 k→¬M k)(hX:IN S0 Dm D w):IN S0 Dm D w':=
 ⟨fun k hk=>Nat.lt_of_lt_of_le (hX.1 k hk) h.size,fun u hu=>⟨Rd.move (fun _ h=>h) (fun k hk=>h.block k (hX.1 k hk) (hM k hk)) _ _ (hX.2 u hu).1,(hX.2 u hu).2⟩⟩
theorem vL {P:Program} {f:FuncId} (h:∀(r:Int) (a:List Int) (r2:Int) (b:List Int),a.length≤1048576→b.length≤1048576→Pu P f [.agg [.t none (.v (.int .i64 r)),.t none (.sl 1 f9 a)],.agg [.t none (.v (.int .i64 r2)),.t none (.sl 1 f9 b)]] [] 0 (.c (.t none (.v (.bool (decide (S8 (r,a) (r2,b)=0)))))))
  (S0:Nat→Prop) (Dm:Value→Prop) (D:Value→List Int) (r r2:Int) (u v:Value) (hu:Dm u) (hv:Dm v):
  BG (IN S0 Dm D) P f [.agg [.t none (.v (.int .i64 r)),.t none (.v u)],.agg [.t none (.v (.int .i64 r2)),.t none (.v v)]] [] 0 (.c (.t none (.v (.bool (decide (S8 (r,D u) (r2,D v)=0)))))):=by
 intro n w S vs hX hS hA
 obtain⟨hX1,hX2⟩:=hX
 have hA':F2 (fun _=>A5) S0 w [.agg [.t none (.v (.int .i64 r)),.t none (.sl 1 f9 (D u))],.agg [.t none (.v (.int .i64 r2)),.t none (.sl 1 f9 (D v))]] vs:=by
  have conv:∀(r:Int) (u x:Value),Dm u→M6 (fun _=>A5) S w (.agg [.t none (.v (.int .i64 r)),.t none (.v u)]) x→M6 (fun _=>A5) S0 w (.agg [.t none (.v (.int .i64 r)),.t none (.sl 1 f9 (D u))]) x:=by
   rintro r u x hu ⟨us,rfl,h1,h2⟩
   refine⟨us,rfl,h1,fun j c hj=>?_⟩
   match j with
   | 0=>
    cases hj
    obtain⟨u',e1,e2⟩:=h2 0 _ rfl
    exact⟨u',e1,trivial,e2.2⟩
   | 1=>
    cases hj
    obtain⟨u',e1,_,e2,_⟩:=h2 1 _ rfl
    exact⟨u',e1,trivial,by rw [e2];exact(hX2 u hu).1⟩
   | j + 2=>simp at hj
  refine⟨hA.1,fun j c hj=>?_⟩
  match j with
  | 0=>
   cases hj
   obtain⟨x,e1,e2⟩:=hA.2 0 _ rfl
   exact⟨x,e1,conv r u x hu e2⟩
  | 1=>
   cases hj
   obtain⟨x,e1,e2⟩:=hA.2 1 _ rfl
   exact⟨x,e1,conv r2 v x hv e2⟩
  | j + 2=>simp at hj
 refine(h r (D u) r2 (D v) (hX2 u hu).2 (hX2 v hv).2 n w S0 vs hX1 hA').mono fun e w' ⟨x,E',S',he,hI,hx⟩=>⟨x,fun _=>A5,S,he,⟨fun k hk=>Nat.lt_of_lt_of_le (hS k hk) hI.kept.size,fun k hk=> .inl hk,fun i o h=>by simp [y9] at h,fun i j _ h=>h.elim,fun i h=>h.elim,fun i h=>h.elim,hI.kept⟩,?_⟩
 exact⟨trivial,hx.2⟩
def JT (D:Value→List Int) (x y:Int × Value):Bool:=decide (S8 (x.1,D x.2) (y.1,D y.2)=0)
theorem XI {w:World} {S S':Nat→Prop} {u:Value} {a b:List Int} (h1:Rd w S (.sl 1 f9 a) u)(h2:Rd w S' (.sl 1 f9 b) u):a=b:=by
 obtain⟨A,cap,rfl,_,h1⟩:=h1
 obtain⟨A',cap',e,_,h2⟩:=h2
 have hA:A'=A:=by injection e with e1 _ _;exact e1.symm
 have hl:a.length=b.length:=by injection e
 subst hA
 apply List.ext_getElem?
 intro i
 by_cases hi:i < a.length
 ·obtain⟨ad,rfl,_,q1⟩:=h1 i a[i] (List.getElem?_eq_getElem hi)
  obtain⟨ad',e',_,q2⟩:=h2 i (b[i]'(by omega)) (List.getElem?_eq_getElem (by omega))
  cases e'
  obtain⟨u1,c1,r1⟩:=q1 0 (by omega)
  obtain⟨u2,c2,r2⟩:=q2 0 (by omega)
  rw [c1] at c2
  cases c2
  have e1:u1= .int .i64 a[i]:=r1.1
  have e2:u1= .int .i64 (b[i]'(by omega)):=r2.1
  rw [e1] at e2
  injection e2 with _ e3
  rw [List.getElem?_eq_getElem hi,List.getElem?_eq_getElem (by omega),e3]
 ·rw [List.getElem?_eq_none (by omega),List.getElem?_eq_none (by omega)]
set_option maxHeartbeats 1000000 in
theorem SL {P:Program} {f g:FuncId}
  (h:∀(S0:Nat→Prop) (Dm:Value→Prop) (D:Value→List Int) (U:Nat→Value) (e0:Nat) (l:List (Int × Value)),l.length≤1048576→(∀p∈l,Dm p.2)→
   xG S0 (IN S0 Dm D) P f [.c (.own 0),.c (.clo g [])] [(0,some (.row (some (U 0)) e0 false 2 (E9 f9 vQ) l))] 1 [(0,some (.row none e0 false 2 (E9 f9 vQ) (v5 (JT D) l l.length)))] 1 (.c (.own 0)))
  (U:Nat→Value) (e0:Nat) (l:p9) (hl:l.length≤1048576) (hb:∀x∈l,x.2.length≤1048576):
  Mu P f [.c (.own 0),.c (.clo g [])] [(0,some (.row (some (U 0)) e0 true 2 (E9 f9 (B9 1 f9)) l))] 1 [(0,some (.row none e0 true 2 (E9 f9 (B9 1 f9)) (v5 aR l l.length)))] 1 (.c (.own 0)):=by
 intro n w E S vs hI hA
 obtain⟨hl0,hrd,hpn,ho⟩:=hI.obs 0 _ rfl
 obtain⟨v,hv,hdv⟩:=hA.2 0 _ rfl
 obtain⟨v2,hv2,us,hu2,hus,_⟩:=hA.2 1 _ rfl
 simp only [if_true] at ho
 obtain⟨cells,V,G,hown,hF,hG,hd,hx⟩:=lP ho
 have hat:∀a,a < l.length→l[a]? =some (l.getD a (0,[])):=fun a ha=>by
  rw [List.getD_eq_getElem?_getD,List.getElem?_eq_getElem ha];rfl
 let L:List (Int × Value):=(List.range l.length).map fun a=>((l.getD a (0,[])).1,V a)
 have hLl:L.length=l.length:=by simp [L]
 have hLa:∀a,a < l.length→L[a]? =some ((l.getD a (0,[])).1,V a):=fun a ha=>by
  simp only [L]
  rw [List.getElem?_map,List.getElem?_range ha];rfl
 let S0:Nat→Prop:=fun k=>∃a,a < l.length∧G a k
 let Dm:Value→Prop:=fun u=>∃a,a < l.length∧u=V a
 let D:Value→List Int:=fun u=>open Classical in if h:∃xs,Rd w S0 (.sl 1 f9 xs) u then h.choose else []
 have hrdV:∀a,a < l.length→Rd w S0 (.sl 1 f9 (l.getD a (0,[])).2) (V a):=fun a ha=>
  Rd.move (fun k hk=>⟨a,ha,hk⟩) (fun _ _=>rfl) _ _ (Ow.rd _ _ (hx a _ (hat a ha)).2.2)
 have hDV:∀a,a < l.length→D (V a)=(l.getD a (0,[])).2:=fun a ha=>by
  have hex:∃xs,Rd w S0 (.sl 1 f9 xs) (V a):=⟨_,hrdV a ha⟩
  simp only [D]
  rw [dif_pos hex]
  exact XI hex.choose_spec (hrdV a ha)
 have hGw:∀a k,G a k→k < w.heap.size∧¬S k∧(E 0).u.ownBlock≠some k:=fun a k hk=>by
  obtain⟨h1,h2⟩:=hG a k hk
  exact⟨(hI.fp 0 hl0 k h1).1,(hI.fp 0 hl0 k h1).2.1,h2⟩
 have hX:IN S0 Dm D w:=⟨fun k ⟨a,_,hk⟩=>(hGw a k hk).1,fun u ⟨a,ha,e⟩=>by
  subst e
  rw [hDV a ha]
  exact⟨hrdV a ha,hb _ (List.mem_of_getElem? (hat a ha))⟩⟩
 let E0:Nat→EE:=wR (E 0).u (fun k=>(E 0).u.ownBlock=some k)
 have hE00:E0 0=⟨(E 0).u,(fun k=>(E 0).u.ownBlock=some k),True,True⟩:=if_pos rfl
 have hE0l:∀i,(E0 i).live→i=0:=fun i h=>by
  by_cases e:i=0
  ·exact e
  ·simp only [E0,wR] at h
   rw [if_neg e] at h
   exact h.elim
 have hh0:∀k,K7 E0 k→(E 0).u.ownBlock=some k:=fun k ⟨i,h1,h2⟩=>by
  obtain rfl:=hE0l i h1
  rw [hE00] at h2
  exact h2
 have hM:∀k,S0 k→¬K7 E0 k:=fun k ⟨a,_,hk⟩ hh=>(hGw a k hk).2.2 (hh0 k hh)
 have hro:Ro w S e0 2 (E9 f9 vQ) L (E 0).u (fun k=>(E 0).u.ownBlock=some k):=by
  refine⟨cells,by rw [hLl];exact hown,fun g hg=>hg,fun i x hi j hj=>?_⟩
  have hil:i < l.length:=by have:=(List.getElem?_eq_some_iff.1 hi).1;omega
  rw [hLa i hil] at hi
  cases hi
  obtain⟨c1,c2,c3⟩:=hx i _ (hat i hil)
  match j,hj with
  | 0,_=>exact⟨_,c1,rfl,rfl⟩
  | 1,_=>exact⟨_,c2,rfl,Rd.one (Ow.rd _ _ c3)⟩
 have hI0:G6 ⟨P,f,n,w,S,K7 E0⟩ [(0,some (.row (some (E 0).u) e0 false 2 (E9 f9 vQ) L))] 1 E0 S w:=by
  refine⟨hI.slt,fun k h=> .inl h,fun j o hj=>?_,fun i j hij h1 h2=>?_,fun i hi k hk=>?_,fun i hi=>by have:=hE0l i hi;omega,xZ.refl _ _⟩
  ·rw [D9] at hj
   split at hj
   ·rename_i q;subst q;cases hj
    refine⟨by rw [hE00];trivial,?_⟩
    show(E0 0).rd∧(∀v,some (E 0).u=some v→(E0 0).u=v)∧_
    rw [hE00]
    refine⟨trivial,fun v hv=>Option.some.inj hv,?_⟩
    simp only [Bool.false_eq_true,if_false]
    exact hro
   ·simp [y9] at hj
  ·exact absurd ((hE0l i h1).trans (hE0l j h2).symm) hij
  ·obtain rfl:=hE0l i hi
   rw [hE00] at hk
   have h2:=hF k hk
   have hh:K7 E0 k:=⟨0,by rw [hE00];trivial,by rw [hE00];exact hk⟩
   exact⟨(hI.fp 0 hl0 k h2).1,(hI.fp 0 hl0 k h2).2.1,.inr hh⟩
 have hA0:F2 E0 S w [.c (.own 0),.c (.clo g [])] vs:=by
  refine⟨hA.1,fun j c hj=>?_⟩
  match j with
  | 0=>
   cases hj
   exact⟨v,hv,show(E0 0).live∧v=(E0 0).u∧v.oneCell'=true by rw [hE00];exact⟨trivial,hdv.2.1,hdv.2.2⟩⟩
  | 1=>
   cases hj
   exact⟨v2,hv2,us,hu2,hus,fun j p h=>by simp at h⟩
  | j + 2=>simp at hj
 have hDmL:∀p∈L,Dm p.2:=fun p hp=>by
  simp only [L,List.mem_map,List.mem_range] at hp
  obtain⟨a,ha,rfl⟩:=hp
  exact⟨a,ha,rfl⟩
 refine(h S0 Dm D (fun _=>(E 0).u) e0 L (by omega) hDmL n w E0 S vs hX hM hI0 hA0).mono ?_
 rintro en w' ⟨u,E',S',rfl,hI',hu⟩
 obtain⟨l1,r1,_,o1⟩:=hI'.obs 0 _ rfl
 simp only [Bool.false_eq_true,if_false] at o1
 obtain⟨cells',ho',hF',hx'⟩:=o1
 -- the tags of what is kept
 let σ:List Nat:=v5 (fun a b=>aR (l.getD a (0,[])) (l.getD b (0,[]))) (List.range l.length) l.length
 have hσsub:List.Sublist σ (List.range l.length):=by
  have:=LU (q:=fun a b=>aR (l.getD a (0,[])) (l.getD b (0,[]))) (List.range l.length) l.length
  rwa [List.take_of_length_le (by simp)] at this
 have hσlt:∀a∈σ,a < l.length:=fun a ha=>by have:=hσsub.subset ha;simpa using this
 have hmap1:(List.range l.length).map (fun a=>l.getD a (0,[]))=l:=by
  apply List.ext_getElem?
  intro i
  rw [List.getElem?_map]
  by_cases hi:i < l.length
  ·rw [List.getElem?_range hi,Option.map_some,hat i hi]
  ·rw [List.getElem?_eq_none (by simpa using hi),List.getElem?_eq_none (by omega)];rfl
 have hσl:σ.map (fun a=>l.getD a (0,[]))=v5 aR l l.length:=by
  have:=iW (fun a=>l.getD a (0,[])) aR (List.range l.length) l.length
  rw [hmap1] at this
  exact this
 have hraw:v5 (JT D) L L.length=σ.map fun a=>((l.getD a (0,[])).1,V a):=by
  have h1:=iW (fun p:Int × Value=>(p.1,D p.2)) aR L l.length
  have h2:=iW (fun a=>((l.getD a (0,[])).1,V a)) (JT D) (List.range l.length) l.length
  rw [hLl]
  show v5 (JT D) ((List.range l.length).map _) l.length=_
  rw [← h2]
  congr 1
  have hcong:∀m,m≤l.length→v5 (fun x y=>JT D ((l.getD x (0,[])).1,V x) ((l.getD y (0,[])).1,V y)) (List.range l.length) m=v5 (fun a b=>aR (l.getD a (0,[])) (l.getD b (0,[]))) (List.range l.length) m:=by
   intro m
   induction m with
   | zero=>intro _;rfl
   | succ m ih=>
    intro hm
    rw [v5,v5,ih (by omega),List.getElem?_range (by omega)]
    congr 1
    cases m with
    | zero=>rfl
    | succ k=>
     simp only [List.getElem?_range (show k < l.length by omega)]
     have e:JT D ((l.getD (k + 1) (0,[])).1,V (k + 1)) ((l.getD k (0,[])).1,V k)=aR (l.getD (k + 1) (0,[])) (l.getD k (0,[])):=by
      unfold JT aR
      rw [hDV _ (by omega),hDV _ (by omega)]
     rw [e]
  exact hcong l.length (Nat.le_refl _)
 rw [hraw] at ho' hx'
 have hkeep:∀a k,G a k→w'.heap[k]? =w.heap[k]? :=fun a k hk=>hI'.kept.block k (hGw a k hk).1 fun hh=>(hGw a k hk).2.2 (hh0 k hh)
 have hnb:∀k,(E' 0).u.ownBlock=some k→∀a,¬G a k:=fun k hk a hg=>by
  rcases (hI'.fp 0 l1 k (hF' k hk)).2.2 with h | h
  ·have:=(hGw a k hg).1
   have h2:w.heap.size≤k:=h
   omega
  ·exact(hGw a k hg).2.2 (hh0 k h)
 let F1:Nat→Prop:=fun k=>(E' 0).F k∨∃a,a < l.length∧G a k
 have hown':AP w' e0 2 (E9 f9 (B9 1 f9)) (v5 aR l l.length) (E' 0).u F1:=by
  rw [← hσl]
  refine EQ (V:=V) (G:=G) (cells:=cells') (by rw [List.length_map] at ho';exact ho') (fun q hq=> .inl (hF' q hq)) (fun a k ha hk=>⟨.inr ⟨a,ha,hk⟩,fun e=>hnb k e a hk⟩) hd (hσsub.nodup List.nodup_range) fun i a hi=>?_
  have ha:=hσlt a (List.mem_of_getElem? hi)
  have hxi:=hx' i ((l.getD a (0,[])).1,V a) (by rw [List.getElem?_map,hi];rfl)
  obtain⟨u0,c0,d0⟩:=hxi 0 (by omega)
  obtain⟨u1,c1,d1⟩:=hxi 1 (by omega)
  have e0:u0= .int .i64 (l.getD a (0,[])).1:=d0.1
  have e1:u1=V a:=d1.1
  subst e0 e1
  exact⟨_,hat a ha,c0,c1,Ow.move _ _ (fun _ h=>h) (fun q hq=>hkeep a q hq) (hx a _ (hat a ha)).2.2⟩
 have hHH:∀k,K7 E0 k→K7 E k:=fun k hk=>⟨0,hl0,hF k (hh0 k hk)⟩
 refine⟨u,wR (E' 0).u F1,S',rfl,⟨hI'.slt,hI'.snew,fun j o hj=>?_,fun i j hij h1 h2=>?_,fun i hi k hk=>?_,fun i hi=>?_,?_⟩,?_⟩
 ·rw [D9] at hj
  split at hj
  ·rename_i q;subst q;cases hj
   refine⟨trivial,trivial,fun v hv=>(by cases hv),?_⟩
   simp only [if_true]
   exact hown'
  ·simp [y9] at hj
 ·have q:∀i,(wR (E' 0).u F1 i).live→i=0:=fun i h=>by
   by_cases e:i=0
   ·exact e
   ·simp only [wR] at h;rw [if_neg e] at h;exact h.elim
  exact absurd ((q i h1).trans (q j h2).symm) hij
 ·have q:i=0:=by
   by_cases e:i=0
   ·exact e
   ·simp only [wR] at hi;rw [if_neg e] at hi;exact hi.elim
  subst q
  have hk':F1 k:=hk
  rcases hk' with hk' | ⟨a,ha,hk'⟩
  ·obtain⟨q1,q2,q3⟩:=hI'.fp 0 l1 k hk'
   exact⟨q1,q2,q3.imp id (hHH k)⟩
  ·obtain⟨q1,q2,q3⟩:=hGw a k hk'
   refine⟨Nat.lt_of_lt_of_le q1 hI'.kept.size,fun hs=>?_,.inr ⟨0,hl0,(hG a k hk').1⟩⟩
   rcases hI'.snew k hs with h | h
   ·exact q2 h
   ·have h2:w.heap.size≤k:=h
    omega
 ·by_cases e:i=0
  ·omega
  ·simp only [wR] at hi;rw [if_neg e] at hi;exact hi.elim
 ·exact⟨hI'.kept.os,hI'.kept.tape,hI'.kept.output,hI'.kept.size,fun k hk hm=>hI'.kept.block k hk fun h=>hm (hHH k h)⟩
 ·exact⟨trivial,hu.2.1,hu.2.2⟩
end Go.Eng
