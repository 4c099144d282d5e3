import Derived.Test.YtiikejgonbnimaaGreatEngQ
set_option linter.unusedVariables false
set_option linter.unusedSimpArgs false
namespace Go.Eng
open Go Go.RowKit Go.Proofs
def yV {ι:Type} (P:Program) (f:FuncId) (n:Nat) (w:World) (S M:Nat→Prop) (X:ι→Prop) (ob:ι→List (Nat × Option Ob)) (nx:Nat) (res:ι→AV):Ending→World→Prop:=
 fun e w'=>∃i,X i∧VR P f n w S M (ob i) nx (res i) e w'
def jG {ι:Type} (P:Program) (f:FuncId) (args:List AV) (X:ι→Prop) (ob:ι→List (Nat × Option Ob)) (nx:Nat) (res:ι→AV):Prop:=
 ∀(n:Nat) (w:World) (S:Nat→Prop) (vs:List Value),(∀k,S k→k < w.heap.size)→F2 (fun _=>A5) S w args vs→Calls P f vs.toArray w (yV P f n w S (fun _=>False) X ob nx res)
def MS {ι:Type} (P:Program) (f:FuncId) (args:List AV) (cells:List AC) (X:ι→Prop) (cells':ι→List AC) (ob:ι→List (Nat × Option Ob)) (nx:Nat) (res:ι→AV):Prop:=
 ∀(v:Value) (n:Nat) (w:World) (E:Nat→EE) (S:Nat→Prop) (vs:List Value),G6 ⟨P,f,n,w,S,K7 E⟩ [(0,some (.pbox v cells))] 1 E S w→F2 E S w args vs→
  Calls P f vs.toArray w (yV P f n w S (K7 E) X (fun i=>(0,some (.pbox v (cells' i)))::ob i) nx res)
theorem lN {ι:Type} {P:Program} {f:FuncId} {n n':Nat} {w:World} {S M:Nat→Prop} {X:ι→Prop} {ob:ι→List (Nat × Option Ob)} {nx:Nat} {res:ι→AV} {e:Ending} {w':World} (h:yV P f n w S M X ob nx res e w'):yV P f n' w S M X ob nx res e w':=by
 obtain⟨i,hX,u,E',S',h1,h2,h3⟩:=h
 exact⟨i,hX,u,E',S',h1,h2.fn,h3⟩
theorem cQ {P:Program} {f:FuncId} {fn:Func} {c:Code} {args:List AV} {n0:Nat} {ob:List (Nat × Option Ob)} {w:World} {S M:Nat→Prop} {E:Nat→EE} {vs:List Value} (hf:P.funcs[f]? =some fn)(hb:fn.body=some c)(ha:args.length≤fn.ntmps)(hI:G6 ⟨P,f,fn.ntmps,w,S,M⟩ ob n0 E S w)(hA:F2 E S w args vs):
  Gm ⟨P,f,fn.ntmps,w,S,M⟩ ⟨X0 0 args,ob,n0⟩ {tmps:=vs.toArray++Array.replicate (fn.ntmps - vs.toArray.size) undef,defers:=[]} w:=by
 refine⟨E,S,hI,fun t v ht=>?_,?_,rfl⟩
 ·rw [show(⟨X0 0 args,ob,n0⟩:St).tm=X0 0 args from rfl,TY] at ht
  simp only [Nat.not_lt_zero,if_false,Nat.sub_zero] at ht
  obtain⟨u,h1,h2⟩:=hA.2 t v ht
  have:(vs.toArray++Array.replicate (fn.ntmps - vs.toArray.size) undef).getD t undef=u:=by
   rw [Array.getD_eq_getD_getElem?,Array.getElem?_append_left (by simpa using (List.getElem?_eq_some_iff.1 h1).1)]
   simp [h1]
  rw [show({tmps:=vs.toArray++Array.replicate (fn.ntmps - vs.toArray.size) undef,defers:=[]}:Act).tmps=vs.toArray++Array.replicate (fn.ntmps - vs.toArray.size) undef from rfl,this]
  exact h2
 ·have:=hA.1
  simp
  omega
theorem bV {ι:Type} {P:Program} {f:FuncId} {fn:Func} {c:Code} {args:List AV} {X:ι→Prop} {ob:ι→List (Nat × Option Ob)} {nx:Nat} {res:ι→AV} (hf:P.funcs[f]? =some fn)(hb:fn.body=some c)(ha:args.length≤fn.ntmps)
  (h:∀w S,Wt ⟨P,f,fn.ntmps,w,S,fun _=>False⟩ ⟨X0 0 args,[],0⟩ [.code c] (yV P f fn.ntmps w S (fun _=>False) X ob nx res)):jG P f args X ob nx res:=by
 intro n w S vs hS hA cs
 let b:Frame:= {(default:Frame) with fn:=f,kind:=.normal}
 have henter:Frame.enter P f vs.toArray .normal=b.at {tmps:=vs.toArray++Array.replicate (fn.ntmps - vs.toArray.size) undef,defers:=[]} [.code c]:=by
  simp [Frame.enter,Frame.at,hf,hb,b]
 have hg:=cQ (M:=fun _=>False) (n0:=0) (ob:=[]) (E:=fun _=>A5) hf hb ha ⟨hS,fun k h=> .inl h,fun i o h=>by simp [y9] at h,fun i j _ h=>h.elim,fun i h=>h.elim,fun i h=>h.elim,xZ.refl _ _⟩ hA
 obtain⟨e,w',fr,hR,hc,hfr,hl⟩:=h w S _ w hg b cs rfl rfl
 rw [← henter] at hc
 exact⟨e,w',fr,lN hR,hc,hfr,hl⟩
theorem J7 {ι:Type} {P:Program} {f:FuncId} {fn:Func} {c:Code} {args:List AV} {cells:List AC} {X:ι→Prop} {cells':ι→List AC} {ob:ι→List (Nat × Option Ob)} {nx:Nat} {res:ι→AV} (hf:P.funcs[f]? =some fn)(hb:fn.body=some c)(ha:args.length≤fn.ntmps)
  (h:∀v w S M,(∀k,M k→v= .pointer (some ⟨k,0,none⟩))→Wt ⟨P,f,fn.ntmps,w,S,M⟩ ⟨X0 0 args,[(0,some (.pbox v cells))],1⟩ [.code c] (yV P f fn.ntmps w S M X (fun i=>(0,some (.pbox v (cells' i)))::ob i) nx res)):MS P f args cells X cells' ob nx res:=by
 intro v n w E S vs hI hA cs
 let b:Frame:= {(default:Frame) with fn:=f,kind:=.normal}
 have henter:Frame.enter P f vs.toArray .normal=b.at {tmps:=vs.toArray++Array.replicate (fn.ntmps - vs.toArray.size) undef,defers:=[]} [.code c]:=by
  simp [Frame.enter,Frame.at,hf,hb,b]
 have hg:=cQ hf hb ha hI.fn hA
 have hM:∀k,K7 E k→v= .pointer (some ⟨k,0,none⟩):=fun k ⟨i,h1,h2⟩=>by
  obtain rfl:i=0:=by have:=hI.nxt i h1;omega
  obtain⟨_,hu,_,g,t,cs,h3,h4,_⟩:=hI.obs 0 _ rfl
  obtain rfl:=(h4 k).1 h2
  rw [← hu,h3]
 obtain⟨e,w',fr,hR,hc,hfr,hl⟩:=h v w S (K7 E) hM _ w hg b cs rfl rfl
 rw [← henter] at hc
 exact⟨e,w',fr,lN hR,hc,hfr,hl⟩
theorem BL {ι:Type} {cx:Cx} {X:ι→Prop} {ob':ι→List (Nat × Option Ob)} {ob:List (Nat × Option Ob)} {nx nx':Nat} {E:Nat→EE} {S:Nat→Prop} {w:World} {res:ι→AV} {u:Value} {v':AV} (i:ι)(hX:X i)(hI:G6 cx ob nx E S w)(hd:M6 E S w v' u)(he:v'=res i)(h:JO ob (ob' i))(hlt:eJ nx' (ob' i)=true)(hv:(res i).all (AC.lt nx')=true):yV cx.P cx.f cx.n cx.w0 cx.S0 cx.M X ob' nx' res (.returned u) w:=
 ⟨i,hX,QQ hI hd he h hlt hv⟩
def AC.pt:AC→Bool
 | .t none _=>true
 | .top=>true
 | _=>false
def Ob.isRow:Ob→Bool
 | .row ..=>true
 | _=>false
def vN (l:List (Nat × Option Ob)):Bool:=l.all fun x=>!Nat.beq x.1 0&&(match x.2 with | some o=>o.isRow | none=>true)
theorem qG {E E':Nat→EE} {S S':Nat→Prop} {w:World} {a:AC} {u:Value} (hS:∀k,S k→S' k)(hn:a.pt=true)(hd:S6 E S w a u):S6 E' S' w a u:=by
 cases a with
 | top=>exact hd
 | t r x=>
  cases r with
  | none=>exact⟨trivial,Rd.move hS (fun _ _=>rfl) _ _ hd.2⟩
  | some i=>cases hn
 | _=>cases hn
theorem HL {E E':Nat→EE} {S S':Nat→Prop} {w:World} {cs:List AC} {us:List Value} (hS:∀k,S k→S' k)(hn:cs.all AC.pt=true)(hd:r6 E S w cs us):r6 E' S' w cs us:=
 ⟨hd.1,fun j c hj=>by
  obtain⟨u',e1,e2⟩:=hd.2 j c hj
  exact⟨u',e1,qG hS (List.all_eq_true.1 hn c (List.mem_of_getElem? hj)) e2⟩⟩
theorem YL {l:List (Nat × Option Ob)} {k:Nat} {o:Ob} (h:vN l=true)(hk:y9 l k=some o):k≠0∧o.isRow=true:=by
 induction l with
 | nil=>simp [y9] at hk
 | cons x l ih=>
  obtain⟨j,oj⟩:=x
  simp only [vN,List.all_cons,Bool.and_eq_true] at h
  rw [D9] at hk
  split at hk
  ·rename_i e
   subst e
   subst hk
   exact⟨fun e=>by rw [e] at h;simp at h,h.1.2⟩
  ·exact ih h.2 hk
section
variable {cx:Cx} {ob ob':List (Nat × Option Ob)} {nx nx' j:Nat} {E E':Nat→EE} {S S2:Nat→Prop} {w w':World} {P:Program} {g:FuncId} {n:Nat} {v:Value} {cells cells':List AC}
def E2 (E':Nat→EE):Nat→EE:=fun k=>if k=0 then A5 else E' k
theorem fN {E':Nat→EE} {k:Nat} (h:k≠0):E2 E' k=E' k:=if_neg h
theorem aH:Carry E' (E2 E') S2 S2 w' w' (fun a=>a.names 0) where
 sub:=fun _ h=>h
 keep:=fun _ _=>rfl
 place:=fun a ha i hi hl=>by
  have:i≠0:=fun e=>by subst e;have h':a.names 0=false:=ha;rw [h'] at hi;cases hi
  rw [fN this];exact⟨hl,rfl⟩
 reads:=fun a ha i hi hl=>by
  have:i≠0:=fun e=>by subst e;have h':a.names 0=false:=ha;rw [r7 hi] at h';cases h'
  rw [fN this];exact⟨hl,fun _ h=>h,fun _ _=>rfl⟩
theorem cH {F:Nat→EE} {d:Nat} {S'':Nat→Prop} {a:AV} {u:Value} (hS:∀k,S2 k→S'' k)(hn:a.all (fun a=>!a.names 0)=true)(hd:M6 E' S2 w' a u):M6 (S7 d F (E2 E')) S'' w' (a.up d) u:=by
 have h:=(aH (E':=E') (S2:=S2) (w':=w')).v hd
 rw [AV.cut_id hn] at h
 exact cP hS h
theorem G6.joinG (hI:G6 cx ob nx E S w)(hl:(E j).live)(hb:x6 E S w j (.pbox (E j).u cells))(hI':G6 ⟨P,g,n,w,S,K7 (gY E j)⟩ ((0,some (.pbox (E j).u cells'))::ob') nx' E' S2 w')(hc:cells'.all AC.pt=true)(hr:vN ob'=true) {o:Ob} (ho:o= .box cells'∨o= .pbox (E j).u cells'):
  G6 cx ((j,some o)::BP nx ob' ob) (nx + nx') (S7 nx (c5 E j (E' 0)) (E2 E')) (fun k=>S k∨S2 k) w'∧Carry E (S7 nx (c5 E j (E' 0)) (E2 E')) S (fun k=>S k∨S2 k) w w' no:=by
 have hj:=hI.nxt j hl
 obtain⟨_,hrd,g0,e0,cs0,hu0,hF0,hh0,hd0⟩:=hb
 obtain⟨hl',hu',hrd',g1,e1,cs1,hu1,hF1,hh1,hd1⟩:=hI'.obs 0 _ rfl
 have hH:∀k,K7 (gY E j) k→(E j).F k:=fun k ⟨q,h1,h2⟩=>by
  unfold gY at h1 h2
  by_cases e:q=0
  ·rw [if_pos e] at h2;exact h2
  ·rw [if_neg e] at h1;exact h1.elim
 have hkeep:∀k,k < w.heap.size→¬(E j).F k→w'.heap[k]? =w.heap[k]? :=fun k hk hf=>hI'.kept.block k hk fun h=>hf (hH k h)
 have hFj:S7 nx (c5 E j (E' 0)) (E2 E') j=E' 0:=by rw [H5 hj,W8]
 have hFo:∀i,i < nx→i≠j→S7 nx (c5 E j (E' 0)) (E2 E') i=E i:=fun i h1 h2=>by rw [H5 h1,A8 h2]
 have hFn:∀i,¬i < nx→(S7 nx (c5 E j (E' 0)) (E2 E') i).live→i - nx≠0∧S7 nx (c5 E j (E' 0)) (E2 E') i=E' (i - nx):=fun i h1 h2=>by
  have e:S7 nx (c5 E j (E' 0)) (E2 E') i=E2 E' (i - nx):=if_neg h1
  rw [e] at h2 ⊢
  have hne:i - nx≠0:=fun h=>by rw [h] at h2;exact h2.elim
  exact⟨hne,fN hne⟩
 have hS2:∀k,S2 k→S k∨w.heap.size≤k:=fun k h=>hI'.snew k h
 have hold:∀i,(E i).live→i≠j→∀k,(E i).F k→k < w.heap.size∧¬(E j).F k:=fun i h1 h2 k h3=>⟨(hI.fp i h1 k h3).1,hI.dis i j h2 h1 hl k h3⟩
 have hnew:∀q,(E' q).live→∀k,(E' q).F k→k < w'.heap.size∧¬S2 k∧(w.heap.size≤k∨(E j).F k):=fun q h1 k h2=>by
  obtain⟨r1,r2,r3⟩:=hI'.fp q h1 k h2
  exact⟨r1,r2,r3.imp id (hH k)⟩
 have hC:Carry E (S7 nx (c5 E j (E' 0)) (E2 E')) S (fun k=>S k∨S2 k) w w' no:= {
  sub:=fun _ h=> .inl h
  keep:=fun k hk=>hkeep k (hI.slt k hk) fun h=>(hI.fp j hl k h).2.1 hk
  place:=fun a _ i _ hli=>by
   by_cases e:i=j
   ·subst e
    rw [hFj]
    exact⟨hl',hu'⟩
   ·rw [hFo i (hI.nxt i hli) e]
    exact⟨hli,rfl⟩
  reads:=fun a _ i _ hli=>by
   by_cases e:i=j
   ·subst e
    exact absurd hli.2 hrd
   ·rw [hFo i (hI.nxt i hli.1) e]
    exact⟨hli,fun _ h=>h,fun k hk=>hkeep k (hold i hli.1 e k hk).1 (hold i hli.1 e k hk).2⟩}
 refine⟨⟨?_,?_,?_,?_,?_,?_,?_⟩,hC⟩
 ·rintro k (h | h)
  ·exact Nat.lt_of_lt_of_le (hI.slt k h) hI'.kept.size
  ·exact hI'.slt k h
 ·rintro k (h | h)
  ·exact hI.snew k h
  ·rcases hS2 k h with h | h
   ·exact hI.snew k h
   ·exact .inr (Nat.le_trans hI.kept.size h)
 ·intro i o' h
  rw [D9] at h
  split at h
  ·rename_i e
   subst e
   cases h
   rw [hFj]
   refine⟨hl',?_⟩
   have hcells:r6 (S7 nx (c5 E i (E' 0)) (E2 E')) (fun k=>S k∨S2 k) w' cells' cs1:=HL (fun _ h=> .inr h) hc hd1
   rcases ho with rfl | rfl
   ·exact⟨by rw [hFj];exact hrd',g1,e1,cs1,by rw [hFj];exact hu1,fun k=>by rw [hFj];exact hF1 k,hh1,hcells⟩
   ·exact⟨by rw [hFj];exact hu',by rw [hFj];exact hrd',g1,e1,cs1,by rw [hFj];exact hu1,fun k=>by rw [hFj];exact hF1 k,hh1,hcells⟩
  ·rename_i hne
   rw [pV] at h
   split at h
   ·rename_i hcnd
    obtain⟨o2,h1,rfl⟩:=Option.map_eq_some_iff.mp h
    obtain⟨hk0,hrow⟩:=YL hr h1
    obtain⟨h2,h3⟩:=hI'.obs (i - nx) o2 (by rw [D9,if_neg hk0];exact h1)
    have e:i=nx +(i - nx):=by omega
    have eF:S7 nx (c5 E j (E' 0)) (E2 E') i=E' (i - nx):=by rw [show S7 nx (c5 E j (E' 0)) (E2 E') i=E2 E' (i - nx) from if_neg (by omega),fN hk0]
    refine⟨by rw [eF];exact h2,?_⟩
    cases o2 with
    | row pn et deep sz enc xs=>
     obtain⟨q1,q2,q3⟩:=h3
     refine⟨by rw [eF];exact q1,by rw [eF];exact q2,?_⟩
     rw [eF]
     cases deep
     ·simp only [Bool.false_eq_true,if_false] at q3 ⊢
      exact Ro.move (fun _ h=> .inr h) (fun _ _=>rfl) (fun _ h=>h) (fun _ _=>rfl) q3
     ·exact q3
    | _=>cases hrow
   ·obtain⟨h1,h2⟩:=hI.obs i o' h
    have hlt:=hI.nxt i h1
    have eF:=hFo i hlt hne
    refine⟨by rw [eF];exact h1,?_⟩
    have:=x6.carry hC (i:=i) (by rw [eF]) (fun k=>by rw [eF]) (by rw [eF]) (fun k hk=>hkeep k (hold i h1 hne k hk).1 (hold i h1 hne k hk).2) h2
    rwa [Ob.cut_none] at this
 ·intro a b hab ha hb' q h1 h2
  have cls:∀c,(S7 nx (c5 E j (E' 0)) (E2 E') c).live→(S7 nx (c5 E j (E' 0)) (E2 E') c).F q→(∃k,(E' k).live∧(E' k).F q∧(k=0∧c=j∨k≠0∧¬c < nx∧k=c - nx))∨((E c).live∧(E c).F q∧c≠j∧c < nx):=fun c hcl hcF=>by
   by_cases e1:c < nx
   ·by_cases e2:c=j
    ·subst e2
     rw [hFj] at hcl hcF
     exact .inl ⟨0,hcl,hcF,.inl ⟨rfl,rfl⟩⟩
    ·rw [hFo c e1 e2] at hcl hcF
     exact .inr ⟨hcl,hcF,e2,e1⟩
   ·obtain⟨r1,r2⟩:=hFn c e1 hcl
    rw [r2] at hcl hcF
    exact .inl ⟨_,hcl,hcF,.inr ⟨r1,e1,rfl⟩⟩
  rcases cls a ha h1 with⟨k,k1,k2,k3⟩ | ⟨k1,k2,k3,k4⟩ <;> rcases cls b hb' h2 with⟨l,l1,l2,l3⟩ | ⟨l1,l2,l3,l4⟩
  ·have hkl:k≠l:=by
    rcases k3 with⟨rfl,rfl⟩ | ⟨r1,r2,rfl⟩ <;> rcases l3 with⟨rfl,rfl⟩ | ⟨t1,t2,rfl⟩ <;> omega
   exact hI'.dis k l hkl k1 l1 q k2 l2
  ·rcases (hnew k k1 q k2).2.2 with h | h
   ·have:=(hold b l1 l3 q l2).1;omega
   ·exact(hold b l1 l3 q l2).2 h
  ·rcases (hnew l l1 q l2).2.2 with h | h
   ·have:=(hold a k1 k3 q k2).1;omega
   ·exact(hold a k1 k3 q k2).2 h
  ·exact hI.dis a b hab k1 l1 q k2 l2
 ·intro i hi k hk
  have fin:∀q,(E' q).live→(E' q).F k→k < w'.heap.size∧¬(S k∨S2 k)∧(cx.w0.heap.size≤k∨cx.M k):=fun q h1 h2=>by
   obtain⟨r1,r2,r3⟩:=hnew q h1 k h2
   refine⟨r1,?_,?_⟩
   ·rintro(h | h)
    ·rcases r3 with r3 | r3
     ·have:=hI.slt k h;omega
     ·exact(hI.fp j hl k r3).2.1 h
    ·exact r2 h
   ·rcases r3 with r3 | r3
    ·exact .inl (Nat.le_trans hI.kept.size r3)
    ·exact(hI.fp j hl k r3).2.2
  by_cases e1:i < nx
  ·by_cases e2:i=j
   ·subst e2
    rw [hFj] at hi hk
    exact fin 0 hi hk
   ·rw [hFo i e1 e2] at hi hk
    obtain⟨r1,r2,r3⟩:=hI.fp i hi k hk
    refine⟨Nat.lt_of_lt_of_le r1 hI'.kept.size,?_,r3⟩
    rintro(h | h)
    ·exact r2 h
    ·rcases hS2 k h with h | h
     ·exact r2 h
     ·omega
  ·obtain⟨_,r2⟩:=hFn i e1 hi
   rw [r2] at hi hk
   exact fin _ hi hk
 ·intro i hi
  by_cases e1:i < nx
  ·omega
  ·obtain⟨_,r2⟩:=hFn i e1 hi
   rw [r2] at hi
   have:=hI'.nxt _ hi
   omega
 ·refine⟨hI'.kept.os.trans hI.kept.os,hI'.kept.tape.trans hI.kept.tape,hI'.kept.output.trans hI.kept.output,Nat.le_trans hI.kept.size hI'.kept.size,fun k hk hm=>?_⟩
  have hk2:=Nat.lt_of_lt_of_le hk hI.kept.size
  refine(hkeep k hk2 fun h=>?_).trans (hI.kept.block k hk hm)
  rcases (hI.fp j hl k h).2.2 with h | h
  ·omega
  ·exact hm h
end
def U0 (pv:Option Value) (cells:List AC):Ob:=match pv with | none=> .box cells | some v=> .pbox v cells
inductive HX (s:St) (j:Nat):List Operand→List AV→Prop
 | nil:HX s j [] []
 | cur {x:Operand} {xs:List Operand} {bs:List AV} (hx:s.ev x=some (.c (.ptr j 0))) (hr:HX s j xs bs):HX s j (x::xs) (.c (.ptr 0 0)::bs)
 | cons {x:Operand} {y:T} {xs:List Operand} {bs:List AV} (hx:s.ev x=some (.c (.t none y))) (hr:HX s j xs bs):HX s j (x::xs) (.c (.t none y)::bs)
 | agg {x:Operand} {cs:List AC} {xs:List Operand} {bs:List AV} (hx:s.ev x=some (.agg cs)) (hc:cs.all AC.pt=true) (hr:HX s j xs bs):HX s j (x::xs) (.agg cs::bs)
section
variable {cx:Cx} {s:St} {dst:Option Nat} {ty:TypeId} {pos:String} {aft:Array Edge} {R:Ending→World→Prop} {k:List Item} {ops:Array Oper} {rest:List Oper}
theorem HX.den {j:Nat} {xs:List Operand} {bs:List AV} {a:Act} {E:Nat→EE} {S:Nat→Prop} {w:World} (h:HX s j xs bs)(hT:O7 E S w s.tm a.tmps):F2 (gY E j) S w bs (xs.map a.eval):=by
 induction h with
 | nil=>exact⟨rfl,fun j v hj=>by simp at hj⟩
 | cur hx hr ih=>
  refine⟨by simp [ih.1],fun q v hq=>?_⟩
  match q with
  | 0=>
   cases hq
   refine⟨_,rfl,?_⟩
   have:=J9 hT hx
   exact this
  | q + 1=>exact ih.2 q v hq
 | cons hx hr ih=>
  refine⟨by simp [ih.1],fun q v hq=>?_⟩
  match q with
  | 0=>cases hq;exact⟨_,rfl,trivial,(J9 hT hx).2⟩
  | q + 1=>exact ih.2 q v hq
 | agg hx hc hr ih=>
  refine⟨by simp [ih.1],fun q v hq=>?_⟩
  match q with
  | 0=>
   cases hq
   obtain⟨us,e1,e2⟩:=J9 hT hx
   exact⟨_,rfl,us,e1,HL (fun _ h=>h) hc e2⟩
  | q + 1=>exact ih.2 q v hq
def ML {ι:Type} (cx:Cx) (s:St) (o:Oper) (s':ι→St) (x:Bool):Prop:=
 ∀(Q:Exit→Act→World→Prop) (a:Act) (w:World),Gm cx s a w→o.wp cx.P a w (fun a' w'=>(∃i,Gm cx (s' i) a' w')∧(x=true→aX w w')) Q
theorem V0 {o:Oper} {s':St} {x:Bool} (h:Os cx s o s' x):ML cx s o (fun _:Unit=>s') x:=fun Q a w hg=>Oper.wp_mono (fun a' w' h'=>⟨⟨(),h'.1⟩,h'.2⟩) (h Q a w hg)
theorem p7 {ι:Type} {op:Go.Op} {s':ι→St} {x:Bool} (h:ML cx s ⟨dst,op,ty,pos,aft,none⟩ s' x)(hW:∀i,Wr cx (s' i) ops rest k R):Wr cx s ops (⟨dst,op,ty,pos,aft,none⟩::rest) k R:=by
 intro a w hg
 refine wpList_plain rfl fun K hK=>?_
 exact B6 (fun a' w' ⟨⟨i,h'⟩,_⟩=>hK _ _ (hW i a' w' h')) (fun _ _ _ h=>h) (h _ a w hg)
theorem VJ {ι:Type} {X:Nat→Bool} {fuel:Nat} {listed:Array Bool} (i:Nat) {op:Go.Op} {s':ι→St} {x:Bool} (hi:ops[i]? =some ⟨dst,op,ty,pos,aft,none⟩)(hr:Region.ready .any ops listed=[i])(hX:(!X i||x)=true)(ho:ML cx s ⟨dst,op,ty,pos,aft,none⟩ s' x)
  (h:∀q,Wd cx (s' q) ops X fuel (listed.setIfInBounds i true) k R):Wd cx s ops X (fuel + 1) listed k R:=by
 intro a w hg
 refine⟨fun h0=>(by rw [hr] at h0;cases h0),fun j hj=>?_⟩
 rw [hr] at hj
 have hj:j=i:=by simpa using hj
 subst hj
 unfold wpOp
 rw [hi]
 simp only [Region.wanted,if_true]
 refine .inl (B6 (fun a' w' h'=>⟨fun hx=>h'.2 (by rw [hx] at hX;simpa using hX),?_⟩) (fun _ _ _ h=>h) (ho _ a w hg))
 obtain⟨⟨q,hq⟩,_⟩:=h'
 exact h q a' w' hq
theorem d7 {ι κ:Type} {X:Nat→Bool} {fuel:Nat} {listed:Array Bool} (i j:Nat) {op op':Go.Op} {dst':Option Nat} {ty':TypeId} {pos':String} {aft':Array Edge} {s1:ι→St} {s2:κ→St} {x x':Bool} (hi:ops[i]? =some ⟨dst,op,ty,pos,aft,none⟩)(hj:ops[j]? =some ⟨dst',op',ty',pos',aft',none⟩)(hr:Region.ready .any ops listed=[i,j])(hX:(!X i||x)=true)(hX':(!X j||x')=true)(ho:ML cx s ⟨dst,op,ty,pos,aft,none⟩ s1 x)(ho':ML cx s ⟨dst',op',ty',pos',aft',none⟩ s2 x')
  (h:∀q,Wd cx (s1 q) ops X fuel (listed.setIfInBounds i true) k R) (h':∀q,Wd cx (s2 q) ops X fuel (listed.setIfInBounds j true) k R):Wd cx s ops X (fuel + 1) listed k R:=by
 intro a w hg
 refine⟨fun h0=>(by rw [hr] at h0;cases h0),fun q hq=>?_⟩
 rw [hr] at hq
 rcases (by simpa using hq:q=i∨q=j) with rfl | rfl
 ·unfold wpOp
  rw [hi]
  simp only [Region.wanted,if_true]
  refine .inl (B6 (fun a' w' h''=>⟨fun hx=>h''.2 (by rw [hx] at hX;simpa using hX),?_⟩) (fun _ _ _ h=>h) (ho _ a w hg))
  obtain⟨⟨q,hq⟩,_⟩:=h''
  exact h q a' w' hq
 ·unfold wpOp
  rw [hj]
  simp only [Region.wanted,if_true]
  refine .inl (B6 (fun a' w' h''=>⟨fun hx=>h''.2 (by rw [hx] at hX';simpa using hX'),?_⟩) (fun _ _ _ h=>h) (ho' _ a w hg))
  obtain⟨⟨q,hq⟩,_⟩:=h''
  exact h' q a' w' hq
theorem US (d m:Nat) {ι:Type} {X:ι→Prop} {g:FuncId} {xs:Array Operand} {ats:Array TypeId} {cargs:List AV} {ob':ι→List (Nat × Option Ob)} {nx':Nat} {res:ι→AV} (hE:Go.Proofs.Enters cx.P g)(hC:jG cx.P g cargs X ob' nx' res)(hd:Q6 dst cx.n=true)(ha:pR s true xs.toList cargs)(hdx:s.nx=d)(hm:d + nx'=m):
  ML cx s ⟨dst,.call {callee:=.value (.func g),args:=xs,argTypes:=ats},ty,pos,aft,none⟩ (fun i: {i // X i}=>((⟨s.tm,BP d (ob' i.1) s.ob,m⟩:St).sets dst (some ((res i.1).up d)))) true:=by
 subst hdx hm
 intro Q a w hg
 obtain⟨E,S,hI,hT,hn,hdf⟩:=hg
 unfold Oper.wp
 rw [execOp_call_go,hE]
 have hargs:#[]++Array.map a.eval xs++#[]=(xs.toList.map a.eval).toArray:=by
  apply Array.ext'
  simp
 rw [hargs,Oper.upon_enter]
 refine(hC 0 w (Sc true S w) (xs.toList.map a.eval) (fun k hk=>?_) (ha.den hI hT)).mono ?_
 ·unfold Sc at hk
  rw [if_pos rfl] at hk
  exact hI.slt k hk
 ·rintro e w' ⟨i,hX,u,E',S',rfl,hI',hu⟩
  obtain⟨h1,h2⟩:=hI.join hI' (.inl rfl)
  refine⟨⟨⟨i,hX⟩,_,_,by rw [B7,A7];exact h1,I8 (s:=⟨s.tm,BP s.nx (ob' i) s.ob,s.nx + nx'⟩) hd hn (O7.carry h2 hT) (fun v' e=>?_),by rw [P8];exact hn,by rw [put_defers];exact hdf⟩,fun _=>⟨hI'.kept.size,fun k hk=>hI'.kept.block k hk (fun h=>h)⟩⟩
  cases e
  exact cP (fun k hk=> .inr ⟨rfl,hk⟩) hu
theorem s9 (j d m:Nat) {ι:Type} {X:ι→Prop} {pv:Option Value} {cells:List AC} {cells':ι→List AC} {g:FuncId} {xs:Array Operand} {ats:Array TypeId} {cargs:List AV} {ob':ι→List (Nat × Option Ob)} {nx':Nat} {res:ι→AV} (hE:Go.Proofs.Enters cx.P g)(hC:MS cx.P g cargs cells X cells' ob' nx' res)(hd:Q6 dst cx.n=true)(hb:y9 s.ob j=some (U0 pv cells))(ha:HX s j xs.toList cargs)(hc0:cells.all AC.pt=true)(hc:∀i,(cells' i).all AC.pt=true)(hr:∀i,vN (ob' i)=true)(hn0:∀i,(res i).all (fun a=>!a.names 0)=true)(hdx:s.nx=d)(hm:d + nx'=m):
  ML cx s ⟨dst,.call {callee:=.value (.func g),args:=xs,argTypes:=ats},ty,pos,aft,none⟩ (fun i: {i // X i}=>((⟨s.tm,(j,some (U0 pv (cells' i.1)))::BP d (ob' i.1) s.ob,m⟩:St).sets dst (some ((res i.1).up d)))) false:=by
 subst hdx hm
 intro Q a w hg
 obtain⟨E,S,hI,hT,hn,hdf⟩:=hg
 obtain⟨hl,hbx⟩:=hI.obs _ _ hb
 have hbp:x6 E S w j (.pbox (E j).u cells)∧∀cs,(U0 pv cs= .box cs∨U0 pv cs= .pbox (E j).u cs):=by
  cases pv with
  | none=>exact⟨⟨rfl,hbx⟩,fun cs=> .inl rfl⟩
  | some v=>exact⟨⟨rfl,hbx.2⟩,fun cs=> .inr (by rw [hbx.1];rfl)⟩
 obtain⟨hbp,hbo⟩:=hbp
 unfold Oper.wp
 rw [execOp_call_go,hE]
 have hargs:#[]++Array.map a.eval xs++#[]=(xs.toList.map a.eval).toArray:=by
  apply Array.ext'
  simp
 rw [hargs,Oper.upon_enter]
 have e0:gY E j 0=E j:=if_pos rfl
 have hlive:∀q,(gY E j q).live→q=0:=fun q h=>by
  unfold gY at h
  split at h
  ·assumption
  ·exact h.elim
 have hI0:G6 ⟨cx.P,g,0,w,S,K7 (gY E j)⟩ [(0,some (.pbox (E j).u cells))] 1 (gY E j) S w:=by
  refine⟨hI.slt,fun k h=> .inl h,fun q o hq=>?_,fun q q' hij hq hq'=>absurd ((hlive q hq).trans (hlive q' hq').symm) hij,fun q hq k hk=>?_,fun q hq=>by rw [hlive q hq];exact Nat.one_pos,xZ.refl _ _⟩
  ·rw [D9] at hq
   split at hq
   ·rename_i hj0
    subst hj0
    cases hq
    obtain⟨_,hrd,g0,t0,cs0,hu0,hF0,hh0,hd0⟩:=hbp
    refine⟨by rw [e0];exact hl,by rw [e0],by rw [e0];exact hrd,g0,t0,cs0,by rw [e0];exact hu0,fun k=>by rw [e0];exact hF0 k,hh0,HL (fun _ h=>h) hc0 hd0⟩
   ·simp [y9] at hq
  ·have hj0:=hlive q hq
   subst hj0
   rw [e0] at hk
   exact⟨(hI.fp j hl k hk).1,(hI.fp j hl k hk).2.1,.inr ⟨0,by rw [e0];exact hl,by rw [e0];exact hk⟩⟩
 refine(hC (E j).u 0 w (gY E j) S (xs.toList.map a.eval) hI0 (ha.den hT)).mono ?_
 rintro e w' ⟨i,hX,u,E',S2,rfl,hI',hu⟩
 obtain⟨h1,h2⟩:=hI.joinG hl hbp hI' (hc i) (hr i) (hbo (cells' i))
 refine⟨⟨⟨i,hX⟩,_,_,by rw [B7,A7];exact h1,I8 (s:=⟨s.tm,(j,some (U0 pv (cells' i)))::BP s.nx (ob' i) s.ob,s.nx + nx'⟩) hd hn (O7.carry h2 hT) (fun v' e=>?_),by rw [P8];exact hn,by rw [put_defers];exact hdf⟩,fun h=>by cases h⟩
 cases e
 exact cH (fun k hk=> .inr hk) (hn0 i) hu
end
def AC.frz (i:Nat) (x:T):AC→AC
 | .own k=>cond (Nat.beq k i) (.t none x) (.own k)
 | .t (some k) y=>cond (Nat.beq k i) (.t none y) (.t (some k) y)
 | a=>cond (a.names i) .top a
def AV.mapC (φ:AC→AC):AV→AV
 | .c a=> .c (φ a)
 | .agg cs=> .agg (cs.map φ)
 | .tup vs=> .tup (vs.map fun p=>(p.1,p.2.map φ))
def Ob.mapC (φ:AC→AC):Ob→Ob
 | .box cs=> .box (cs.map φ)
 | .pbox v cs=> .pbox v (cs.map φ)
 | o=>o
def VU (φ:AC→AC) (l:List (Nat × Option AV)):List (Nat × Option AV):=l.map fun p=>(p.1,p.2.map (AV.mapC φ))
def pU (i:Nat) (φ:AC→AC) (l:List (Nat × Option Ob)):List (Nat × Option Ob):=(i,none)::l.map fun p=>(p.1,p.2.map (Ob.mapC φ))
theorem yZ {β:Type 1} {f:β→β}:∀(l:List (Nat × Option β)) (t:Nat),y9 (l.map fun p=>(p.1,p.2.map f)) t=(y9 l t).map f
 | [],t=>rfl
 | (k,v)::r,t=>by
  simp only [List.map_cons]
  rw [D9,D9,yZ r t]
  split <;> rfl
theorem EH {w:World} {e:Nat} {deep:Bool} {α:Type} {sz:Nat} {enc:α→Nat→T} {xs:List α} {u:Value} {F S:Nat→Prop} (h:if deep=true then AP w e sz enc xs u F else Ro w S e sz enc xs u F):Rd w (fun k=>S k∨F k) (.sl sz enc xs) u:=by
 cases deep
 ·simp only [Bool.false_eq_true,if_false] at h
  obtain⟨cells,ho,hf,hx⟩:=h
  obtain⟨A,cap,hu,hc,hr⟩:=LY ho
  refine⟨A,cap,hu,hc,fun i x hi=>?_⟩
  by_cases hz:0 < sz
  ·obtain⟨u0,h0,_⟩:=hx i x hi 0 hz
   obtain⟨g,hA,hb,_⟩:=hr _ _ h0
   refine⟨⟨g,0,none⟩,hA,.inr (hf g hb),fun j hj=>?_⟩
   obtain⟨u',h1,h2⟩:=hx i x hi j hj
   obtain⟨g',hA',_,hcell⟩:=hr _ _ h1
   rw [hA] at hA'
   cases hA'
   exact⟨u',hcell,Rd.move (fun k q=> .inl q) (fun _ _=>rfl) _ _ h2⟩
  ·cases A with
   | none=>
    have hl:=ho.2
    rcases hl with⟨rfl,hn⟩ | ⟨g,cap',cur,rfl,_⟩
    ·have:xs=[]:=List.eq_nil_of_length_eq_zero hn
     subst this
     simp at hi
    ·cases hu
   | some ad=>
    subst hu
    exact⟨ad,rfl,.inr (hf _ rfl),fun j hj=>absurd hj (by omega)⟩
 ·simp only [if_true] at h
  have h':Ow w (.sl sz enc xs) u F:=by
   obtain⟨cells,G,q⟩:=h
   exact⟨e,cells,G,q⟩
  exact Rd.move (fun k q=> .inr q) (fun _ _=>rfl) _ _ (Ow.rd _ _ h')
section
variable {cx:Cx} {s:St} {R:Ending→World→Prop} {todo:List Item}
theorem XW {i:Nat} {E:Nat→EE} {S F:Nat→Prop} {w:World}:Carry E (c5 E i A5) S (fun k=>S k∨F k) w w (fun a=>a.names i) where
 sub:=fun _ h=> .inl h
 keep:=fun _ _=>rfl
 place:=fun a ha k hk hlk=>by
  have:k≠i:=fun e=>by subst e;have h':a.names k=false:=ha;rw [h'] at hk;cases hk
  rw [A8 this];exact⟨hlk,rfl⟩
 reads:=fun a ha k hk hlk=>by
  have:k≠i:=fun e=>by subst e;have h':a.names k=false:=ha;rw [r7 hk] at h';cases h'
  rw [A8 this];exact⟨hlk,fun _ h=>h,fun _ _=>rfl⟩
theorem ZX (φ:AC→AC)(i:Nat) {o:Ob} {a:Act} {w:World} (hb:y9 s.ob i=some o)(hφ:∀E S,G6 cx s.ob s.nx E S w→∀c u,S6 E S w c u→S6 (c5 E i A5) (fun k=>S k∨(E i).F k) w (φ c) u)(hM:∀E S w,G6 cx s.ob s.nx E S w→∀k,cx.M k→¬(E i).F k)(hg:Gm cx s a w):Gm cx ⟨VU φ s.tm,pU i φ s.ob,s.nx⟩ a w:=by
 obtain⟨E,S,hI,hT,hsz,hdf⟩:=hg
 have hl:=(hI.obs _ _ hb).1
 have hC:=fun {c u}=>hφ E S hI c u
 have hLL:∀ {cs:List AC} {us:List Value},r6 E S w cs us→r6 (c5 E i A5) (fun k=>S k∨(E i).F k) w (cs.map φ) us:=by
  intro cs us hd
  refine⟨by rw [hd.1,List.length_map],fun j c hc=>?_⟩
  rw [List.getElem?_map] at hc
  obtain⟨c0,h0,rfl⟩:=Option.map_eq_some_iff.mp hc
  obtain⟨u',h1,h2⟩:=hd.2 j c0 h0
  exact⟨u',h1,hC h2⟩
 have hV:∀ {v:AV} {u:Value},M6 E S w v u→M6 (c5 E i A5) (fun k=>S k∨(E i).F k) w (v.mapC φ) u:=by
  intro v u hd
  cases v with
  | c a=>exact hC hd
  | agg cs=>obtain⟨us,rfl,hd⟩:=hd;exact⟨us,rfl,hLL hd⟩
  | tup vs=>
   obtain⟨us,rfl,hl,hd⟩:=hd
   refine⟨us,rfl,by rw [hl,List.length_map],fun j b cs hc=>?_⟩
   rw [List.getElem?_map] at hc
   obtain⟨⟨b0,c0⟩,h0,hc⟩:=Option.map_eq_some_iff.mp hc
   cases hc
   obtain⟨u',h1,h2⟩:=hd j b0 c0 h0
   refine⟨u',h1,?_⟩
   unfold KW at *
   split
   ·rename_i hb
    rw [if_pos hb] at h2
    obtain⟨us,rfl,h2⟩:=h2
    exact⟨us,rfl,hLL h2⟩
   ·rename_i hb
    rw [if_neg hb] at h2
    exact hLL h2
 have hlv:∀j,(c5 E i A5 j).live→j≠i∧c5 E i A5 j=E j:=fun j hj=>by
  by_cases e:j=i
  ·subst e;rw [W8] at hj;exact hj.elim
  ·exact⟨e,A8 e⟩
 refine⟨c5 E i A5,fun k=>S k∨(E i).F k,⟨?_,?_,fun j o hj=>?_,fun j j' hij hj hj' q h1 h2=>?_,fun j hj q hq=>?_,fun j hj=>?_,hI.kept⟩,fun t v hv=>?_,hsz,hdf⟩
 ·rintro k (h | h)
  ·exact hI.slt k h
  ·exact(hI.fp i hl k h).1
 ·rintro k (h | h)
  ·exact hI.snew k h
  ·rcases (hI.fp i hl k h).2.2 with q | q
   ·exact .inr q
   ·exact absurd h (hM E S w hI k q)
 ·show(c5 E i A5 j).live∧_
  unfold pU at hj
  rw [D9] at hj
  split at hj
  ·cases hj
  ·rename_i hji
   rw [yZ] at hj
   obtain⟨o0,h0,rfl⟩:=Option.map_eq_some_iff.mp hj
   obtain⟨h1,h2⟩:=hI.obs j o0 h0
   refine⟨by rw [A8 hji];exact h1,?_⟩
   cases o0 with
   | box cells=>
    obtain⟨q1,g,t,cs,q2,q3,q4,q5⟩:=h2
    exact⟨by rw [A8 hji];exact q1,g,t,cs,by rw [A8 hji];exact q2,fun k=>by rw [A8 hji];exact q3 k,q4,hLL q5⟩
   | pbox v cells=>
    obtain⟨q0,q1,g,t,cs,q2,q3,q4,q5⟩:=h2
    exact⟨by rw [A8 hji];exact q0,by rw [A8 hji];exact q1,g,t,cs,by rw [A8 hji];exact q2,fun k=>by rw [A8 hji];exact q3 k,q4,hLL q5⟩
   | row pn' e' deep' sz' enc' xs'=>
    obtain⟨q1,q2,q3⟩:=h2
    refine⟨by rw [A8 hji];exact q1,by rw [A8 hji];exact q2,?_⟩
    rw [A8 hji]
    cases deep'
    ·simp only [Bool.false_eq_true,if_false] at q3 ⊢
     exact Ro.move (fun _ h=> .inl h) (fun _ _=>rfl) (fun _ h=>h) (fun _ _=>rfl) q3
    ·exact q3
   | bag x=>
    obtain⟨q1,q2⟩:=h2
    refine⟨by rw [A8 hji];exact q1,?_⟩
    rw [A8 hji]
    exact q2
 ·obtain⟨e1,e2⟩:=hlv j hj
  obtain⟨e3,e4⟩:=hlv j' hj'
  rw [e2] at hj h1
  rw [e4] at hj' h2
  exact hI.dis j j' hij hj hj' q h1 h2
 ·obtain⟨e1,e2⟩:=hlv j hj
  rw [e2] at hj hq
  obtain⟨r1,r2,r3⟩:=hI.fp j hj q hq
  refine⟨r1,?_,r3⟩
  rintro(h | h)
  ·exact r2 h
  ·exact hI.dis j i e1 hj hl q hq h
 ·obtain⟨e1,e2⟩:=hlv j hj
  rw [e2] at hj
  exact hI.nxt j hj
 ·unfold VU at hv
  rw [yZ] at hv
  obtain⟨v0,h0,rfl⟩:=Option.map_eq_some_iff.mp hv
  exact hV (hT t v0 h0)
theorem ZS {i:Nat} {pn:Option Value} {e:Nat} {deep:Bool} {α:Type} {sz:Nat} {enc:α→Nat→T} {xs:List α} {w:World} (hb:y9 s.ob i=some (.row pn e deep sz enc xs)):∀E S,G6 cx s.ob s.nx E S w→∀c u,S6 E S w c u→S6 (c5 E i A5) (fun k=>S k∨(E i).F k) w (AC.frz i (.sl sz enc xs) c) u:=fun E S hI c u hd=>by
 obtain⟨hl,hrd,hpn,ho⟩:=hI.obs _ _ hb
 have hR:=EH ho
 have gen:S6 (c5 E i A5) (fun k=>S k∨(E i).F k) w (cond (c.names i) .top c) u:=XW.c hd
 cases c with
 | own k=>
  simp only [AC.frz]
  cases hk:Nat.beq k i
  ·have:(AC.own k).names i=false:=hk
   rw [this] at gen
   exact gen
  ·obtain rfl:=Nat.eq_of_beq_eq_true hk
   simp only [cond_true]
   refine⟨trivial,?_⟩
   rw [hd.2.1]
   exact hR
 | t r y=>
  cases r with
  | none=>exact gen
  | some k=>
   simp only [AC.frz]
   cases hk:Nat.beq k i
   ·have:(AC.t (some k) y).names i=false:=hk
    rw [this] at gen
    exact gen
   ·obtain rfl:=Nat.eq_of_beq_eq_true hk
    simp only [cond_true]
    exact⟨trivial,Rd.move (fun q h=> .inr h) (fun _ _=>rfl) _ _ hd.2⟩
 | _=>exact gen
theorem o9 (i:Nat) {pn:Option Value} {e:Nat} {deep:Bool} {α:Type} {sz:Nat} {enc:α→Nat→T} {xs:List α} (hb:y9 s.ob i=some (.row pn e deep sz enc xs))(hM:∀E S w,G6 cx s.ob s.nx E S w→∀k,cx.M k→¬(E i).F k)
  (h:Wt cx ⟨VU (AC.frz i (.sl sz enc xs)) s.tm,pU i (AC.frz i (.sl sz enc xs)) s.ob,s.nx⟩ todo R):Wt cx s todo R:=fun a w hg=>h a w (ZX _ i hb (ZS hb) hM hg)
inductive HY {α:Type} (enc:α→Nat→T):List AC→List α→Prop
 | nil:HY enc [] []
 | cons {x:α} {al:List AC} {xs:List α} (hr:HY enc al xs):HY enc (.t none (enc x 0)::al) (x::xs)
theorem HY.get {α:Type} {enc:α→Nat→T} {al:List AC} {xs:List α} (h:HY enc al xs):∀(q:Nat) (x:α),xs[q]? =some x→al[q]? =some (.t none (enc x 0)):=by
 induction h with
 | nil=>intro q x h;simp at h
 | cons hr ih=>
  intro q x h
  match q with
  | 0=>cases h;rfl
  | q + 1=>exact ih q x h
theorem uN {i:Nat} {α:Type} {enc:α→Nat→T} {xs:List α} {cells:List AC} {w:World} (hb:y9 s.ob i=some (.box cells))(hc:HY enc cells xs):∀E S,G6 cx s.ob s.nx E S w→∀c u,S6 E S w c u→S6 (c5 E i A5) (fun k=>S k∨(E i).F k) w (cond (match c with | .bsl k n=>Nat.beq k i&&Nat.beq n xs.length | _=>false) (.t none (.sl 1 enc xs)) (cond (c.names i) .top c)) u:=fun E S hI c u hd=>by
 obtain⟨hl,hrd,g,t,cs,hu,hF,hh,hcd⟩:=hI.obs _ _ hb
 have gen:S6 (c5 E i A5) (fun k=>S k∨(E i).F k) w (cond (c.names i) .top c) u:=XW.c hd
 cases c with
 | bsl k n=>
  cases hk:Nat.beq k i&&Nat.beq n xs.length
  ·simp only [hk,cond_false]
   exact gen
  ·simp only [hk,cond_true]
   rw [Bool.and_eq_true] at hk
   obtain rfl:=Nat.eq_of_beq_eq_true hk.1
   obtain rfl:=Nat.eq_of_beq_eq_true hk.2
   obtain⟨_,g',h1,rfl⟩:=hd
   rw [hu] at h1
   cases h1
   refine⟨trivial,some ⟨g,0,none⟩,xs.length,rfl,Nat.le_refl _,fun j x hx=>⟨⟨g,0,none⟩,rfl,.inr ((hF g).2 rfl),fun q hq=>?_⟩⟩
   obtain rfl:q=0:=by omega
   obtain⟨u',e1,e2⟩:=hcd.2 j _ (hc.get j x hx)
   refine⟨u',?_,Rd.move (fun _ h=> .inl h) (fun _ _=>rfl) _ _ e2.2⟩
   have hadd:(⟨g,0,none⟩:Addr).add (j * 1 + 0)=⟨g,j,none⟩:=by
    unfold Addr.add
    split
    ·rename_i h0
     have:j=0:=by omega
     subst this
     rfl
    ·simp
   rw [hadd]
   unfold World.cell?
   simp [hh,e1]
 | _=>exact gen
def kI (i n:Nat) (x:T) (c:AC):AC:=cond (match c with | .bsl k m=>Nat.beq k i&&Nat.beq m n | _=>false) (.t none x) (cond (c.names i) .top c)
theorem sV {k:List Item} {ops:Array Oper} {rest:List Oper} (i:Nat) {α:Type} {enc:α→Nat→T} (xs:List α) {cells:List AC} (hb:y9 s.ob i=some (.box cells))(hc:HY enc cells xs)(hM:∀E S w,G6 cx s.ob s.nx E S w→∀k,cx.M k→¬(E i).F k)
  (h:Wr cx ⟨VU (kI i xs.length (.sl 1 enc xs)) s.tm,pU i (kI i xs.length (.sl 1 enc xs)) s.ob,s.nx⟩ ops rest k R):Wr cx s ops rest k R:=fun a w hg=>h a w (ZX _ i hb (uN hb hc) hM hg)
theorem VT {k:List Item} {ops:Array Oper} {X:Nat→Bool} {fuel:Nat} {listed:Array Bool} (i:Nat) {α:Type} {enc:α→Nat→T} (xs:List α) {cells:List AC} (hb:y9 s.ob i=some (.box cells))(hc:HY enc cells xs)(hM:∀E S w,G6 cx s.ob s.nx E S w→∀k,cx.M k→¬(E i).F k)
  (h:Wd cx ⟨VU (kI i xs.length (.sl 1 enc xs)) s.tm,pU i (kI i xs.length (.sl 1 enc xs)) s.ob,s.nx⟩ ops X fuel listed k R):Wd cx s ops X fuel listed k R:=fun a w hg=>h a w (ZX _ i hb (uN hb hc) hM hg)
theorem FY {k:List Item} {ops:Array Oper} {rest:List Oper} (i:Nat) {pn:Option Value} {e:Nat} {deep:Bool} {α:Type} {sz:Nat} {enc:α→Nat→T} {xs:List α} (hb:y9 s.ob i=some (.row pn e deep sz enc xs))(hM:∀E S w,G6 cx s.ob s.nx E S w→∀k,cx.M k→¬(E i).F k)
  (h:Wr cx ⟨VU (AC.frz i (.sl sz enc xs)) s.tm,pU i (AC.frz i (.sl sz enc xs)) s.ob,s.nx⟩ ops rest k R):Wr cx s ops rest k R:=fun a w hg=>h a w (ZX _ i hb (ZS hb) hM hg)
theorem K9 {i:Nat} (h:cx.M=fun _=>False):∀E S w,G6 cx s.ob s.nx E S w→∀k,cx.M k→¬(E i).F k:=fun E S w _ k hk=>by rw [h] at hk;exact hk.elim
theorem W9 {i:Nat} {v:Value} {cells:List AC} {o:Ob} (hM:∀k,cx.M k→v= .pointer (some ⟨k,0,none⟩))(h0:y9 s.ob 0=some (.pbox v cells))(hb:y9 s.ob i=some o)(hi:Nat.beq i 0=false):∀E S w,G6 cx s.ob s.nx E S w→∀k,cx.M k→¬(E i).F k:=fun E S w hI k hk hF=>by
 have hi0:i≠0:=fun e=>by rw [e] at hi;cases hi
 obtain⟨hl0,hu,_,g,t,cs,h2,h3,_⟩:=hI.obs _ _ h0
 have hl:=(hI.obs _ _ hb).1
 have hv:=hM k hk
 rw [← hu,h2] at hv
 cases hv
 exact hI.dis i 0 hi0 hl hl0 k hF ((h3 k).2 rfl)
end
section
variable {cx:Cx} {s:St} {dst:Option Nat} {ty:TypeId} {pos:String} {aft:Array Edge}
theorem WX {x:Operand} {i o:Nat} (hx:s.ev x=some (.c (.ptr i o))):Ps cx s (.nilCheck x) (.c (.ptr i o)):=fun a w E S hI hT=>by
 obtain⟨hlv,g,h1,h2⟩:=J9 hT hx
 refine⟨a.eval x,fun w' _ _ _ _ _ _=>?_,hlv,g,h1,h2⟩
 simp only [execOp,h2]
 rfl
theorem AR {x:Operand} {i o:Nat} (hd:Q6 dst cx.n=true)(hx:s.ev x=some (.c (.ptr i o))):Os cx s ⟨dst,.nilCheck x,ty,pos,aft,none⟩ (s.sets dst (some (.c (.ptr i o)))) true:=C8 hd (WX hx)
end
def gP (a b:Int):Int:=IntKind.i64.wrap (BitVec.ofInt 64 a&&& BitVec.ofInt 64 b).toNat
def OI (a b:Int):Int:=IntKind.i64.wrap (BitVec.ofInt 64 a ^^^ BitVec.ofInt 64 b).toNat
theorem fL {a b:Int}:KV .and .i64 a b=some (.int .i64 (gP a b)):=rfl
theorem YH {a b:Int}:KV .xor .i64 a b=some (.int .i64 (OI a b)):=rfl
theorem cL (a:Int):0≤gP a 255∧gP a 255≤255:=by
 unfold gP
 have h:(BitVec.ofInt 64 a&&& BitVec.ofInt 64 255).toNat≤255:=by
  rw [BitVec.toNat_and]
  exact Nat.and_le_right
 rw [s8 (by omega) (by omega)]
 omega
theorem QH {a b:Int} (h:b≠0):KV .rem .i64 a b=some (.int .i64 (Int.tmod a b)):=by simp only [KV];rw [if_neg h]
theorem VL {a b:Int} (ha:0≤a)(hb:0 < b):0≤Int.tmod a b∧Int.tmod a b≤b - 1:=by
 rw [Int.tmod_eq_emod_of_nonneg ha]
 have h1:=Int.emod_nonneg a (b:=b) (by omega)
 have h2:=Int.emod_lt_of_pos a hb
 omega
end Go.Eng
