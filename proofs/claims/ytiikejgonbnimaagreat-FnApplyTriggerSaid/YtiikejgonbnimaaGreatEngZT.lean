import Derived.Test.YtiikejgonbnimaaGreatEngZS
set_option linter.unusedVariables false
set_option linter.unusedSimpArgs false
namespace Go.Eng
open Go Go.RowKit
def TP (E:Nat→EE) (p q r:Nat):Nat→EE:=fun k=>if k=0 then E p else if k=1 then E q else if k=2 then E r else A5
def rV (E E':Nat→EE) (p q r:Nat):Nat→EE:=fun k=>if k=p then E' 0 else if k=q then E' 1 else if k=r then E' 2 else E k
section
variable {cx:Cx} {ob ob':List (Nat × Option Ob)} {nx nx' p q r:Nat} {E E':Nat→EE} {S S2:Nat→Prop} {w w':World} {P:Program} {g:FuncId} {n:Nat} {c2:List AC} {pv qv:Option Value} {e sz:Nat} {α:Type} {enc:α→Nat→T} {l':List α}
theorem VV {i:Nat} {v:Option Value} {cs:List AC}:x6 E S w i (U0 v cs)↔(∀u,v=some u→(E i).u=u)∧x6 E S w i (.box cs):=by
 cases v with
 | none=>exact⟨fun h=>⟨fun u hu=>(by cases hu),h⟩,fun h=>h.2⟩
 | some v=>exact⟨fun h=>⟨fun u hu=>(by cases hu;exact h.1),h.2⟩,fun h=>⟨h.1 v rfl,h.2⟩⟩
theorem G6.join3 (hI:G6 cx ob nx E S w)(hp:(E p).live)(hq:(E q).live)(hr:(E r).live)(hpq:p≠q)(hpR:p≠r)(hqR:q≠r)(hpr:¬(E p).rd)(hqr:¬(E q).rd)(hpv:∀u,pv=some u→(E p).u=u)(hqv:∀u,qv=some u→(E q).u=u)
  (hI':G6 ⟨P,g,n,w,S,K7 (TP E p q r)⟩ ob' nx' E' S2 w') (l0:(E' 0).live) (l1:(E' 1).live) (l2:(E' 2).live) (o0:x6 E' S2 w' 0 (.pbox (E p).u [.own 2])) (o1:x6 E' S2 w' 1 (.pbox (E q).u c2)) (o2:x6 E' S2 w' 2 (.row none e false sz enc l')) (hc2:c2.all AC.pt=true):
  G6 cx ((p,some (U0 pv [.own r]))::(q,some (U0 qv c2))::(r,some (.row none e false sz enc l'))::Y6 (c7 r []) ob) nx (rV E E' p q r) (fun k=>S k∨S2 k) w'∧Carry E (rV E E' p q r) S (fun k=>S k∨S2 k) w w' (c7 r []):=by
 have hH:∀k,K7 (TP E p q r) k→(E p).F k∨(E q).F k∨(E r).F k:=fun k ⟨j,h1,h2⟩=>by
  unfold TP at h1 h2
  by_cases e0:j=0
  ·rw [if_pos e0] at h2;exact .inl h2
  ·rw [if_neg e0] at h1 h2
   by_cases e1:j=1
   ·rw [if_pos e1] at h2;exact .inr (.inl h2)
   ·rw [if_neg e1] at h1 h2
    by_cases e2:j=2
    ·rw [if_pos e2] at h2;exact .inr (.inr h2)
    ·rw [if_neg e2] at h1;exact h1.elim
 have hHl:∀k,(E p).F k∨(E q).F k∨(E r).F k→k < w.heap.size∧¬S k∧(cx.w0.heap.size≤k∨cx.M k):=fun k h=>by
  rcases h with h | h | h
  ·exact hI.fp p hp k h
  ·exact hI.fp q hq k h
  ·exact hI.fp r hr k h
 have hkeep:∀k,k < w.heap.size→¬((E p).F k∨(E q).F k∨(E r).F k)→w'.heap[k]? =w.heap[k]? :=fun k hk hf=>hI'.kept.block k hk fun h=>hf (hH k h)
 have hFp:rV E E' p q r p=E' 0:=if_pos rfl
 have hFq:rV E E' p q r q=E' 1:=by unfold rV;rw [if_neg (Ne.symm hpq),if_pos rfl]
 have hFr:rV E E' p q r r=E' 2:=by unfold rV;rw [if_neg (Ne.symm hpR),if_neg (Ne.symm hqR),if_pos rfl]
 have hFo:∀j,j≠p→j≠q→j≠r→rV E E' p q r j=E j:=fun j h2 h3 h4=>by unfold rV;rw [if_neg h2,if_neg h3,if_neg h4]
 have hS2:∀k,S2 k→S k∨w.heap.size≤k:=fun k h=>hI'.snew k h
 have hold:∀j,(E j).live→j≠p→j≠q→j≠r→∀k,(E j).F k→k < w.heap.size∧¬((E p).F k∨(E q).F k∨(E r).F k):=fun j h1 h3 h4 h6 k h5=>⟨(hI.fp j h1 k h5).1,by
  rintro(h | h | h)
  ·exact hI.dis j p h3 h1 hp k h5 h
  ·exact hI.dis j q h4 h1 hq k h5 h
  ·exact hI.dis j r h6 h1 hr k h5 h⟩
 have hnew:∀c,(E' c).live→∀k,(E' c).F k→k < w'.heap.size∧¬S2 k∧(w.heap.size≤k∨((E p).F k∨(E q).F k∨(E r).F k)):=fun c h1 k h2=>by
  obtain⟨r1,r2,r3⟩:=hI'.fp c h1 k h2
  exact⟨r1,r2,r3.imp id (hH k)⟩
 obtain⟨u1,rd1,g1,e1,cs1,hu1,hF1,hh1,hd1⟩:=o0
 obtain⟨u2,rd2,g2,e2,cs2,hu2,hF2,hh2,hd2⟩:=o1
 obtain⟨rd3,_,ro3⟩:=o2
 have hC:Carry E (rV E E' p q r) S (fun k=>S k∨S2 k) w w' (c7 r []):= {
  sub:=fun _ h=> .inl h
  keep:=fun k hk=>hkeep k (hI.slt k hk) fun h=>(hHl k h).2.1 hk
  place:=fun a ha j hj hli=>by
   have hji:j≠r:=fun e=>by
    subst e
    simp only [c7,List.any_nil,Bool.or_false] at ha
    rw [ha] at hj;cases hj
   by_cases e1:j=p
   ·subst e1;rw [hFp];exact⟨l0,u1⟩
   ·by_cases e2:j=q
    ·subst e2;rw [hFq];exact⟨l1,u2⟩
    ·rw [hFo j e1 e2 hji];exact⟨hli,rfl⟩
  reads:=fun a ha j hj hli=>by
   have hji:j≠r:=fun e=>by
    subst e
    simp only [c7,List.any_nil,Bool.or_false] at ha
    rw [r7 hj] at ha;cases ha
   have e1:j≠p:=fun e=>by subst e;exact hpr hli.2
   have e2:j≠q:=fun e=>by subst e;exact hqr hli.2
   rw [hFo j e1 e2 hji]
   exact⟨hli,fun _ h=>h,fun k hk=>hkeep k (hold j hli.1 e1 e2 hji k hk).1 (hold j hli.1 e1 e2 hji k hk).2⟩}
 have cls:∀c x,(rV E E' p q r c).live→(rV E E' p q r c).F x→(∃k,(E' k).live∧(E' k).F x∧(k=0∧c=p∨k=1∧c=q∨k=2∧c=r))∨((E c).live∧(E c).F x∧c≠p∧c≠q∧c≠r):=fun c x hcl hcF=>by
  by_cases e1:c=p
  ·subst e1;rw [hFp] at hcl hcF;exact .inl ⟨0,hcl,hcF,.inl ⟨rfl,rfl⟩⟩
  ·by_cases e2:c=q
   ·subst e2;rw [hFq] at hcl hcF;exact .inl ⟨1,hcl,hcF,.inr (.inl ⟨rfl,rfl⟩)⟩
   ·by_cases e3:c=r
    ·subst e3;rw [hFr] at hcl hcF;exact .inl ⟨2,hcl,hcF,.inr (.inr ⟨rfl,rfl⟩)⟩
    ·rw [hFo c e1 e2 e3] at hcl hcF;exact .inr ⟨hcl,hcF,e1,e2,e3⟩
 have hown:r6 (rV E E' p q r) (fun k=>S k∨S2 k) w' [.own r] cs1:=⟨hd1.1,fun j c hj=>by
  match j with
  | 0=>
   cases hj
   obtain⟨u',t1,t2⟩:=hd1.2 0 _ rfl
   exact⟨u',t1,by rw [hFr];exact t2.1,by rw [hFr];exact t2.2.1,t2.2.2⟩
  | j + 1=>simp at hj⟩
 refine⟨⟨?_,?_,?_,?_,?_,?_,?_⟩,hC⟩
 ·rintro k (h | h)
  ·exact Nat.lt_of_lt_of_le (hI.slt k h) hI'.kept.size
  ·exact hI'.slt k h
 ·rintro k (h | h)
  ·exact hI.snew k h
  ·rcases hS2 k h with h | h
   ·exact hI.snew k h
   ·exact .inr (Nat.le_trans hI.kept.size h)
 ·intro j o h
  rw [D9] at h
  split at h
  ·rename_i e;subst e;cases h
   rw [hFp]
   refine⟨l0,VV.2 ⟨fun u hu=>by rw [hFp];exact u1.trans (hpv u hu),by rw [hFp];exact rd1,g1,e1,cs1,by rw [hFp];exact hu1,fun k=>by rw [hFp];exact hF1 k,hh1,hown⟩⟩
  ·rename_i h1
   rw [D9] at h
   split at h
   ·rename_i e;subst e;cases h
    rw [hFq]
    refine⟨l1,VV.2 ⟨fun u hu=>by rw [hFq];exact u2.trans (hqv u hu),by rw [hFq];exact rd2,g2,e2,cs2,by rw [hFq];exact hu2,fun k=>by rw [hFq];exact hF2 k,hh2,HL (fun _ h=> .inr h) hc2 hd2⟩⟩
   ·rename_i h2
    rw [D9] at h
    split at h
    ·rename_i e;subst e;cases h
     rw [hFr]
     refine⟨l2,by rw [hFr];exact rd3,fun v hv=>(by cases hv),?_⟩
     rw [hFr]
     simp only [Bool.false_eq_true,if_false] at ro3 ⊢
     exact Ro.more (fun _ h=> .inr h) ro3
    ·rename_i h3
     rw [Z4] at h
     obtain⟨o3,h4,rfl⟩:=Option.map_eq_some_iff.mp h
     obtain⟨r1,r2⟩:=hI.obs j o3 h4
     have eF:=hFo j h1 h2 h3
     refine⟨by rw [eF];exact r1,?_⟩
     exact x6.carry hC (i:=j) (by rw [eF]) (fun k=>by rw [eF]) (by rw [eF]) (fun k hk=>hkeep k (hold j r1 h1 h2 h3 k hk).1 (hold j r1 h1 h2 h3 k hk).2) r2
 ·intro a b hab ha hb' x h1 h2
  rcases cls a x ha h1 with⟨k,k1,k2,k3⟩ | ⟨k1,k2,k4,k5,k6⟩ <;> rcases cls b x hb' h2 with⟨m,m1,m2,m3⟩ | ⟨m1,m2,m4,m5,m6⟩
  ·have hkm:k≠m:=by
    intro e
    subst e
    apply hab
    rcases k3 with⟨h,rfl⟩ | ⟨h,rfl⟩ | ⟨h,rfl⟩ <;> rcases m3 with⟨t,rfl⟩ | ⟨t,rfl⟩ | ⟨t,rfl⟩ <;> first | rfl | omega
   exact hI'.dis k m hkm k1 m1 x k2 m2
  ·rcases (hnew k k1 x k2).2.2 with h | h
   ·have:=(hold b m1 m4 m5 m6 x m2).1;omega
   ·exact(hold b m1 m4 m5 m6 x m2).2 h
  ·rcases (hnew m m1 x m2).2.2 with h | h
   ·have:=(hold a k1 k4 k5 k6 x k2).1;omega
   ·exact(hold a k1 k4 k5 k6 x k2).2 h
  ·exact hI.dis a b hab k1 m1 x k2 m2
 ·intro c hc k hk
  rcases cls c k hc hk with⟨m,m1,m2,_⟩ | ⟨m1,m2,m4,m5,m6⟩
  ·obtain⟨r1,r2,r3⟩:=hnew m m1 k m2
   refine⟨r1,?_,?_⟩
   ·rintro(h | h)
    ·rcases r3 with r3 | r3
     ·have:=hI.slt k h;omega
     ·exact(hHl k r3).2.1 h
    ·exact r2 h
   ·rcases r3 with r3 | r3
    ·exact .inl (Nat.le_trans hI.kept.size r3)
    ·exact(hHl k r3).2.2
  ·obtain⟨r1,r2,r3⟩:=hI.fp c m1 k m2
   refine⟨Nat.lt_of_lt_of_le r1 hI'.kept.size,?_,r3⟩
   rintro(h | h)
   ·exact r2 h
   ·rcases hS2 k h with h | h
    ·exact r2 h
    ·omega
 ·intro c hc
  by_cases e1:c=p
  ·subst e1;exact hI.nxt c hp
  ·by_cases e2:c=q
   ·subst e2;exact hI.nxt c hq
   ·by_cases e3:c=r
    ·subst e3;exact hI.nxt c hr
    ·rw [hFo c e1 e2 e3] at hc;exact hI.nxt c hc
 ·obtain⟨k1,k2,k3,k4,k5⟩:=hI.kept
  refine⟨hI'.kept.os.trans k1,hI'.kept.tape.trans k2,hI'.kept.output.trans k3,Nat.le_trans k4 hI'.kept.size,fun k hk hm=>?_⟩
  rw [hkeep k (Nat.lt_of_lt_of_le hk k4) (fun h=>by
   rcases (hHl k h).2.2 with h | h
   ·omega
   ·exact hm h)]
  exact k5 k hk hm
end
inductive WQ (s:St) (p q:Nat):AC→AC→Prop
 | t0 {x:T}:WQ s p q (.t none x) (.t none x)
 | p0 {o:Nat}:WQ s p q (.ptr p o) (.ptr 0 o)
 | q0 {o:Nat}:WQ s p q (.ptr q o) (.ptr 1 o)
 | clo {f:Nat}:WQ s p q (.clo f [(p,0),(q,0)]) (.clo f [(0,0),(1,0)])
inductive aS (s:St) (p q:Nat):List AC→List AC→Prop
 | nil:aS s p q [] []
 | cons {a b:AC} {al bs:List AC} (h:WQ s p q a b) (hr:aS s p q al bs):aS s p q (a::al) (b::bs)
inductive IW (s:St) (p q:Nat):List Operand→List AV→Prop
 | nil:IW s p q [] []
 | agg {x:Operand} {al cs:List AC} {xs:List Operand} {bs:List AV} (hx:s.ev x=some (.agg al)) (h:aS s p q al cs) (hr:IW s p q xs bs):IW s p q (x::xs) (.agg cs::bs)
 | cons {x:Operand} {a b:AC} {xs:List Operand} {bs:List AV} (hx:s.ev x=some (.c a)) (h:WQ s p q a b) (hr:IW s p q xs bs):IW s p q (x::xs) (.c b::bs)
theorem WQ.den {s:St} {p q r:Nat} {a b:AC} {E:Nat→EE} {S:Nat→Prop} {w:World} (h:WQ s p q a b) {u:Value} (hd:S6 E S w a u):S6 (TP E p q r) S w b u:=by
 cases h with
 | t0=>exact⟨trivial,hd.2⟩
 | p0=>exact hd
 | q0=>exact hd
 | clo=>
  obtain⟨us,r1,r2,r3⟩:=hd
  refine⟨us,r1,r2,fun j pr hj=>?_⟩
  match j with
  | 0=>cases hj;exact r3 0 (p,0) rfl
  | 1=>cases hj;exact r3 1 (q,0) rfl
  | j + 2=>simp at hj
theorem aS.den {s:St} {p q r:Nat} {al bs:List AC} {E:Nat→EE} {S:Nat→Prop} {w:World} (h:aS s p q al bs) {us:List Value} (hd:r6 E S w al us):r6 (TP E p q r) S w bs us:=by
 induction h generalizing us with
 | nil=>exact⟨hd.1,fun j c hj=>by simp at hj⟩
 | cons h hr ih=>
  obtain⟨h1,h2⟩:=hd
  cases us with
  | nil=>simp at h1
  | cons u us=>
   have:=ih (us:=us) ⟨by simpa using h1,fun j c hj=>h2 (j + 1) c hj⟩
   refine⟨by simp [this.1],fun j c hj=>?_⟩
   match j with
   | 0=>
    cases hj
    obtain⟨u',e1,e2⟩:=h2 0 _ rfl
    cases e1
    exact⟨u,rfl,h.den e2⟩
   | j + 1=>exact this.2 j c hj
theorem IW.den {s:St} {p q r:Nat} {xs:List Operand} {bs:List AV} {a:Act} {E:Nat→EE} {S:Nat→Prop} {w:World} (h:IW s p q xs bs)(hT:O7 E S w s.tm a.tmps):F2 (TP E p q r) S w bs (xs.map a.eval):=by
 induction h with
 | nil=>exact⟨rfl,fun j v hj=>by simp at hj⟩
 | agg hx h hr ih=>
  refine⟨by simp [ih.1],fun j v hj=>?_⟩
  match j with
  | 0=>
   cases hj
   obtain⟨us,h1,h2⟩:=J9 hT hx
   exact⟨_,rfl,us,h1,h.den h2⟩
  | j + 1=>exact ih.2 j v hj
 | cons hx h hr ih=>
  refine⟨by simp [ih.1],fun j v hj=>?_⟩
  match j with
  | 0=>cases hj;exact⟨_,rfl,h.den (J9 hT hx)⟩
  | j + 1=>exact ih.2 j v hj
section rules
variable {cx:Cx} {s:St} {dst:Option Nat} {ty:TypeId} {pos:String} {aft:Array Edge}
def kH (P:Program) (g:FuncId) (args:List AV) (C2 c2:List AC) (e sz:Nat) {α:Type} (enc:α→Nat→T) (l l':List α) (nx:Nat) (t:AC):Prop:=
 ∀U:Nat→Value,Mu P g args [(0,some (.pbox (U 0) [.own 2])),(1,some (.pbox (U 1) C2)),(2,some (.row none e false sz enc l))] 3 [(0,some (.pbox (U 0) [.own 2])),(1,some (.pbox (U 1) c2)),(2,some (.row none e false sz enc l'))] nx (.c t)
theorem zI {p q r:Nat} {g:FuncId} {cargs:List AV} {pv qv pn:Option Value} {C2 c2:List AC} {e sz:Nat} {α:Type} {enc:α→Nat→T} {l l':List α} {t:AC} {nx':Nat} (hC:kH cx.P g cargs C2 c2 e sz enc l l' nx' t)(hd:Q6 dst cx.n=true)(hp:y9 s.ob p=some (U0 pv [.own r]))(hq:y9 s.ob q=some (U0 qv C2))(hrr:y9 s.ob r=some (.row pn e false sz enc l))(hpq:Nat.beq p q=false)(hpR:Nat.beq p r=false)(hqR:Nat.beq q r=false)
  (hc2:C2.all AC.pt=true) (hc4:c2.all AC.pt=true) (ht:t.plain=true) {a:Act} {w:World} {E:Nat→EE} {S:Nat→Prop} (hI:G6 cx s.ob s.nx E S w) (hT:O7 E S w s.tm a.tmps) (hn:a.tmps.size=cx.n) (hdf:a.defers=[]) {vs:List Value} (hA:F2 (TP E p q r) S w cargs vs):
  Calls cx.P g vs.toArray w fun en w'=>∃u,en= .returned u∧Gm cx ((⟨I5 (c7 r []) s.tm,(p,some (U0 pv [.own r]))::(q,some (U0 qv c2))::(r,some (.row none e false sz enc l'))::Y6 (c7 r []) s.ob,s.nx⟩:St).sets dst (some (.c t))) (a.put dst u) w':=by
 have hpq:p≠q:=fun e=>by rw [e] at hpq;simp at hpq
 have hpR:p≠r:=fun e=>by rw [e] at hpR;simp at hpR
 have hqR:q≠r:=fun e=>by rw [e] at hqR;simp at hqR
 obtain⟨lp,hp0⟩:=hI.obs _ _ hp
 obtain⟨lq,hq0⟩:=hI.obs _ _ hq
 obtain⟨lr,rdr,hpn,hor⟩:=hI.obs _ _ hrr
 obtain⟨hpv,rdp,gp,ep,csp,hup,hFp,hhp,hdp⟩:=VV.1 hp0
 obtain⟨hqv,rdq,gq,eq,csq,huq,hFq,hhq,hdq⟩:=VV.1 hq0
 have hlive:∀j,(TP E p q r j).live→j=0∨j=1∨j=2:=fun j h=>by
  unfold TP at h
  split at h
  ·exact .inl (by assumption)
  ·split at h
   ·exact .inr (.inl (by assumption))
   ·split at h
    ·exact .inr (.inr (by assumption))
    ·exact h.elim
 have hdp':r6 (TP E p q r) S w [.own 2] csp:=⟨hdp.1,fun j c hj=>by
  match j with
  | 0=>
   cases hj
   obtain⟨u',t1,t2⟩:=hdp.2 0 _ rfl
   exact⟨u',t1,t2.1,t2.2.1,t2.2.2⟩
  | j + 1=>simp at hj⟩
 have hI0:G6 ⟨cx.P,g,0,w,S,K7 (TP E p q r)⟩ [(0,some (.pbox (E p).u [.own 2])),(1,some (.pbox (E q).u C2)),(2,some (.row none e false sz enc l))] 3 (TP E p q r) S w:=by
  refine⟨hI.slt,fun k h=> .inl h,fun j o hj=>?_,fun j j' hij hj hj'=>?_,fun j hj k hk=>?_,fun j hj=>by have:=hlive j hj;omega,xZ.refl _ _⟩
  ·rw [D9] at hj
   split at hj
   ·rename_i h0;subst h0;cases hj
    exact⟨lp,rfl,rdp,gp,ep,csp,hup,hFp,hhp,hdp'⟩
   ·rw [D9] at hj
    split at hj
    ·rename_i h0;subst h0;cases hj
     exact⟨lq,rfl,rdq,gq,eq,csq,huq,hFq,hhq,HL (fun _ h=>h) hc2 hdq⟩
    ·rw [D9] at hj
     split at hj
     ·rename_i h0;subst h0;cases hj
      exact⟨lr,rdr,fun v hv=>(by cases hv),hor⟩
     ·simp [y9] at hj
  ·intro k hk hk'
   have D:=hI.dis
   rcases hlive j hj with rfl | rfl | rfl <;> rcases hlive j' hj' with rfl | rfl | rfl
   ·exact hij rfl
   ·exact D p q hpq lp lq k hk hk'
   ·exact D p r hpR lp lr k hk hk'
   ·exact D q p (Ne.symm hpq) lq lp k hk hk'
   ·exact hij rfl
   ·exact D q r hqR lq lr k hk hk'
   ·exact D r p (Ne.symm hpR) lr lp k hk hk'
   ·exact D r q (Ne.symm hqR) lr lq k hk hk'
   ·exact hij rfl
  ·have hm:K7 (TP E p q r) k:=⟨j,hj,hk⟩
   rcases hlive j hj with rfl | rfl | rfl
   ·exact⟨(hI.fp p lp k hk).1,(hI.fp p lp k hk).2.1,.inr hm⟩
   ·exact⟨(hI.fp q lq k hk).1,(hI.fp q lq k hk).2.1,.inr hm⟩
   ·exact⟨(hI.fp r lr k hk).1,(hI.fp r lr k hk).2.1,.inr hm⟩
 refine(hC (fun j=>if j=0 then(E p).u else(E q).u) 0 w (TP E p q r) S vs hI0 hA).mono ?_
 rintro en w' ⟨u,E',S2,rfl,hI',hu⟩
 obtain⟨l0,o0⟩:=hI'.obs 0 _ rfl
 obtain⟨l1,o1⟩:=hI'.obs 1 _ rfl
 obtain⟨l2,o2⟩:=hI'.obs 2 _ rfl
 obtain⟨j1,j2⟩:=hI.join3 (pv:=pv) (qv:=qv) lp lq lr hpq hpR hqR rdp rdq hpv hqv hI' l0 l1 l2 o0 o1 o2 hc4
 refine⟨u,rfl,_,_,by rw [B7,A7];exact j1,I8 (s:=⟨I5 (c7 r []) s.tm,(p,some (U0 pv [.own r]))::(q,some (U0 qv c2))::(r,some (.row none e false sz enc l'))::Y6 (c7 r []) s.ob,s.nx⟩) hd hn (O7.cut j2 hT) (fun v' e'=>?_),by rw [P8];exact hn,by rw [put_defers];exact hdf⟩
 cases e'
 exact XS ht hu
theorem OO (p q r:Nat) {g:FuncId} {xs:Array Operand} {ats:Array TypeId} {cargs:List AV} {pv qv pn:Option Value} {C2 c2:List AC} {e sz:Nat} {α:Type} {enc:α→Nat→T} {l:List α} (l':List α) {t:AC} {nx':Nat} (hE:Go.Proofs.Enters cx.P g)(hC:kH cx.P g cargs C2 c2 e sz enc l l' nx' t)(hd:Q6 dst cx.n=true)(hp:y9 s.ob p=some (U0 pv [.own r]))(hq:y9 s.ob q=some (U0 qv C2))(hrr:y9 s.ob r=some (.row pn e false sz enc l))(hpq:Nat.beq p q=false)(hpR:Nat.beq p r=false)(hqR:Nat.beq q r=false)
  (hc2:C2.all AC.pt=true) (hc4:c2.all AC.pt=true) (ht:t.plain=true) (ha:IW s p q xs.toList cargs):
  Os cx s ⟨dst,.call {callee:=.value (.func g),args:=xs,argTypes:=ats},ty,pos,aft,none⟩ ((⟨I5 (c7 r []) s.tm,(p,some (U0 pv [.own r]))::(q,some (U0 qv c2))::(r,some (.row none e false sz enc l'))::Y6 (c7 r []) s.ob,s.nx⟩:St).sets dst (some (.c t))) false:=by
 intro Q a w hg
 obtain⟨E,S,hI,hT,hn,hdf⟩:=hg
 unfold Oper.wp
 rw [execOp_call_go,hE]
 have hargs:#[]++Array.map a.eval xs++#[]=(xs.toList.map a.eval).toArray:=by
  apply Array.ext'
  simp
 rw [hargs,Oper.upon_enter]
 refine(zI hC hd hp hq hrr hpq hpR hqR hc2 hc4 ht hI hT hn hdf (ha.den hT)).mono ?_
 rintro en w' ⟨u,rfl,hg'⟩
 exact⟨hg',fun h=>by cases h⟩
theorem nL (p q r:Nat) {t0 f:Nat} {xs:Array Operand} {ats:Array TypeId} {cargs:List AV} {pv qv pn:Option Value} {C2 c2:List AC} {e sz:Nat} {α:Type} {enc:α→Nat→T} {l:List α} (l':List α) {t:AC} {nx':Nat} (hE:Go.Proofs.Enters cx.P f)(hC:kH cx.P f (cargs++[.c (.ptr 0 0),.c (.ptr 1 0)]) C2 c2 e sz enc l l' nx' t)(hd:Q6 dst cx.n=true)(hv:s.ev (.tmp t0)=some (.c (.clo f [(p,0),(q,0)])))(hp:y9 s.ob p=some (U0 pv [.own r]))(hq:y9 s.ob q=some (U0 qv C2))(hrr:y9 s.ob r=some (.row pn e false sz enc l))(hpq:Nat.beq p q=false)(hpR:Nat.beq p r=false)(hqR:Nat.beq q r=false)
  (hc2:C2.all AC.pt=true) (hc4:c2.all AC.pt=true) (ht:t.plain=true) (ha:IW s p q xs.toList cargs):
  Os cx s ⟨dst,.call {callee:=.value (.tmp t0),args:=xs,argTypes:=ats},ty,pos,aft,none⟩ ((⟨I5 (c7 r []) s.tm,(p,some (U0 pv [.own r]))::(q,some (U0 qv c2))::(r,some (.row none e false sz enc l'))::Y6 (c7 r []) s.ob,s.nx⟩:St).sets dst (some (.c t))) false:=by
 intro Q a w hg
 obtain⟨E,S,hI,hT,hn,hdf⟩:=hg
 obtain⟨us,hu,hl,hcap⟩:=J9 hT hv
 have hrun:execOp a.eval ⟨dst,.call {callee:=.value (.tmp t0),args:=xs,argTypes:=ats},ty,pos,aft,none⟩=callFunc f (#[]++Array.map a.eval xs++us.toArray):=by
  simp [execOp,resolve,Deferred.ofValue,invoke,hu]
 unfold Oper.wp
 rw [hrun,hE]
 have hargs:#[]++Array.map a.eval xs++us.toArray=(xs.toList.map a.eval++us).toArray:=by
  apply Array.ext'
  simp
 rw [hargs,Oper.upon_enter]
 have hcd:F2 (TP E p q r) S w [.c (.ptr 0 0),.c (.ptr 1 0)] us:=⟨hl,fun j v hj=>by
  match j with
  | 0=>cases hj;exact hcap 0 (p,0) rfl
  | 1=>cases hj;exact hcap 1 (q,0) rfl
  | j + 2=>simp at hj⟩
 refine(zI hC hd hp hq hrr hpq hpR hqR hc2 hc4 ht hI hT hn hdf (yP (ha.den hT) hcd)).mono ?_
 rintro en w' ⟨u,rfl,hg'⟩
 exact⟨hg',fun h=>by cases h⟩
end rules
end Go.Eng
