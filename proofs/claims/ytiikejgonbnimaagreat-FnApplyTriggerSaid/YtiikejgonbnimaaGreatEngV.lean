import Derived.Test.YtiikejgonbnimaaGreatEngU
set_option linter.unusedVariables false
set_option linter.unusedSimpArgs false
namespace Go.Eng
open Go Go.RowKit Go.Proofs
def fM {α:Type} (enc:α→Nat→T):α × Option (Nat × Value)→Nat→T
 | (x,some (o,v)),j=>if j=o then .v v else enc x j
 | (x,none),j=>enc x j
def H1 {α:Type} (xs:List α) (e:Nat) (x:α) (o:Nat) (v:Value):List (α × Option (Nat × Value)):=(xs.map fun y=>(y,none)).set e (x,some (o,v))
section
variable {α:Type} {xs:List α} {e o:Nat} {x:α} {v:Value}
theorem C3:(H1 xs e x o v).length=xs.length:=by unfold H1;rw [List.length_set,List.length_map]
theorem qW (h:e < xs.length):(H1 xs e x o v)[e]? =some (x,some (o,v)):=by unfold H1;rw [List.getElem?_set_self (by rw [List.length_map];exact h)]
theorem PQ {b:Nat} (h:b≠e):(H1 xs e x o v)[b]? =(xs[b]?).map fun y=>(y,none):=by unfold H1;rw [List.getElem?_set_ne (Ne.symm h),List.getElem?_map]
end
section
variable {cx:Cx} {s:St} {dst:Option Nat} {ty:TypeId} {pos:String} {aft:Array Edge} {R:Ending→World→Prop} {todo:List Item}
theorem XM (k i e o:Nat) {pn:Option Value} {et sz szi:Nat} {α β:Type} {enc:α→Nat→T} {enci:β→Nat→T} {xs:List α} {x:α} {l:List β} (hk:s.nx=k)(hb:y9 s.ob i=some (.row pn et true sz enc xs))(hz:xs[e]? =some x)(ho:Nat.blt o sz=true)(he:enc x o= .sl szi enci l)
  (h:∀(e':Nat) (v:Value),Wt cx ⟨I5 (X3 i []) s.tm,(k,some (.row (some v) e' true szi enci l))::(i,some (.row pn et true sz (fM enc) (H1 xs e x o v)))::Y6 (X3 i []) s.ob,k + 1⟩ todo R):Wt cx s todo R:=by
 intro ac w hg
 obtain⟨E,S,hI,hT,hsz,hdf⟩:=hg
 subst hk
 have ho:o < sz:=by simpa using ho
 obtain⟨h1,h2,h3,h4⟩:=hI.obs _ _ hb
 simp only [if_true] at h4
 obtain⟨cells,G,q1,q2,q3,q4,q5⟩:=h4
 obtain⟨v,c1,c2⟩:=q5 e _ hz o ho
 rw [he] at c2
 have c2':Ow w (.sl szi enci l) v (G e o):=c2
 obtain⟨e',c3⟩:=c2'
 have hone:v.oneCell'=true:=Rd.one (Ow.rd _ _ c2)
 have hik:i≠s.nx:=fun e=>by have:=hI.nxt i h1;omega
 refine h e' v ac w ?_
 let X:Nat→EE:=fun j=>if j=s.nx then⟨v,G e o,True,True⟩ else if j=i then⟨(E i).u,fun g=>(E i).F g∧¬G e o g,True,True⟩ else E j
 have xk:X s.nx=⟨v,G e o,True,True⟩:=if_pos rfl
 have xi:X i=⟨(E i).u,fun g=>(E i).F g∧¬G e o g,True,True⟩:=by
  show(if i=s.nx then _ else if i=i then _ else _)=_
  rw [if_neg hik,if_pos rfl]
 have xo:∀j,j≠s.nx→j≠i→X j=E j:=fun j a1 a2=>by
  show(if j=s.nx then _ else if j=i then _ else _)=_
  rw [if_neg a1,if_neg a2]
 have hlt:∀j,(E j).live→j≠s.nx:=fun j hj e=>by have:=hI.nxt j hj;omega
 have hC:Carry E X S S w w (X3 i []):= {
  sub:=fun _ h=>h
  keep:=fun _ _=>rfl
  place:=fun b hb' j hn hl=>by
   have a1:=hlt j hl
   by_cases a2:j=i
   ·subst a2;rw [xi];exact⟨trivial,rfl⟩
   ·rw [xo j a1 a2];exact⟨hl,rfl⟩
  reads:=fun b hb' j hn hl=>by
   have a1:=hlt j hl.1
   have a2:j≠i:=fun e=>by
    subst e
    simp only [X3,List.any_nil,Bool.or_false] at hb'
    rw [hn] at hb'
    cases hb'
   rw [xo j a1 a2]
   exact⟨hl,fun _ q=>q,fun _ _=>rfl⟩}
 refine⟨X,S,⟨hI.slt,hI.snew,fun j o' hj=>?_,fun j j' hij hj hj' g hg hg'=>?_,fun j hj g hg=>?_,fun j hj=>?_,hI.kept⟩,O7.cut hC hT,hsz,hdf⟩
 ·rw [D9] at hj
  by_cases ek:j=s.nx
  ·subst ek
   rw [if_pos rfl] at hj
   cases hj
   refine⟨by rw [xk];trivial,by rw [xk];trivial,fun v' hv'=>by rw [xk];exact Option.some.inj hv',?_⟩
   rw [xk]
   exact c3
  ·rw [if_neg ek,D9] at hj
   by_cases ei:j=i
   ·subst ei
    rw [if_pos rfl] at hj
    cases hj
    refine⟨by rw [xi];trivial,by rw [xi];trivial,fun v' hv'=>by rw [xi];exact h3 v' hv',?_⟩
    rw [xi]
    simp only [if_true]
    refine⟨cells,fun b c g=>if b=e∧c=o then False else G b c g,by rw [C3];exact q1,fun g hg=>⟨q2 g hg,fun hg'=>(q3 e o g hg').2 hg⟩,fun b c g hg=>?_,fun b c b' c' g hg hg'=>?_,fun b y hy c hc=>?_⟩
    ·dsimp only at hg
     split at hg
     ·exact hg.elim
     ·rename_i hne
      obtain⟨r1,r2⟩:=q3 b c g hg
      exact⟨⟨r1,fun hg'=>hne (q4 b c e o g hg hg')⟩,r2⟩
    ·dsimp only at hg hg'
     split at hg
     ·exact hg.elim
     ·split at hg'
      ·exact hg'.elim
      ·exact q4 b c b' c' g hg hg'
    ·by_cases eb:b=e
     ·subst eb
      rw [qW (List.getElem?_eq_some_iff.1 hz).1] at hy
      cases hy
      by_cases ec:c=o
      ·subst ec
       refine⟨v,c1,?_⟩
       show Ow w (if c=c then .v v else enc x c) v _
       rw [if_pos rfl]
       exact⟨rfl,hone⟩
      ·obtain⟨u',r1,r2⟩:=q5 b x hz c hc
       refine⟨u',r1,?_⟩
       show Ow w (if c=o then .v v else enc x c) u' _
       rw [if_neg ec]
       exact Ow.move _ _ (fun g hg=>by dsimp only;rw [if_neg (fun q=>ec q.2)];exact hg) (fun _ _=>rfl) r2
     ·rw [PQ eb] at hy
      obtain⟨y0,hy0,rfl⟩:=Option.map_eq_some_iff.mp hy
      obtain⟨u',r1,r2⟩:=q5 b y0 hy0 c hc
      exact⟨u',r1,Ow.move _ _ (fun g hg=>by dsimp only;rw [if_neg (fun q=>eb q.1)];exact hg) (fun _ _=>rfl) r2⟩
   ·rw [if_neg ei,Z4] at hj
    obtain⟨o0,h0,rfl⟩:=Option.map_eq_some_iff.mp hj
    obtain⟨r1,r2⟩:=hI.obs j o0 h0
    refine⟨by rw [xo j ek ei];exact r1,?_⟩
    exact x6.carry hC (i:=j) (by rw [xo j ek ei]) (fun g=>by rw [xo j ek ei]) (by rw [xo j ek ei]) (fun _ _=>rfl) r2
 ·by_cases a1:j=s.nx
  ·subst a1
   rw [xk] at hg
   by_cases b2:j'=i
   ·subst b2
    rw [xi] at hg'
    exact hg'.2 hg
   ·have b1:j'≠s.nx:=fun e=>hij e.symm
    rw [xo j' b1 b2] at hg' hj'
    exact hI.dis i j' (Ne.symm b2) h1 hj' g (q3 e o g hg).1 hg'
  ·by_cases a2:j=i
   ·subst a2
    rw [xi] at hg
    by_cases b1:j'=s.nx
    ·subst b1
     rw [xk] at hg'
     exact hg.2 hg'
    ·rw [xo j' b1 (Ne.symm hij)] at hg' hj'
     exact hI.dis _ j' hij h1 hj' g hg.1 hg'
   ·rw [xo j a1 a2] at hg hj
    by_cases b1:j'=s.nx
    ·subst b1
     rw [xk] at hg'
     exact hI.dis i j (Ne.symm a2) h1 hj g (q3 e o g hg').1 hg
    ·by_cases b2:j'=i
     ·subst b2
      rw [xi] at hg'
      exact hI.dis j _ hij hj h1 g hg hg'.1
     ·rw [xo j' b1 b2] at hg' hj'
      exact hI.dis j j' hij hj hj' g hg hg'
 ·by_cases a1:j=s.nx
  ·subst a1
   rw [xk] at hg
   exact hI.fp i h1 g (q3 e o g hg).1
  ·by_cases a2:j=i
   ·subst a2
    rw [xi] at hg
    exact hI.fp _ h1 g hg.1
   ·rw [xo j a1 a2] at hg hj
    exact hI.fp j hj g hg
 ·by_cases a1:j=s.nx
  ·show j < s.nx + 1;omega
  ·have:(E j).live:=by
    by_cases a2:j=i
    ·subst a2;exact h1
    ·rw [xo j a1 a2] at hj;exact hj
   have:=hI.nxt j this
   show j < s.nx + 1
   omega
theorem J3 {t:TypeId} {x:Operand} {i e o k sz e0 e1 sz1:Nat} {pn:Option Value} {v:Value} {α β:Type} {enc:α→Nat→T} {enc1:β→Nat→T} {xs:List α} {y:α} {l:List β} (ha:d5 cx.P t=some false)(hx:s.ev x=some (.c (.poe i e sz o)))(ho:Nat.blt o sz=true)(hb:y9 s.ob i=some (.row pn e0 true sz (fM enc) (H1 xs e y o v)))(hy:e < xs.length)(hk:y9 s.ob k=some (.row (some v) e1 true sz1 enc1 l)):
  Ps cx s (.load t x) (.c (.own k)):=
 fun A w E S hI hT=>by
  have ho:o < sz:=by simpa using ho
  obtain⟨hlv,g,n,cap,h1,h2⟩:=J9 hT hx
  obtain⟨hl,hb⟩:=hI.obs _ _ hb
  obtain⟨A',cap',h3,_,_,h5⟩:=s0 hl hb
  obtain⟨hlk,_,hpk,_⟩:=hI.obs _ _ hk
  rw [h1] at h3
  cases h3
  obtain⟨u,h6,h7⟩:=h5 g rfl e _ (qW hy) o ho
  have h8:u=v∧v.oneCell'=true:=by
   have h9:fM enc (y,some (o,v)) o= .v v:=by
    show(if o=o then .v v else enc y o)=_
    rw [if_pos rfl]
   rw [h9] at h7
   exact h7.2
  refine⟨u,fun w' hW _ _ _ _ _=>?_,hlk,by rw [h8.1,hpk v rfl],by rw [h8.1];exact h8.2⟩
  simp only [execOp,h2]
  rw [Sem.run_bind,W1 ha (hW.cell h6)]
  rfl
theorem uW {t:TypeId} {x:Operand} {i e o k sz e0 e1 sz1:Nat} {pn:Option Value} {v:Value} {α β:Type} {enc:α→Nat→T} {enc1:β→Nat→T} {xs:List α} {y:α} {l:List β} (hd:Q6 dst cx.n=true)(ha:d5 cx.P t=some false)(hx:s.ev x=some (.c (.poe i e sz o)))(ho:Nat.blt o sz=true)(hb:y9 s.ob i=some (.row pn e0 true sz (fM enc) (H1 xs e y o v)))(hy:e < xs.length)(hk:y9 s.ob k=some (.row (some v) e1 true sz1 enc1 l)):
  Os cx s ⟨dst,.load t x,ty,pos,aft,none⟩ (s.sets dst (some (.c (.own k)))) true:=C8 hd (J3 ha hx ho hb hy hk)
theorem P5 (k i e o:Nat) {pn:Option Value} {et e' sz szi:Nat} {α β:Type} {enc:α→Nat→T} {enci:β→Nat→T} {xs:List α} {x:α} {v:Value} {l:List β} (x':α)(hik:Nat.beq i k=false)(hb:y9 s.ob i=some (.row pn et true sz (fM enc) (H1 xs e x o v)))(hk:y9 s.ob k=some (.row (some v) e' true szi enci l))(he:e < xs.length)(ho:Nat.blt o sz=true)(hx:∀j,j < sz→enc x' j=if j=o then .sl szi enci l else enc x j)
  (h:Wt cx ⟨I5 (X3 i [k]) s.tm,(i,some (.row pn et true sz enc (xs.set e x')))::T4 [k] (Y6 (X3 i [k]) s.ob),s.nx⟩ todo R):Wt cx s todo R:=by
 intro ac w hg
 refine h ac w ?_
 obtain⟨E,S,hI,hT,hsz,hdf⟩:=hg
 have ho:o < sz:=by simpa using ho
 have hik:i≠k:=fun e=>by rw [e] at hik;simp at hik
 obtain⟨h1,h2,h3,h4⟩:=hI.obs _ _ hb
 obtain⟨k1,k2,k3,k4⟩:=hI.obs _ _ hk
 simp only [if_true] at h4 k4
 obtain⟨cells,G,q1,q2,q3,q4,q5⟩:=h4
 have kv:=k3 v rfl
 obtain⟨u0,c1,c2⟩:=q5 e _ (qW he) o ho
 have c2:u0=v:=by
  have h9:=c2
  unfold fM at h9
  simp only [if_true] at h9
  exact h9.1
 subst c2
 let x0:EE:=⟨(E i).u,fun g=>(E i).F g∨(E k).F g,True,True⟩
 have hobj:x6 (o6 E i [k] x0) S w i (.row pn et true sz enc (xs.set e x')):=by
  refine⟨by rw [Q9];trivial,fun v' hv'=>by rw [Q9];exact h3 v' hv',?_⟩
  rw [Q9]
  simp only [if_true]
  have hne:∀g,(E k).F g→(E i).u.ownBlock≠some g:=fun g hg hb'=>hI.dis i k hik h1 k1 g (q2 g hb') hg
  refine⟨cells,fun b c g=>if b=e∧c=o then(E k).F g else G b c g,by rw [List.length_set,← C3 (xs:=xs) (e:=e) (x:=x) (o:=o) (v:=u0)];exact q1,fun g hg=> .inl (q2 g hg),fun b c g hg=>?_,fun b c b' c' g hg hg'=>?_,fun b y hy c hc=>?_⟩
  ·dsimp only at hg
   split at hg
   ·exact⟨.inr hg,hne g hg⟩
   ·exact⟨.inl (q3 b c g hg).1,(q3 b c g hg).2⟩
  ·dsimp only at hg hg'
   split at hg
   ·rename_i a1
    split at hg'
    ·rename_i a2
     exact⟨a1.1.trans a2.1.symm,a1.2.trans a2.2.symm⟩
    ·exact(hI.dis i k hik h1 k1 g (q3 b' c' g hg').1 hg).elim
   ·split at hg'
    ·exact(hI.dis i k hik h1 k1 g (q3 b c g hg).1 hg').elim
    ·exact q4 b c b' c' g hg hg'
  ·by_cases eb:b=e
   ·subst eb
    rw [List.getElem?_set_self he] at hy
    cases hy
    obtain⟨u',r1,r2⟩:=q5 b _ (qW he) c hc
    rw [hx c hc]
    by_cases ec:c=o
    ·subst ec
     rw [if_pos rfl]
     rw [c1] at r1
     cases r1
     refine⟨u0,c1,?_⟩
     have k4':AP w e' szi enci l u0 (E k).F:=by rw [← kv];exact k4
     exact Ow.move (F:=(E k).F) _ _ (fun g hg=>by dsimp only;rw [if_pos (⟨rfl,rfl⟩:b=b∧c=c)];exact hg) (fun _ _=>rfl) (MI.2 ⟨e',k4'⟩)
    ·rw [if_neg ec]
     refine⟨u',r1,?_⟩
     have r2':Ow w (if c=o then .v u0 else enc x c) u' (G b c):=r2
     rw [if_neg ec] at r2'
     exact Ow.move _ _ (fun g hg=>by dsimp only;rw [if_neg (fun q=>ec q.2)];exact hg) (fun _ _=>rfl) r2'
   ·rw [List.getElem?_set_ne (Ne.symm eb)] at hy
    obtain⟨u',r1,r2⟩:=q5 b (y,none) (by rw [PQ eb,hy];rfl) c hc
    exact⟨u',r1,Ow.move _ _ (fun g hg=>by dsimp only;rw [if_neg (fun q=>eb q.1)];exact hg) (fun _ _=>rfl) r2⟩
 have hW:=hI.write (w':=w) (i:=i) (is:=[k]) (x:=x0) (X3 i [k]) h1 (fun q hq=>by simp at hq;subst hq;exact k1) trivial (fun a' ha=>by
   simp only [X3,Bool.or_eq_false_iff] at ha
   refine⟨fun q hq=>?_,fun _=>rfl,fun hr _=>absurd hr (by rw [ha.1];exact Bool.false_ne_true)⟩
   have:=List.any_eq_false.1 ha.2 q hq
   simpa using this)
  (fun g hg=>by
   rcases hg with hg | hg
   ·exact .inl hg
   ·exact .inr (.inl ⟨k,by simp,hg⟩))
  (Nat.le_refl _) rfl rfl rfl (fun _ _ _=>rfl) hobj
 exact⟨_,S,hW.1,O7.cut hW.2 hT,hsz,hdf⟩
end
end Go.Eng
