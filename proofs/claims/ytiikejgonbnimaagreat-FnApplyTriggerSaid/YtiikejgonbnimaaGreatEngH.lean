import Derived.Test.YtiikejgonbnimaaGreatEngG
set_option linter.unusedVariables false
set_option linter.unusedSimpArgs false
namespace Go.Eng
open Go Go.RowKit
section
variable {cx:Cx} {ob:List (Nat × Option Ob)} {nx:Nat} {E:Nat→EE} {S:Nat→Prop} {w w':World}
theorem G6.unpinb (hI:G6 cx ob nx E S w) {i:Nat} {v:Value} {cells:List AC} (hb:y9 ob i=some (.pbox v cells)):G6 cx ((i,some (.box cells))::ob) nx E S w:=
 ⟨hI.slt,hI.snew,fun j o hj=>by
  rw [D9] at hj
  split at hj
  ·rename_i e
   subst e
   cases hj
   obtain⟨h1,h2⟩:=hI.obs _ _ hb
   exact⟨h1,h2.2⟩
  ·exact hI.obs j o hj,hI.dis,hI.fp,hI.nxt,hI.kept⟩
end
inductive yQ (s:St):List Operand→List AV→Prop
 | nil:yQ s [] []
 | cons {x:Operand} {y:T} {xs:List Operand} {bs:List AV} (hx:s.ev x=some (.c (.t none y))) (hr:yQ s xs bs):yQ s (x::xs) (.c (.t none y)::bs)
inductive aT (s:St) (i:Nat):List (Nat × Nat)→List AV→Prop
 | nil:aT s i [] []
 | box {ps:List (Nat × Nat)} {bs:List AV} (hr:aT s i ps bs):aT s i ((i,0)::ps) (.c (.ptr 0 0)::bs)
 | pel {k:Nat} {c:Nat→T} {cells:List AC} {ps:List (Nat × Nat)} {bs:List AV} (hk:Nat.beq k i=false) (hb:y9 s.ob k=some (.box cells)) (hc:cells[0]? =some (.t none (c 0))) (hr:aT s i ps bs):aT s i ((k,0)::ps) (.c (.pel none c 1)::bs)
section rules
variable {cx:Cx} {s:St} {dst:Option Nat} {ty:TypeId} {pos:String} {aft:Array Edge}
theorem vT {i:Nat} {v:Value} {cells:List AC} {op:Go.Op} {val:AV} (hb:y9 s.ob i=some (.pbox v cells))(h:Ps cx ⟨s.tm,(i,some (.box cells))::s.ob,s.nx⟩ op val):Ps cx s op val:=
 fun a w E S hI hT=>h a w E S (hI.unpinb hb) hT
theorem aQ {i:Nat} {v:Value} {cells:List AC} {op:Go.Op} {val:AV} (hd:Q6 dst cx.n=true)(hb:y9 s.ob i=some (.pbox v cells))(h:Ps cx ⟨s.tm,(i,some (.box cells))::s.ob,s.nx⟩ op val):Os cx s ⟨dst,op,ty,pos,aft,none⟩ (s.sets dst (some val)) true:=C8 hd (vT hb h)
theorem EU {t:TypeId} {x y:Operand} {i o n:Nat} {pv:Value} {cells us:List AC} {v:AV} (hs:D0 cx.P t=some n)(hx:s.ev x=some (.c (.ptr i o)))(hb:y9 s.ob i=some (.pbox pv cells))(hy:s.ev y=some v)(hv:v.cells=some us)(hn:Nat.beq us.length n=true)(hle:Nat.ble (o + us.length) cells.length=true):
  Os cx s ⟨none,.store t x y,ty,pos,aft,none⟩ ⟨s.tm,(i,some (.pbox pv (O6 cells o us)))::s.ob,s.nx⟩ false:=by
 refine Z3 fun a w hg=>?_
 obtain⟨E,S,hI,hT,hsz,hdf⟩:=hg
 have hn:us.length=n:=Nat.eq_of_beq_eq_true hn
 have hle:o + us.length≤cells.length:=by simpa using hle
 obtain⟨hlv,g,h1,h2⟩:=J9 hT hx
 obtain⟨_,hpv,hrd,g',e,cs,h3,hF,h4,h5⟩:=hI.obs _ _ hb
 rw [h3] at h1
 cases h1
 have hd:=pZ hv (J9 hT hy)
 have l1:=hd.1
 rw [Array.length_toList] at l1
 have hr:=KY (P:=cx.P) (t:=t) (o:=o) (u:=a.eval y) (by rw [hs,l1,hn]) h4 (by have:=h5.1;omega) hd.ones
 have hgF:(E i).F g:=(hF g).2 rfl
 have hc:Carry E E S S w (w.setRow g (O6 cs o (a.eval y).cells.toList).toArray) no:=kS hI hlv hgF _ (fun _ _ _=>hrd)
 refine⟨.skip,_,?_,.inr ⟨rfl,E,S,?_,O7.carry hc hT,hsz,hdf⟩,fun h=>by(cases h)⟩
 ·simp only [execOp,h2]
  rw [Sem.run_bind,hr]
  rfl
 ·refine⟨fun q hq=>by simpa using hI.slt q hq,hI.snew,fun j o' hj=>?_,hI.dis,fun j hj q hq=>by simpa using hI.fp j hj q hq,hI.nxt,hI.kept.setRow (hI.fp i hlv g hgF).2.2 _⟩
  rw [D9] at hj
  by_cases e':j=i
  ·subst e'
   rw [if_pos rfl] at hj
   cases hj
   exact⟨hlv,hpv,hrd,g,e,_,h3,hF,setRow_heap w g _ _ e _ h4,r6.carry hc (XU hle h5 hd)⟩
  ·rw [if_neg e'] at hj
   obtain⟨q1,q2⟩:=hI.obs j o' hj
   refine⟨q1,?_⟩
   have:=x6.carry hc (i:=j) rfl (fun _=>Iff.rfl) Iff.rfl (fun q hq=>setRow_other w g q _ (by rintro rfl;exact hI.dis j i e' q1 hlv q hq hgF)) q2
   rwa [Ob.cut_none] at this
theorem yQ.den {xs:List Operand} {bs:List AV} {a:Act} {E E':Nat→EE} {S S':Nat→Prop} {w:World} (h:yQ s xs bs)(hS:∀k,S k→S' k)(hT:O7 E S w s.tm a.tmps):F2 E' S' w bs (xs.map a.eval):=by
 induction h with
 | nil=>exact⟨rfl,fun j v hj=>by simp at hj⟩
 | cons hx hr ih=>
  refine⟨by simp [ih.1],fun j v hj=>?_⟩
  match j with
  | 0=>cases hj;exact⟨_,rfl,trivial,Rd.move hS (fun _ _=>rfl) _ _ (J9 hT hx).2⟩
  | j + 1=>exact ih.2 j v hj
theorem aT.den {i:Nat} {ps:List (Nat × Nat)} {bs:List AV} {E E':Nat→EE} {S S':Nat→Prop} {w:World} (h:aT s i ps bs)(hI:G6 cx s.ob s.nx E S w)(hS:∀k,S k→S' k)(hB:∀k cells,y9 s.ob k=some (.box cells)→k≠i→∀g,(E k).F g→S' g)(h0:E' 0=E i) {us:List Value} (hu:us.length=ps.length)
  (hd:∀(j:Nat) (p:Nat × Nat),ps[j]? =some p→∃u',us[j]? =some u'∧NV E p.1 p.2 u'):F2 E' S' w bs us:=by
 induction h generalizing us with
 | nil=>
  cases us with
  | nil=>exact⟨rfl,fun j v hj=>by simp at hj⟩
  | cons u us=>simp at hu
 | box hr ih=>
  cases us with
  | nil=>simp at hu
  | cons u us=>
   obtain⟨q1,q2⟩:=ih (us:=us) (by simpa using hu) (fun j p hj=>hd (j + 1) p hj)
   refine⟨by simp [q1],fun j v hj=>?_⟩
   match j with
   | 0=>
    cases hj
    obtain⟨u',e1,e2⟩:=hd 0 _ rfl
    cases e1
    refine⟨u,rfl,?_⟩
    show NV E' 0 0 u
    unfold NV
    rw [h0]
    exact e2
   | j + 1=>exact q2 j v hj
 | @pel k c cells ps bs hk hb hc hr ih=>
  cases us with
  | nil=>simp at hu
  | cons u us=>
   obtain⟨q1,q2⟩:=ih (us:=us) (by simpa using hu) (fun j p hj=>hd (j + 1) p hj)
   refine⟨by simp [q1],fun j v hj=>?_⟩
   match j with
   | 0=>
    cases hj
    obtain⟨u',e1,hlk,g,e2,e3⟩:=hd 0 _ rfl
    cases e1
    obtain⟨_,_,g',e,cs,r1,r2,r3,r4⟩:=hI.obs _ _ hb
    rw [e2] at r1
    cases r1
    have hki:k≠i:=fun e=>by rw [e] at hk;simp at hk
    refine⟨u,rfl,trivial,⟨g,0,none⟩,e3,hB _ _ hb hki g ((r2 g).2 rfl),fun q hq=>?_⟩
    obtain rfl:q=0:=by omega
    obtain⟨u'',t1,t2⟩:=r4.2 0 _ hc
    refine⟨u'',?_,Rd.move hS (fun _ _=>rfl) _ _ t2.2⟩
    have:(⟨g,0,none⟩:Addr).add 0=⟨g,0,none⟩:=by unfold Addr.add;split <;> simp_all
    rw [this]
    unfold World.cell?
    simp [r3,t1]
   | j + 1=>exact q2 j v hj
end rules
end Go.Eng
