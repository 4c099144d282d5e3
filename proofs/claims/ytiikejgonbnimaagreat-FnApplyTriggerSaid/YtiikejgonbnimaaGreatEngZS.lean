import Derived.Test.YtiikejgonbnimaaGreatEngZR
import Derived.Maps.Own
import Derived.Maps.OwnSet
import Derived.Shelf.SlMaps.Clone
import Derived.Shelf.SlIterI.Sorted
import Derived.Deep.Onto
set_option linter.unusedVariables false
set_option linter.unusedSimpArgs false
namespace Go.Eng
open Go Go.RowKit
def aP (b:F3):DataW Unit:=b.foldr (fun p D=>D.put (.int .i64 p.1) (.lit (.int .i64 p.2))) (.map [])
theorem tV:∀b:F3,Go.Maps.IsMap (aP b)
 | []=>⟨[],rfl⟩
 | p::b=>(tV b).put _ _
theorem uO (p:Int × Int)(b:F3)(k:Int):MX (p::b) k=if p.1=k then some p.2 else MX b k:=by
 unfold MX
 rw [List.find?_cons]
 by_cases h:p.1=k
 ·rw [if_pos h,decide_eq_true h];rfl
 ·rw [if_neg h,decide_eq_false h]
theorem ZM {a b:Int} (h:a≠b):(Lit.int .i64 a)≠(Lit.int .i64 b):=fun e=>h (by cases e;rfl)
theorem TM (k:Int):∀b:F3,(aP b).atKey (.int .i64 k) (.lit (.int .i64 0))= .lit (.int .i64 ((MX b k).getD 0))
 | []=>rfl
 | p::b=>by
  rw [uO]
  show((aP b).put (.int .i64 p.1) (.lit (.int .i64 p.2))).atKey (.int .i64 k) _=_
  by_cases h:p.1=k
  ·rw [if_pos h,h,Go.Maps.atKey_put_same (tV b) (show WideAt.IsKeyLit (.int .i64 k) from trivial)];rfl
  ·rw [if_neg h,Go.Maps.atKey_put_other (ZM (Ne.symm h)),TM k b]
theorem DO (k:Int):∀b:F3,Go.Maps.has (aP b) (.int .i64 k)=(MX b k).isSome
 | []=>rfl
 | p::b=>by
  rw [uO]
  show Go.Maps.has ((aP b).put (.int .i64 p.1) (.lit (.int .i64 p.2))) (.int .i64 k)=_
  by_cases h:p.1=k
  ·rw [if_pos h,h,Go.Maps.has_put_same (tV b) (show WideAt.IsKeyLit (.int .i64 k) from trivial)];rfl
  ·rw [if_neg h,Go.Maps.has_put_other (ZM (Ne.symm h)),DO k b]
theorem rR {x:Int} (h:s7 x):(Lit.int .i64 x).wf=true:=by
 unfold s7 at h
 simp [Lit.wf,IntKind.min,IntKind.max,IntKind.bits,IntKind.signed]
 omega
def AG (P:Program) (k e:TypeId):Option F3→Value→List (Nat × Obj)→Prop
 | none,u,_=>u= .map none
 | some b,u,l=>∃g o,u= .map (some g)∧l=[(g,o)]∧∀w:World,w.heap[g]? =some o→w.ownsMap P k (plainElem (H:=Unit) P e) g b.length (aP b)
def XX (P:Program) (k e:TypeId) (b:Option F3):T:=.ab (AG P k e b)
theorem tR {P:Program} {k e:TypeId} {b:F3} {w:World} {g:Nat} (h:w.ownsMap P k (plainElem (H:=Unit) P e) g b.length (aP b)):∃o,w.heap[g]? =some o∧AG P k e (some b) (.map (some g)) [(g,o)]:=by
 obtain⟨es,clock,hb,F,hs,hD⟩:=h
 exact⟨_,hb,g,_,rfl,rfl,fun w hw=>⟨es,clock,hw,F,hs,hD⟩⟩
section rules
variable {cx:Cx} {s:St} {k:List Item} {R:Ending→World→Prop} {dst:Option Nat} {ty:TypeId} {pos:String} {aft:Array Edge}
structure RP (P:Program) (t k e:TypeId):Prop where
 key:P.underlying k=some (.int .i64)
 elem:P.underlying e=some (.int .i64)
 map:P.underlying t=some (.map k e)
 zero:(P.info? e).bind (·.zero)=some (.int .i64 0)
theorem NR {P:Program} {e:TypeId} (h:(P.info? e).bind (·.zero)=some (.int .i64 0))(w:World):(zeroValue e).run P w= .ok (.int .i64 0) w:=by
 obtain⟨i,h2,h3⟩:=Option.bind_eq_some_iff.mp h
 simp [zeroValue,typeInfo,h2,h3]
theorem nQ {P:Program} {t kt e:TypeId} (hM:RP P t kt e) {b:F3} {g:Nat} {w:World} (hown:w.ownsMap P kt (plainElem (H:=Unit) P e) g b.length (aP b)) {n:Int} (hn:s7 n):
  (Instr.lookup t (.map (some g)) (.int .i64 n) true).run P w= .ok (.tuple #[.int .i64 ((MX b n).getD 0),.bool (MX b n).isSome]) w∧(Instr.lookup t (.map (some g)) (.int .i64 n) false).run P w= .ok (.int .i64 ((MX b n).getD 0)) w:=by
 have h0:plainElem (H:=Unit) P e (.int .i64 0)=some (.lit (.int .i64 0),[]):=plainElem_int hM.elem (by decide)
 have hk:=Go.Maps.keyOf_int_mk hM.key (rR hn)
 obtain⟨v,ps,h1,h2⟩:=hown.look_ok (Go.Maps.int_keyed hM.key) hM.map (NR hM.zero w) h0 hk
 obtain⟨v',ps',h3,h4⟩:=hown.lookup (Go.Maps.int_keyed hM.key) hM.map (NR hM.zero w) h0 hk
 rw [TM] at h2 h4
 rw [DO] at h1
 obtain⟨c,rfl,e1,_⟩:=plainElem_int_inv hM.elem h2
 obtain⟨c',rfl,e2,_⟩:=plainElem_int_inv hM.elem h4
 simp only [Prod.mk.injEq,DataW.lit.injEq,Lit.int.injEq,true_and] at e1 e2
 obtain⟨rfl,_⟩:=e1
 obtain⟨rfl,_⟩:=e2
 exact⟨h1,h3⟩
theorem JK {t kt e:TypeId} {x y:Operand} {i:Nat} {b:F3} {n:Int} (hM:RP cx.P t kt e)(hx:s.ev x=some (.c (.own i)))(hb:y9 s.ob i=some (.bag (XX cx.P kt e (some b))))(hy:s.ev y=some (sc (.int .i64 n)))(hn:s7 n):
  Ps cx s (.lookup t x y true) (.tup [(false,[.t none (.v (.int .i64 ((MX b n).getD 0)))]),(false,[.t none (.v (.bool (MX b n).isSome))])]):=fun a w E S hI hT=>by
 obtain⟨_,h1,_⟩:=J9 hT hx
 have h2:=Z8 (J9 hT hy)
 obtain⟨hl,hrd,h0,l,⟨g,o,hu,rfl,ho⟩,hp⟩:=hI.obs _ _ hb
 have hg:=hp _ (List.mem_singleton.2 rfl)
 refine⟨.tuple #[.int .i64 ((MX b n).getD 0),.bool (MX b n).isSome],fun w' hW _ _ _ _ _=>?_,_,rfl,rfl,fun j bb cs hj=>?_⟩
 ·simp only [execOp,h2]
  rw [h1,hu,Sem.run_bind,(nQ hM (ho w' ((hW.block g (hI.fp i hl g hg.1).1).trans hg.2)) hn).1]
  rfl
 ·match j with
  | 0=>cases hj;exact⟨_,rfl,rfl,fun q c hq=>by match q with | 0=>cases hq;exact⟨_,rfl,trivial,rfl,rfl⟩ | q + 1=>simp at hq⟩
  | 1=>cases hj;exact⟨_,rfl,rfl,fun q c hq=>by match q with | 0=>cases hq;exact⟨_,rfl,trivial,rfl,rfl⟩ | q + 1=>simp at hq⟩
  | j + 2=>simp at hj
theorem AL {t kt e:TypeId} {x y:Operand} {i:Nat} {b:F3} {n:Int} (hd:Q6 dst cx.n=true)(hM:RP cx.P t kt e)(hx:s.ev x=some (.c (.own i)))(hb:y9 s.ob i=some (.bag (XX cx.P kt e (some b))))(hy:s.ev y=some (sc (.int .i64 n)))(hn:s7 n):
  Os cx s ⟨dst,.lookup t x y true,ty,pos,aft,none⟩ (s.sets dst (some (.tup [(false,[.t none (.v (.int .i64 ((MX b n).getD 0)))]),(false,[.t none (.v (.bool (MX b n).isSome))])]))) true:=C8 hd (JK hM hx hb hy hn)
theorem wH {t kt e:TypeId} {x y:Operand} {b:F3} {n:Int} (hM:RP cx.P t kt e)(hx:s.ev x=some (.c (.t none (XX cx.P kt e (some b)))))(hy:s.ev y=some (sc (.int .i64 n)))(hn:s7 n):
  Ps cx s (.lookup t x y false) (sc (.int .i64 ((MX b n).getD 0))):=fun a w E S hI hT=>by
 obtain⟨_,h0,l,⟨g,o,hu,rfl,ho⟩,hp⟩:=J9 hT hx
 have h2:=Z8 (J9 hT hy)
 have hg:=hp _ (List.mem_singleton.2 rfl)
 refine⟨.int .i64 ((MX b n).getD 0),fun w' hW _ _ _ _ _=>?_,D2 rfl⟩
 simp only [execOp,h2]
 rw [hu,Sem.run_bind,(nQ hM (ho w' ((hW.block g (hI.slt g hg.1)).trans hg.2)) hn).2]
 rfl
theorem nH {t kt e:TypeId} {x y:Operand} {b:F3} {n:Int} (hd:Q6 dst cx.n=true)(hM:RP cx.P t kt e)(hx:s.ev x=some (.c (.t none (XX cx.P kt e (some b)))))(hy:s.ev y=some (sc (.int .i64 n)))(hn:s7 n):
  Os cx s ⟨dst,.lookup t x y false,ty,pos,aft,none⟩ (s.sets dst (some (sc (.int .i64 ((MX b n).getD 0))))) true:=C8 hd (wH hM hx hy hn)
theorem FN (i:Nat) {t kt e:TypeId} (hi:s.nx=i)(hd:Q6 dst cx.n=true)(hM:RP cx.P t kt e):
  Os cx s ⟨dst,.makeMap t none,ty,pos,aft,none⟩ ((s.obj i (.bag (XX cx.P kt e (some [])))).sets dst (some (.c (.own i)))) true:=by
 subst hi
 refine Z3 fun a w hg=>?_
 obtain⟨E,S,hI,hT,hn,hdf⟩:=hg
 refine⟨.value (.map (some w.heap.size)),w.alloc (.map #[] 0),by simp [execOp,run_makeMap],.inl ⟨_,rfl,?_⟩,fun _=>aX.alloc _ _⟩
 obtain⟨o,ho,hq⟩:=tR (k:=kt) (e:=e) (b:=[]) (World.ownsMap_made w cx.P kt _)
 refine⟨c5 E s.nx ⟨.map (some w.heap.size),(· =w.heap.size),True,True⟩,S,?_,I8 (s:=s.obj s.nx (.bag (XX cx.P kt e (some [])))) hd hn (O7.carry (Q2 hI _ _) hT) (fun v' h=>?_),by rw [P8];exact hn,by rw [put_defers];exact hdf⟩
 ·rw [B7,A7]
  refine hI.new (.map #[] 0) (u:=.map (some w.heap.size)) (rd:=True) (n:=.bag (XX cx.P kt e (some []))) ?_
  show(c5 E s.nx _ s.nx).rd∧_
  rw [W8]
  refine⟨trivial,rfl,_,hq,fun p hp=>?_⟩
  obtain rfl:=List.mem_singleton.1 hp
  exact⟨rfl,ho⟩
 ·cases h
  exact⟨by rw [W8];trivial,by rw [W8],rfl⟩
theorem sQ {t kt e:TypeId} {m x y:Operand} {i:Nat} {b:F3} {n v:Int} (hM:RP cx.P t kt e)(hx:s.ev m=some (.c (.own i)))(hb:y9 s.ob i=some (.bag (XX cx.P kt e (some b))))(hk:s.ev x=some (sc (.int .i64 n)))(hy:s.ev y=some (sc (.int .i64 v)))(hn:s7 n)(hv:s7 v)(hl:b.length < 4611686018427387904):
  Os cx s ⟨none,.mapUpdate t m x y,ty,pos,aft,none⟩ ⟨I5 (X3 i []) s.tm,(i,some (.bag (XX cx.P kt e (some ((n,v)::b)))))::Y6 (X3 i []) s.ob,s.nx⟩ false:=by
 refine Z3 fun a w hg=>?_
 obtain⟨E,S,hI,hT,hsz,hdf⟩:=hg
 obtain⟨_,h1,_⟩:=J9 hT hx
 have h2:=Z8 (J9 hT hk)
 have h3:=Z8 (J9 hT hy)
 obtain⟨hli,hrd,h0,l,⟨g,o,hu,rfl,ho⟩,hp⟩:=hI.obs _ _ hb
 have hg:=hp _ (List.mem_singleton.2 rfl)
 obtain⟨w',hrun,hown,hgr⟩:=(ho w hg.2).update (Go.Maps.int_keyed hM.key) hM.map (by simp [maxLen];omega) (Go.Maps.keyOf_int_mk hM.key (rR hn)) (plainElem_int hM.elem (rR hv))
 obtain⟨o',ho',hq'⟩:=tR (b:=(n,v)::b) hown
 have hw:∀q,q < w.heap.size→¬(E i).F q→w'.heap[q]? =w.heap[q]? :=fun q hq hf=>hgr.block q hq fun e=>hf (by cases e;exact hg.1)
 obtain⟨j1,j2⟩:=hI.write (i:=i) (is:=[]) (x:=E i) (o:=.bag (XX cx.P kt e (some ((n,v)::b)))) (w':=w') (X3 i []) hli (fun q hq=>by cases hq) hli
  (fun c hc=>⟨fun q hq=>by(cases hq),fun _=>rfl,fun hr _=>by simp [X3,hr] at hc⟩) (fun k hk=> .inl hk) hgr.size hgr.os hgr.tape hgr.output hw
  (by
   show(o6 E i [] (E i) i).rd∧Rd w' (o6 E i [] (E i) i).F _ (o6 E i [] (E i) i).u
   rw [Q9]
   refine⟨hrd,h0,[(g,o')],(by rw [hu];exact hq'),fun p hp=>?_⟩
   obtain rfl:=List.mem_singleton.1 hp
   exact⟨hg.1,ho'⟩)
 refine⟨.skip,w',?_,.inr ⟨rfl,_,_,j1,?_,by rw [P8];exact hsz,by rw [put_defers];exact hdf⟩,fun h=>by cases h⟩
 ·simp only [execOp,h2,h3]
  rw [h1,hu,Sem.run_bind,hrun]
  rfl
 ·exact O7.cut j2 hT
theorem HO {i:Nat} {x:T} {w:World} (hb:y9 s.ob i=some (.bag x)):∀E S,G6 cx s.ob s.nx E S w→∀c u,S6 E S w c u→S6 (c5 E i A5) (fun k=>S k∨(E i).F k) w (AC.frz i x c) u:=fun E S hI c u hd=>by
 obtain⟨hl,hrd,ho⟩:=hI.obs _ _ hb
 have gen:S6 (c5 E i A5) (fun k=>S k∨(E i).F k) w (cond (c.names i) .top c) u:=XW.c hd
 cases c with
 | own k=>
  simp only [AC.frz]
  cases hk:Nat.beq k i
  ·have:(AC.own k).names i=false:=hk
   rw [this] at gen
   exact gen
  ·obtain rfl:=Nat.eq_of_beq_eq_true hk
   simp only [cond_true]
   refine⟨trivial,?_⟩
   rw [hd.2.1]
   exact Rd.move (fun q h=> .inr h) (fun _ _=>rfl) _ _ ho
 | t r y=>
  cases r with
  | none=>exact gen
  | some k=>
   simp only [AC.frz]
   cases hk:Nat.beq k i
   ·have:(AC.t (some k) y).names i=false:=hk
    rw [this] at gen
    exact gen
   ·obtain rfl:=Nat.eq_of_beq_eq_true hk
    simp only [cond_true]
    exact⟨trivial,Rd.move (fun q h=> .inr h) (fun _ _=>rfl) _ _ hd.2⟩
 | _=>exact gen
variable {ops:Array Oper} {rest:List Oper} {todo:List Item}
theorem cO (i:Nat) {x:T} (hb:y9 s.ob i=some (.bag x))(hM:∀E S w,G6 cx s.ob s.nx E S w→∀k,cx.M k→¬(E i).F k)
  (h:Wt cx ⟨VU (AC.frz i x) s.tm,pU i (AC.frz i x) s.ob,s.nx⟩ todo R):Wt cx s todo R:=fun a w hg=>h a w (ZX _ i hb (HO hb) hM hg)
theorem DN (i:Nat) {x:T} (hb:y9 s.ob i=some (.bag x))(hM:∀E S w,G6 cx s.ob s.nx E S w→∀k,cx.M k→¬(E i).F k)
  (h:Wr cx ⟨VU (AC.frz i x) s.tm,pU i (AC.frz i x) s.ob,s.nx⟩ ops rest k R):Wr cx s ops rest k R:=fun a w hg=>h a w (ZX _ i hb (HO hb) hM hg)
end rules
theorem OJ {P:Program} {f:FuncId} {n:Nat} {w w':World} {S:Nat→Prop} (hS:∀k,S k→k < w.heap.size)(hB:Below w.heap.size w w'):G6 ⟨P,f,n,w,S,fun _=>False⟩ [] 0 (fun _=>A5) S w':=
 ⟨fun k hk=>Nat.lt_of_lt_of_le (hS k hk) hB.size,fun k hk=> .inl hk,fun i o h=>by simp [y9] at h,fun i j _ h=>h.elim,fun i h=>h.elim,fun i h=>h.elim,⟨hB.os,hB.tape,hB.output,hB.size,fun k hk _=>hB.block k hk⟩⟩
theorem bN {P:Program} {f:FuncId} {n:Nat} {w w':World} {S:Nat→Prop} {u:Value} {F:Nat→Prop} {o:Ob} (hS:∀k,S k→k < w.heap.size)(hB:Below w.heap.size w w')(hF:∀k,F k→w.heap.size≤k∧k < w'.heap.size)(ho:x6 (fun i=>if i=0 then⟨u,F,True,True⟩ else A5) S w' 0 o):
  G6 ⟨P,f,n,w,S,fun _=>False⟩ [(0,some o)] 1 (fun i=>if i=0 then⟨u,F,True,True⟩ else A5) S w' where
 slt:=fun k hk=>Nat.lt_of_lt_of_le (hS k hk) hB.size
 snew:=fun k hk=> .inl hk
 obs:=fun i o' h=>by
  rw [D9] at h
  split at h
  ·rename_i e;subst e;cases h;exact⟨trivial,ho⟩
  ·simp [y9] at h
 dis:=fun i j hij hi hj=>by
  by_cases e:i=0
  ·subst e
   rw [if_neg (fun e=>hij e.symm)] at hj
   exact hj.elim
  ·rw [if_neg e] at hi;exact hi.elim
 fp:=fun i hi k hk=>by
  by_cases e:i=0
  ·subst e
   have hk:F k:=hk
   exact⟨(hF k hk).2,fun h=>by have:=hS k h;have:=(hF k hk).1;omega,.inl (hF k hk).1⟩
  ·rw [if_neg e] at hi;exact hi.elim
 nxt:=fun i hi=>by
  by_cases e:i=0
  ·subst e;exact Nat.zero_lt_one
  ·rw [if_neg e] at hi;exact hi.elim
 kept:=⟨hB.os,hB.tape,hB.output,hB.size,fun k hk _=>hB.block k hk⟩
theorem vR {E:Nat→EE} {S:Nat→Prop} {w:World} {x:AV} {vs:List Value} (h:F2 E S w [x] vs):∃u,vs=[u]∧M6 E S w x u:=by
 obtain⟨hl,h⟩:=h
 obtain⟨u,h1,h2⟩:=h 0 x rfl
 match vs,hl with
 | [u'],_=>cases h1;exact⟨u,rfl,h2⟩
theorem HK {P:Program} {ρ:Go.Shelf.Ren} (L:Go.Proofs.SlLaysW.n5 P ρ) {kt e:TypeId} (b:F3):Pu P (ρ.f 5) [.c (.t none (XX P kt e (some b)))] [(0,some (.bag (XX P kt e (some b))))] 1 (.c (.own 0)):=by
 intro n w S vs hS hA
 obtain⟨u,rfl,_,h0,l,⟨g,o,rfl,rfl,ho⟩,hp⟩:=vR hA
 have hg:=hp _ (List.mem_singleton.2 rfl)
 refine(Go.Proofs.AnyW.maps_Clone_owns L kt _ g b.length (aP b) w (ho w hg.2)).mono ?_
 rintro en w' ⟨rfl,hown,_,hB⟩
 obtain⟨o',ho',hq'⟩:=tR hown
 refine⟨_,_,S,rfl,bN (u:=.map (some w.heap.size)) (F:=(· =w.heap.size)) hS hB (fun k hk=>by subst hk;exact⟨Nat.le_refl _,hown.lt⟩) ⟨trivial,rfl,_,hq',fun p hp=>?_⟩,trivial,rfl,rfl⟩
 obtain rfl:=List.mem_singleton.1 hp
 exact⟨rfl,ho'⟩
theorem rW:∀b:F3,∃es:List (Lit × DataW Unit),aP b= .map es∧es.length≤b.length∧∀p∈es,∃q∈b,p.1= .int .i64 q.1
 | []=>⟨[],rfl,Nat.le_refl _,fun p hp=>by cases hp⟩
 | q::b=>by
  obtain⟨es,h1,h2,h3⟩:=rW b
  refine⟨DataW.insert (.int .i64 q.1,.lit (.int .i64 q.2)) (es.filter fun p=>!p.1.sameKey (.int .i64 q.1)),?_,?_,fun p hp=>?_⟩
  ·show(aP b).put (.int .i64 q.1) (.lit (.int .i64 q.2))=_
   rw [h1]
   rfl
  ·rw [length_insert]
   have:=List.length_filter_le (fun p:Lit × DataW Unit=>!p.1.sameKey (.int .i64 q.1)) es
   simp only [List.length_cons]
   omega
  ·rcases ChangeMaps.mem_insert_iff.1 hp with rfl | hp
   ·exact⟨q,List.mem_cons_self ..,rfl⟩
   ·obtain⟨q',h4,h5⟩:=h3 p (List.mem_filter.1 hp).1
    exact⟨q',List.mem_cons_of_mem _ h4,h5⟩
def Y0 (b:F3):List Int:=(Go.intKeys (aP b)).mergeSort Go.leI
theorem sM (b:F3):(Y0 b).length≤b.length:=by
 obtain⟨es,h1,h2,_⟩:=rW b
 unfold Y0
 rw [List.length_mergeSort,h1]
 show(es.map _).length≤_
 rw [List.length_map]
 exact h2
theorem UN {b:F3} {x:Int} (h:x∈Y0 b):∃q∈b,q.1=x:=by
 obtain⟨es,h1,_,h3⟩:=rW b
 unfold Y0 at h
 rw [List.mem_mergeSort,h1] at h
 obtain⟨p,hp,rfl⟩:=List.mem_map.1 h
 obtain⟨q,hq,e⟩:=h3 p hp
 exact⟨q,hq,by rw [e];rfl⟩
theorem GL (b:F3):Go.Maps.size (aP b)≤b.length:=by
 obtain⟨es,h1,h2,_⟩:=rW b
 rw [h1]
 exact h2
def EG (P:Program) (f:FuncId) (k e:TypeId) (b:F3) (u:Value) (l:List (Nat × Obj)):Prop:=
 ∃g m o t,u= .func (.func f) #[] #[.pointer (some ⟨g,0,none⟩)]∧l=[(g,.cells #[.map (some m)] t (0,0)),(m,o)]∧∀w:World,w.heap[m]? =some o→w.ownsMap P k (plainElem (H:=Unit) P e) m b.length (aP b)
def oG (P:Program) (f:FuncId) (k e:TypeId) (b:F3):T:=.ab (EG P f k e b)
theorem KJ {P:Program} {ρ:Go.Shelf.Ren} (L:Go.Proofs.SlLaysZI.n7 P ρ) {kt e:TypeId} (b:F3):Pu P (ρ.f 7) [.c (.t none (XX P kt e (some b)))] [] 0 (.c (.t none (oG P (ρ.f 10) kt e b))):=by
 intro n w S vs hS hA
 obtain⟨u,rfl,_,h0,l,⟨g,o,rfl,rfl,ho⟩,hp⟩:=vR hA
 have hg:=hp _ (List.mem_singleton.2 rfl)
 refine(Go.callsIn_wide (n:=1)).1 ((Go.Proofs.AnyZI.keys_in L Fence.wide 1 trivial rfl (some g) w).mono ?_)
 rintro en w' ⟨rfl,rfl⟩
 have hB:Below w.heap.size w (w.alloc (.cells #[.map (some g)] (ρ.t 23))):=(Below.refl _ w).alloc (Nat.le_refl _) _
 have hI:=OJ (P:=P) (f:=ρ.f 7) (n:=n) hS hB
 refine⟨_,fun _=>A5,fun k=>S k∨k=w.heap.size,rfl,⟨fun k hk=>?_,fun k hk=>?_,fun i o h=>by simp [y9] at h,fun i j _ h=>h.elim,fun i h=>h.elim,fun i h=>h.elim,hI.kept⟩,trivial,rfl,_,⟨w.heap.size,g,o,ρ.t 23,rfl,rfl,ho⟩,fun p hp=>?_⟩
 ·rcases hk with hk | rfl
  ·exact hI.slt k hk
  ·simp
 ·rcases hk with hk | rfl
  ·exact .inl hk
  ·exact .inr (Nat.le_refl _)
 ·rcases List.mem_cons.1 hp with rfl | hp
  ·exact⟨.inr rfl,(MapKept.heap_alloc w _).1⟩
  ·obtain rfl:=List.mem_singleton.1 hp
   exact⟨.inl hg.1,(hB.block g (hS g hg.1)).trans hg.2⟩
theorem VN {P:Program} {ρ κ:Go.Shelf.Ren} (L:Go.Proofs.SlLaysZI.n6 P ρ)(K:Go.Proofs.SlLaysZI.n10 P κ)(hsort:∀m,Go.Proofs.AnyZI.SortsIn P ρ Fence.wide m)(e9:∀args w,(callFunc (ρ.f 9) args).run P w= .ok (.enter (ρ.f 9) args) w)(e10:∀args w,(callFunc (κ.f 10) args).run P w= .ok (.enter (κ.f 10) args) w) {e:TypeId} (b:F3)(hb:b.length≤1099511627776):
  Pu P (ρ.f 6) [.c (.t none (oG P (κ.f 10) (κ.t 26) e b))] [(0,some (.row none (ρ.t 26) true 1 f9 (Y0 b)))] 1 (.c (.own 0)):=by
 intro n w S vs hS hA
 obtain⟨u,rfl,_,h0,l,⟨g,m,o,t,rfl,rfl,ho⟩,hp⟩:=vR hA
 have hg:=hp _ (List.mem_cons_self ..)
 have hm:=hp _ (List.mem_cons_of_mem _ (List.mem_singleton.2 rfl))
 have hgl:=hS g hg.1
 have hcell:w.cell? ⟨g,0,none⟩=some (.map (some m)):=by simp [World.cell?,hg.2]
 have hz:=GL b
 have hseq:SeqGives Fence.wide 2 P (κ.f 10) #[.pointer (some ⟨g,0,none⟩)] Go.encZ (fun ss=>ss.Perm (Go.intKeys (aP b))) (Go.Maps.size (aP b)) w:=
  Go.Proofs.AnyZI.keys_gives K Fence.wide 2 trivial rfl (by omega) g m b.length (aP b) w hgl hcell (ho w hm.2)
 have cS:=Go.Proofs.AnyZI.sorted_in L Fence.wide 5 trivial trivial trivial trivial rfl (by omega) (hsort _) e9 (κ.f 10) #[.pointer (some ⟨g,0,none⟩)] trivial e10 _ _ (by simp only [maxLen];omega) (by omega) w hseq
 refine(Go.callsIn_wide (n:=5)).1 (cS.mono ?_)
 rintro en w' ⟨v,ss,rfl,hS',hrow,hnil,hB⟩
 have hk:ss.mergeSort (fun x y=>decide (x≤y))=Y0 b:=Go.mergeSort_of_perm_i hS'
 rw [hk] at hrow
 have hlen:ss.length=(Y0 b).length:=by rw [← hk,List.length_mergeSort]
 rw [hlen] at hrow
 have hone:v.oneCell'=true:=by
  rcases hrow.2 with⟨rfl,_⟩ | ⟨g',cap,cur,rfl,_⟩ <;> rfl
 refine⟨v,_,S,rfl,bN (u:=v) (F:=fun k=>v.ownBlock=some k) hS hB (fun k hk=>?_) ⟨trivial,fun v hv=>(by cases hv),?_⟩,trivial,rfl,hone⟩
 ·rcases hrow.2 with⟨rfl,_⟩ | ⟨g',cap,cur,rfl,h1,h2,_⟩
  ·cases hk
  ·cases hk
   exact⟨h1,(Array.getElem?_eq_some_iff.1 h2).1⟩
 ·rw [if_pos rfl]
  refine⟨_,fun _ _ _=>False,hrow.mono (Nat.zero_le _),fun k hk=>hk,fun i j k h=>h.elim,fun i j i' j' k h=>h.elim,fun i x hx j hj=>?_⟩
  obtain rfl:j=0:=by omega
  refine⟨.int .i64 x,?_,rfl,rfl⟩
  rw [Nat.mul_one,Nat.add_zero,List.getElem?_map,hx]
  rfl
end Go.Eng
