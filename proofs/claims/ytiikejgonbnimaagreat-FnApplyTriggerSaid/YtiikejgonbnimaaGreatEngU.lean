import Derived.Test.YtiikejgonbnimaaGreatEngT
set_option linter.unusedVariables false
set_option linter.unusedSimpArgs false
namespace Go.Eng
open Go Go.RowKit Go.Proofs
def IK {α:Type} (enc:α→Nat→T) (sz:Nat) (xs:List α) (j:Nat):T:=match xs[j / sz]? with
 | some x=>enc x (j % sz)
 | none=> .v .nilIface
theorem VK {α:Type} {enc:α→Nat→T} {sz:Nat} {xs:List α} {b c:Nat} {x:α} (hx:xs[b]? =some x)(hc:c < sz):IK enc sz xs (b * sz + c)=enc x c:=by
 unfold IK
 rw [show(b * sz + c) / sz=b by rw [Nat.mul_comm,Nat.mul_add_div (by omega),Nat.div_eq_of_lt hc,Nat.add_zero],hx,show(b * sz + c) % sz=c by rw [Nat.mul_comm,Nat.mul_add_mod];exact Nat.mod_eq_of_lt hc]
section
variable {cx:Cx} {s:St} {dst:Option Nat} {ty:TypeId} {pos:String} {aft:Array Edge} {R:Ending→World→Prop} {k:List Item} {ops:Array Oper} {rest:List Oper} {todo:List Item}
theorem i7 (i:Nat) {t e sz len:Nat} {zs:List Value} {parts:Array (Nat × Operand)} {vs:List (Nat × AV)} {us:List AC} {α:Type} {enc:α→Nat→T} (xs:List α) {is:List Nat} (hi:s.nx=i)(hd:Q6 dst cx.n=true)(he:PZ cx.P t=some (e,sz,zs))(hz:Nat.beq zs.length sz=true)(hsz:Nat.blt 0 sz=true)(h1:zs.all (·.oneCell')=true)(hsmall:Nat.ble (len * sz) 16777216=true)(hv:mL (s.obj i (.row none e true sz enc [])) parts.toList=some vs)(hc:MY (fun i=>some (i * sz,sz)) (List.replicate (len * sz) .top) vs=some us)(hul:Nat.beq us.length (len * sz)=true)(hxl:Nat.beq xs.length len=true)
  (hm:xM (s.obj i (.row none e true sz enc [])) true us (IK enc sz xs) 0 is) (hii:is.all (fun k=>!Nat.beq k i)=true):
  Os cx s ⟨dst,.buildSlice t len parts,ty,pos,aft,none⟩ ((⟨I5 (c7 i is) s.tm,(i,some (.row none e true sz enc xs))::T4 is (Y6 (c7 i is) (s.obj i (.row none e true sz enc [])).ob),i + 1⟩:St).sets dst (some (.c (.own i)))) true:=by
 refine Z3 fun a w hg=>?_
 have hg0:Gm cx (s.obj i (.row none e true sz enc [])) a w:=Gm.nil0 (et:=e) (sz:=sz) hg i true enc hi
 obtain⟨E,S,hI,hT,hn,hdf⟩:=hg0
 have hz:=Nat.eq_of_beq_eq_true hz
 have hul:=Nat.eq_of_beq_eq_true hul
 have hxl:=Nat.eq_of_beq_eq_true hxl
 have htop:r6 E S w (List.replicate (len * sz) .top) ((Array.range (len * sz)).map (zs.toArray[· % zs.length]!)).toList:=by
  refine⟨by simp,fun j c hj=>?_⟩
  rw [List.getElem?_replicate] at hj
  split at hj
  ·rename_i hlt
   cases hj
   have hpos:0 < zs.length:=by
    rcases Nat.eq_zero_or_pos zs.length with h0 | h0
    ·rw [h0] at hz;subst hz;simp at hlt
    ·exact h0
   have hm:j % zs.length < zs.length:=Nat.mod_lt _ hpos
   refine⟨zs[j % zs.length],by simp [hlt,hm],?_⟩
   exact(List.all_eq_true.1 h1) _ (List.getElem_mem hm)
  ·cases hj
 obtain⟨us',h4,h5⟩:=CZ hT parts.toList vs _ us _ hv hc htop
 have hr:=PY (P:=cx.P) he hz len (parts.map fun(i,x)=>(i,a.eval x)) us' (by simpa using hsmall) w (by rw [Array.toList_map];exact h4)
 have hob:y9 (s.obj i (.row none e true sz enc [])).ob i=some (.row none e true sz enc []):=by
  show y9 ((i,_)::s.ob) i=_
  rw [D9,if_pos rfl]
 obtain⟨hli,hrd,_,_⟩:=hI.obs _ _ hob
 obtain⟨m1,_,m3⟩:=hm.den hI h5
 obtain⟨Gz,g1,g2,g3⟩:=m3 rfl
 have hlen:us'.toList.length=len * sz:=h5.1.trans hul
 have his:∀q∈is,q≠i:=fun q hq e=>by
  have:=(List.all_eq_true.1 hii) q hq
  subst e
  simp at this
 have hGlt:∀c k,Gz c k→k < w.heap.size:=fun c k hk=>by
  obtain⟨q,hq,hf⟩:=g1 c k hk
  exact(hI.fp q (m1 q hq) k hf).1
 let w1:=w.alloc (.cells us'.toList.toArray e (0,0))
 have hkeep:∀k,k < w.heap.size→w1.heap[k]? =w.heap[k]? :=fun k hk=>heap_alloc_old w _ hk
 refine⟨.value (.slice (some ⟨w.heap.size,0,none⟩) len len),w1,?_,.inl ⟨_,rfl,?_⟩,fun _=>aX.alloc _ _⟩
 ·simp only [execOp]
  rw [Sem.run_bind,hr]
  rfl
 ·let x:EE:=⟨.slice (some ⟨w.heap.size,0,none⟩) len len,fun k=>k=w.heap.size∨∃q∈is,(E q).F k,True,True⟩
  have hobj:x6 (o6 E i is x) S w1 i (.row none e true sz enc xs):=by
   refine⟨by rw [Q9];trivial,fun v hv=>(by cases hv),?_⟩
   rw [Q9]
   simp only [if_true]
   refine⟨us'.toList,fun b c k=>c < sz∧Gz (b * sz + c) k,⟨by rw [hxl];exact hlen,.inr ⟨w.heap.size,len,_,by rw [hxl],Nat.zero_le _,heap_alloc_new w _,by rw [hxl];exact Nat.le_refl _,?_,by simpa using hlen,by rw [hxl];exact List.take_of_length_le (Nat.le_of_eq hlen)⟩⟩,fun g hg=> .inl (by simp only [Value.ownBlock,x,Option.some.injEq] at hg;exact hg.symm),fun b c k hk=>⟨?_,?_⟩,fun b c b' c' k hk hk'=>?_,fun b y hb c hc=>?_⟩
   ·have h0:0 < sz:=by simpa using hsz
    have h2:len * sz≤16777216:=by simpa using hsmall
    have h3:len≤len * sz:=Nat.le_mul_of_pos_right _ h0
    simp only [maxLen]
    omega
   ·obtain⟨q,hq,hf⟩:=g1 _ k hk.2
    exact .inr ⟨q,hq,hf⟩
   ·have:=hGlt _ k hk.2
    simp only [Value.ownBlock,x,ne_eq,Option.some.injEq]
    omega
   ·have e0:=g2 _ _ k hk.2 hk'.2
    have h1:=hk.1
    have h2:=hk'.1
    have e1:b=b':=by
     have q1:(b * sz + c) / sz=b:=by rw [Nat.mul_comm,Nat.mul_add_div (by omega),Nat.div_eq_of_lt h1,Nat.add_zero]
     have q2:(b' * sz + c') / sz=b':=by rw [Nat.mul_comm,Nat.mul_add_div (by omega),Nat.div_eq_of_lt h2,Nat.add_zero]
     rw [← q1,e0,q2]
    subst e1
    exact⟨rfl,by omega⟩
   ·have hbl:=(List.getElem?_eq_some_iff.1 hb).1
    have hq:b * sz + c < us.length:=by rw [hul,← hxl];exact FX hbl hc
    obtain⟨u',e1,e2⟩:=g3 (b * sz + c) hq
    refine⟨u',e1,?_⟩
    rw [Nat.zero_add,VK hb hc] at e2
    exact Ow.move _ _ (fun k hk=>⟨hc,hk⟩) (fun k hk=>hkeep k (hGlt _ k hk)) e2
  have hW:=hI.write (w':=w1) (i:=i) (is:=is) (x:=x) (c7 i is) hli m1 trivial (fun a' ha'=>by
    simp only [c7,Bool.or_eq_false_iff] at ha'
    exact⟨fun q hq=>by
     have:=ha'.2
     rw [List.any_eq_false] at this
     simpa using this q hq,fun hn'=>(by rw [ha'.1] at hn';cases hn'),fun hr _=>(by have:=ha'.1;rw [r7 hr] at this;cases this)⟩)
   (fun k hk=>by
    rcases hk with hk | ⟨q,hq,hk⟩
    ·exact .inr (.inr ⟨by omega,by subst hk;simp [w1]⟩)
    ·exact .inr (.inl ⟨q,hq,hk⟩))
   (by simp [w1]) rfl rfl rfl (fun k hk _=>hkeep k hk) hobj
  refine⟨_,S,?_,I8 (s:=⟨I5 (c7 i is) s.tm,(i,some (.row none e true sz enc xs))::T4 is (Y6 (c7 i is) (s.obj i (.row none e true sz enc [])).ob),i + 1⟩) hd hn (O7.cut hW.2 hT) (fun v' e'=>?_),by rw [P8];exact hn,by rw [put_defers];exact hdf⟩
  ·rw [B7,A7];exact hW.1
  ·cases e'
   exact⟨by rw [Q9];trivial,by rw [Q9],rfl⟩
def lS (E:Nat→EE) (i:Nat):Nat→EE:=c5 E i ⟨(E i).u,fun k=>(E i).F k∧(E i).u.ownBlock=some k,(E i).live,(E i).rd⟩
def BI (E:Nat→EE) (S:Nat→Prop) (i:Nat):Nat→Prop:=fun k=>S k∨((E i).F k∧(E i).u.ownBlock≠some k)
theorem H0 {E:Nat→EE} {i:Nat}:lS E i i=⟨(E i).u,fun k=>(E i).F k∧(E i).u.ownBlock=some k,(E i).live,(E i).rd⟩:=W8 _ _ _
theorem pY {E:Nat→EE} {i j:Nat} (h:j≠i):lS E i j=E j:=A8 h
theorem PP {i:Nat} {E:Nat→EE} {S:Nat→Prop} {w:World}:Carry E (lS E i) S (BI E S i) w w (fun a=>a.reads i) where
 sub:=fun _ h=> .inl h
 keep:=fun _ _=>rfl
 place:=fun a ha k hk hlk=>by
  by_cases e:k=i
  ·subst e;rw [H0];exact⟨hlk,rfl⟩
  ·rw [pY e];exact⟨hlk,rfl⟩
 reads:=fun a ha k hk hlk=>by
  have:k≠i:=fun e=>by subst e;have h':a.reads k=false:=ha;rw [h'] at hk;cases hk
  rw [pY this];exact⟨hlk,fun _ h=>h,fun _ _=>rfl⟩
theorem XJ {w:World} {S F:Nat→Prop} {e sz:Nat} {α:Type} {enc:α→Nat→T} {xs:List α} {u:Value} (h:AP w e sz enc xs u F):Ro w (fun k=>S k∨(F k∧u.ownBlock≠some k)) e sz enc xs u (fun k=>F k∧u.ownBlock=some k):=by
 obtain⟨cells,G,h1,h2,h3,h4,h5⟩:=h
 refine⟨cells,h1,fun g hg=>⟨h2 g hg,hg⟩,fun b x hx c hc=>?_⟩
 obtain⟨u',e1,e2⟩:=h5 b x hx c hc
 refine⟨u',e1,Rd.move (fun k hk=>?_) (fun _ _=>rfl) _ _ (Ow.rd _ _ e2)⟩
 obtain⟨r1,r2⟩:=h3 b c k hk
 exact .inr ⟨r1,r2⟩
theorem FJ (i:Nat) {pn:Option Value} {e sz:Nat} {α:Type} {enc:α→Nat→T} {xs:List α} {a:Act} {w:World} (hb:y9 s.ob i=some (.row pn e true sz enc xs))(hM:∀E S w,G6 cx s.ob s.nx E S w→∀k,cx.M k→¬(E i).F k)(hg:Gm cx s a w):Gm cx ⟨I5 (AC.reads i) s.tm,(i,some (.row pn e false sz enc xs))::Y6 (AC.reads i) s.ob,s.nx⟩ a w:=by
 obtain⟨E,S,hI,hT,hsz,hdf⟩:=hg
 have hC:=PP (i:=i) (E:=E) (S:=S) (w:=w)
 obtain⟨hl,hrd,hpn,ho⟩:=hI.obs _ _ hb
 simp only [if_true] at ho
 have hlv:∀j,(lS E i j).live→(E j).live:=fun j hj=>by
  by_cases e:j=i
  ·subst e;exact hl
  ·rw [pY e] at hj;exact hj
 have hF:∀j k,(lS E i j).F k→(E j).F k:=fun j k hk=>by
  by_cases e:j=i
  ·subst e;rw [H0] at hk;exact hk.1
  ·rw [pY e] at hk;exact hk
 refine⟨lS E i,BI E S i,⟨?_,?_,fun j o hj=>?_,fun j j' hij hj hj' q h1 h2=>hI.dis j j' hij (hlv j hj) (hlv j' hj') q (hF j q h1) (hF j' q h2),fun j hj q hq=>?_,fun j hj=>hI.nxt j (hlv j hj),hI.kept⟩,O7.cut hC hT,hsz,hdf⟩
 ·rintro k (h | h)
  ·exact hI.slt k h
  ·exact(hI.fp i hl k h.1).1
 ·rintro k (h | h)
  ·exact hI.snew k h
  ·rcases (hI.fp i hl k h.1).2.2 with q | q
   ·exact .inr q
   ·exact absurd h.1 (hM E S w hI k q)
 ·rw [D9] at hj
  split at hj
  ·rename_i e1
   subst e1
   cases hj
   refine⟨by rw [H0];exact hl,by rw [H0];exact hrd,by rw [H0];exact hpn,?_⟩
   simp only [Bool.false_eq_true,if_false]
   rw [H0]
   exact XJ ho
  ·rename_i hji
   rw [Z4] at hj
   obtain⟨o0,h0,rfl⟩:=Option.map_eq_some_iff.mp hj
   obtain⟨h1,h2⟩:=hI.obs j o0 h0
   have hne:j≠i:=hji
   have eE:=pY (E:=E) hne
   refine⟨by rw [eE];exact h1,?_⟩
   exact x6.carry hC (i:=j) (by rw [eE]) (fun k=>by rw [eE]) (by rw [eE]) (fun k hk=>rfl) h2
 ·refine⟨(hI.fp j (hlv j hj) q (hF j q hq)).1,?_,(hI.fp j (hlv j hj) q (hF j q hq)).2.2⟩
  rintro(h | h)
  ·exact(hI.fp j (hlv j hj) q (hF j q hq)).2.1 h
  ·by_cases e1:j=i
   ·subst e1
    rw [H0] at hq
    exact h.2 hq.2
   ·exact hI.dis j i e1 (hlv j hj) hl q (hF j q hq) h.1
theorem uV {X:Nat→Bool} {fuel:Nat} {listed:Array Bool} (i:Nat) {pn:Option Value} {e sz:Nat} {α:Type} {enc:α→Nat→T} {xs:List α} (hb:y9 s.ob i=some (.row pn e true sz enc xs))(hM:∀E S w,G6 cx s.ob s.nx E S w→∀k,cx.M k→¬(E i).F k)
  (h:Wd cx ⟨I5 (AC.reads i) s.tm,(i,some (.row pn e false sz enc xs))::Y6 (AC.reads i) s.ob,s.nx⟩ ops X fuel listed k R):Wd cx s ops X fuel listed k R:=fun a w hg=>h a w (FJ i hb hM hg)
theorem X7 (i:Nat) {pn:Option Value} {t e:TypeId} {sz by':Nat} {x y:Operand} {α:Type} {enc:α→Nat→T} {xs ys:List α} (hd:Q6 dst cx.n=true)(he:CV cx.P t=some (e,sz,by'))(hpos:Nat.blt 0 sz=true)
  (hx:s.ev x=some (.c (.own i))) (hb:y9 s.ob i=some (.row pn e false sz enc xs)) (hy:s.ev y=some (.c (.t none (.sl sz enc ys)))) (hlen:(xs.length + ys.length) * by'≤140737488355328) (hl63:xs.length + ys.length≤9223372036854775807):
  Os cx s ⟨dst,.call {callee:=.builtin .append,args:=#[x,y],argTypes:=#[t,t]},ty,pos,aft,none⟩ ((⟨I5 (c7 i []) s.tm,(i,some (.row none e false sz enc (xs++ys)))::T4 [] (Y6 (c7 i []) s.ob),s.nx⟩:St).sets dst (some (.c (.own i)))) false:=by
 refine Z3 fun a w hg=>?_
 obtain⟨E,S,hI,hT,hn,hdf⟩:=hg
 have hpos:0 < sz:=by simpa using hpos
 obtain⟨ti,tz,t1,t2,t3,t4,t5,t6⟩:=ZY he
 obtain⟨hli,hux,_⟩:=J9 hT hx
 obtain⟨_,A,cap,huy,hcap,hrd'⟩:=J9 hT hy
 obtain⟨_,hrd,_,ho⟩:=hI.obs _ _ hb
 simp only [Bool.false_eq_true,if_false] at ho
 obtain⟨cells,h1,h2,h5⟩:=ho
 have hexec:∀(v1:Value) (w1:World),(Builtin.append_ #[t,t] ty #[(E i).u,.slice A ys.length cap]).run cx.P w= .ok v1 w1→(execOp a.eval ⟨dst,.call {callee:=.builtin .append,args:=#[x,y],argTypes:=#[t,t]},ty,pos,aft,none⟩).run cx.P w= .ok (.value v1) w1:=fun v1 w1 hr=>by
  have hm:Array.map a.eval #[x,y]=#[(E i).u,.slice A ys.length cap]:=by simp [hux,huy]
  simp only [execOp,resolve,invoke,builtin,hm,Sem.run_bind,Sem.run_pure,Result.andThen_ok]
  rw [hr]
  rfl
 have fin:∀(v1:Value) (w1:World) (news:List Value),w1.ownsRow 0 e sz v1 (xs.length + ys.length) (cells++news)→(∀b y',ys[b]? =some y'→∀c,c < sz→∃u',news[b * sz + c]? =some u'∧Rd w S (enc y' c) u')→w.heap.size≤w1.heap.size→w1.os=w.os→w1.tape=w.tape→w1.output=w.output→(∀q,q < w.heap.size→some q≠(E i).u.ownBlock→w1.heap[q]? =w.heap[q]?)→(v1.ownBlock=(E i).u.ownBlock∨v1.ownBlock=some w.heap.size)→v1.oneCell'=true→
   Gm cx ((⟨I5 (c7 i []) s.tm,(i,some (.row none e false sz enc (xs++ys)))::T4 [] (Y6 (c7 i []) s.ob),s.nx⟩:St).sets dst (some (.c (.own i)))) (a.put dst v1) w1:=fun v1 w1 news r2 hnw r3 ros rt rop rb r5 hone=>by
  have hkeep:∀q,q < w.heap.size→¬(E i).F q→w1.heap[q]? =w.heap[q]? :=fun q hq hf=>rb q hq fun hb'=>hf (h2 q hb'.symm)
  have hkeepS:∀q,S q→w1.heap[q]? =w.heap[q]? :=fun q hq=>hkeep q (hI.slt q hq) fun hf=>(hI.fp i hli q hf).2.1 hq
  have hfresh:v1.ownBlock=some w.heap.size→w.heap.size < w1.heap.size:=fun hv=>by
   rcases r2.2 with⟨e1,_⟩ | ⟨g,cap,cur,e1,_,e2,_⟩
   ·rw [e1] at hv;simp [Value.ownBlock] at hv
   ·rw [e1] at hv
    simp [Value.ownBlock] at hv
    subst hv
    exact(Array.getElem?_eq_some_iff.1 e2).1
  have hlen':(xs++ys).length=xs.length + ys.length:=by simp
  have hobj:x6 (o6 E i [] ⟨v1,fun k=>(E i).F k∨v1.ownBlock=some k,True,True⟩) S w1 i (.row none e false sz enc (xs++ys)):=by
   refine⟨by rw [Q9];trivial,fun v hv=>(by cases hv),?_⟩
   rw [Q9]
   simp only [Bool.false_eq_true,if_false]
   refine⟨cells++news,by rw [hlen'];exact r2,fun g hg=> .inr hg,fun b x' hx' c hc=>?_⟩
   by_cases hb1:b < xs.length
   ·rw [List.getElem?_append_left hb1] at hx'
    obtain⟨u',e1,e2⟩:=h5 b x' hx' c hc
    refine⟨u',?_,Rd.move (fun _ h=>h) hkeepS _ _ e2⟩
    rw [List.getElem?_append_left (by rw [h1.1];exact FX hb1 hc)]
    exact e1
   ·rw [List.getElem?_append_right (by omega)] at hx'
    obtain⟨u',e1,e2⟩:=hnw _ x' hx' c hc
    refine⟨u',?_,Rd.move (fun _ h=>h) hkeepS _ _ e2⟩
    have hle:xs.length * sz≤b * sz:=Nat.mul_le_mul_right _ (by omega)
    rw [List.getElem?_append_right (by rw [h1.1];omega),h1.1,show b * sz + c - xs.length * sz=(b - xs.length) * sz + c by rw [Nat.sub_mul];omega]
    exact e1
  have hW:=hI.write (w':=w1) (i:=i) (is:=[]) (x:=⟨v1,fun k=>(E i).F k∨v1.ownBlock=some k,True,True⟩) (c7 i []) hli (fun q hq=>by simp at hq) trivial (fun a' ha'=>by
    simp only [c7,List.any_nil,Bool.or_false] at ha'
    exact⟨fun q hq=>by simp at hq,fun hn'=>(by rw [ha'] at hn';cases hn'),fun hr _=>by(rw [r7 hr] at ha';cases ha')⟩)
   (fun k hk=>by
    rcases hk with hk | hk
    ·exact .inl hk
    ·rcases r5 with h5 | h5
     ·rw [h5] at hk;exact .inl (h2 k hk)
     ·have h6:=hfresh h5
      rw [h5] at hk
      cases hk
      exact .inr (.inr ⟨Nat.le_refl _,h6⟩))
   r3 ros rt rop hkeep hobj
  refine⟨_,S,?_,I8 (s:=⟨I5 (c7 i []) s.tm,(i,some (.row none e false sz enc (xs++ys)))::T4 [] (Y6 (c7 i []) s.ob),s.nx⟩) hd hn (O7.cut hW.2 hT) (fun v' e'=>?_),by rw [P8];exact hn,by rw [put_defers];exact hdf⟩
  ·rw [B7,A7];exact hW.1
  ·cases e'
   exact⟨by rw [Q9];trivial,by rw [Q9],hone⟩
 cases A with
 | none=>
  have hy0:ys=[]:=by
   cases ys with
   | nil=>rfl
   | cons y0 ys=>
    obtain⟨ad,h,_⟩:=hrd' 0 y0 rfl
    cases h
  subst hy0
  obtain⟨A',c',hu,hc⟩:=N5 h1
  refine⟨.value (E i).u,w,hexec _ _ ?_,.inl ⟨_,rfl,?_⟩,fun h=>by(cases h)⟩
  ·rw [hu]
   exact n1 t1 t2 A' _ c' cap hc w
  ·exact fin _ w [] (by simpa using h1) (fun b y' hb'=>by simp at hb') (Nat.le_refl _) rfl rfl rfl (fun _ _ _=>rfl) (.inl rfl) (by rw [hu];rfl)
 | some ad=>
  have each:∀q,q < ys.length * sz→∃u,w.cell? (ad.add q)=some u∧u.oneCell'=true∧∃y',ys[q / sz]? =some y'∧Rd w S (enc y' (q % sz)) u:=fun q hq=>by
   have hqs:q / sz < ys.length:=by rw [Nat.div_lt_iff_lt_mul hpos];exact hq
   have hqm:q % sz < sz:=Nat.mod_lt _ hpos
   obtain⟨ad',e0,_,hc⟩:=hrd' (q / sz) _ (List.getElem?_eq_getElem hqs)
   cases e0
   obtain⟨u',e1,e2⟩:=hc (q % sz) hqm
   rw [show q / sz * sz + q % sz=q by rw [Nat.mul_comm];exact Nat.div_add_mod q sz] at e1
   exact⟨u',e1,e2.one,_,List.getElem?_eq_getElem hqs,e2⟩
  obtain⟨news,hnl,hnw⟩:=wP _ each
  obtain⟨v1,w1,r1,r2,r3,_,r5⟩:=run_append_own_at (P:=cx.P) w 0 t ty e ti tz sz by' t1 t2 t3 t4 t5 t6 hpos (E i).u xs.length cells h1 ad ys.length cap news hnl (fun j u hu=>(hnw j u hu).1) (fun u hu=>by
   obtain⟨j,hj⟩:=List.getElem?_of_mem hu
   exact(hnw j u hj).2.1) (by simp only [maxLen];omega) hlen (Nat.zero_le _)
  refine⟨.value v1,w1,hexec _ _ r1,.inl ⟨_,rfl,?_⟩,fun h=>by(cases h)⟩
  refine fin v1 w1 news r2 (fun b y' hb' c hc=>?_) r3.size r3.os r3.tape r3.output r3.block r5 ?_
  ·have hbl:=(List.getElem?_eq_some_iff.1 hb').1
   have hq:b * sz + c < ys.length * sz:=FX hbl hc
   have hj:news[b * sz + c]? =some (news[b * sz + c]'(by omega)):=List.getElem?_eq_getElem (by omega)
   obtain⟨_,_,y2,e1,e2⟩:=hnw _ _ hj
   rw [show(b * sz + c) / sz=b by rw [Nat.mul_comm,Nat.mul_add_div hpos,Nat.div_eq_of_lt hc,Nat.add_zero],hb'] at e1
   cases e1
   rw [show(b * sz + c) % sz=c by rw [Nat.mul_comm,Nat.mul_add_mod];exact Nat.mod_eq_of_lt hc] at e2
   exact⟨_,hj,e2⟩
  ·obtain⟨A',c',hu,_⟩:=N5 r2
   rw [hu];rfl
end
end Go.Eng
