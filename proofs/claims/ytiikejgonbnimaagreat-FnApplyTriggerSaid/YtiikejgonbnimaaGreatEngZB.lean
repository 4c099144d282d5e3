import Derived.Test.YtiikejgonbnimaaGreatEngZA
set_option linter.unusedVariables false
set_option linter.unusedSimpArgs false
namespace Go.Eng
open Go Go.RowKit
theorem Ro.more {w:World} {S S':Nat→Prop} {e:Nat} {α:Type} {sz:Nat} {enc:α→Nat→T} {xs:List α} {u:Value} {F:Nat→Prop} (hS:∀k,S k→S' k)(h:Ro w S e sz enc xs u F):Ro w S' e sz enc xs u F:=
 Ro.move hS (fun _ _=>rfl) (fun _ h=>h) (fun _ _=>rfl) h
section
variable {cx:Cx} {ob ob':List (Nat × Option Ob)} {nx nx' i p q:Nat} {E E':Nat→EE} {S S2:Nat→Prop} {w w':World} {P:Program} {g:FuncId} {n:Nat} {c1 c2:List AC} {v1 v2:Value} {e sz:Nat} {α:Type} {enc:α→Nat→T} {l':List α}
end
section rules
variable {cx:Cx} {s:St} {dst:Option Nat} {ty:TypeId} {pos:String} {aft:Array Edge}
theorem dN {zs:List Value} {n b c:Nat} (hb:b < n)(hc:c < zs.length):(Builtin.zeroCells zs.toArray n).toList[b * zs.length + c]? =zs[c]? :=by
 have hlt:b * zs.length + c < n * zs.length:=by
  have:(b + 1) * zs.length≤n * zs.length:=Nat.mul_le_mul_right _ hb
  rw [Nat.add_mul] at this
  omega
 have hm:(b * zs.length + c) % zs.length=c:=by
  rw [Nat.mul_comm,Nat.mul_add_mod]
  exact Nat.mod_eq_of_lt hc
 unfold Builtin.zeroCells
 rw [Array.getElem?_toList,Array.getElem?_map,List.size_toArray,Array.getElem?_range,if_pos hlt]
 simp only [Option.map_some,hm]
 rw [List.getElem?_eq_getElem hc]
 congr 1
 rw [getElem!_pos zs.toArray c (by simpa using hc)]
 simp
theorem NM (zs:List Value)(n:Nat):(Builtin.zeroCells zs.toArray n).toList.length=n * zs.length:=by simp [Builtin.zeroCells]
theorem AM {t et e0 i off n sz:Nat} {pn:Option Value} {α:Type} {enc:α→Nat→T} {xs:List α} {x:Operand} (z0:α) {zs:List Value} (hx:s.ev x=some (.c (.vw i off n sz)))(hb:y9 s.ob i=some (.row pn e0 false sz enc xs))(he:cx.P.underlying t=some (.slice et))(hz:F0 cx.P et=some zs)(h1:zs.all (·.oneCell')=true)(hs:Nat.beq zs.length sz=true)(hz0:LH (enc z0) 0 zs)(hn:off + n≤xs.length)(hpos:0 < n):
  Os cx s ⟨none,.call {callee:=.builtin .clear,args:=#[x],argTypes:=#[t]},ty,pos,aft,none⟩ ⟨I5 (X3 i []) s.tm,(i,some (.row pn e0 false sz enc (xs.take off++List.replicate n z0++xs.drop (off + n))))::T4 [] (Y6 (X3 i []) s.ob),s.nx⟩ false:=by
 have hs:zs.length=sz:=Nat.eq_of_beq_eq_true hs
 refine Z3 fun ac w hg=>?_
 obtain⟨E,S,hI,hT,hsz,hdf⟩:=hg
 obtain⟨hli,g,m,cap,cap',hu,hux,_⟩:=J9 hT hx
 obtain⟨_,hrd,hpn,ho⟩:=hI.obs _ _ hb
 simp only [Bool.false_eq_true,if_false] at ho
 obtain⟨cells,q1,q2,q5⟩:=ho
 rw [hu] at q1
 have hmx:m=xs.length:=by
  rcases q1.2 with⟨e,_⟩ | ⟨g',c',cur,e,_⟩
  ·cases e
  ·cases e;rfl
 subst hmx
 have hgF:(E i).F g:=q2 g (by rw [hu];rfl)
 have hul:(Builtin.zeroCells zs.toArray n).toList.length=n * sz:=by rw [NM,hs]
 have hfit:off * sz +(Builtin.zeroCells zs.toArray n).toList.length≤xs.length * sz:=by
  rw [hul,← Nat.add_mul]
  exact Nat.mul_le_mul_right _ hn
 obtain⟨cur,hg1,hg2,hown⟩:=dU (us:=(Builtin.zeroCells zs.toArray n).toList) (q:=off * sz) q1 hfit
 obtain⟨zz,hz1,hz2⟩:=pW hz w
 have hone:∀v∈(Builtin.zeroCells zs.toArray n).toList,v.oneCell'=true:=fun v hv=>by
  obtain⟨j,hj⟩:=List.getElem?_of_mem hv
  have hjl:=(List.getElem?_eq_some_iff.1 hj).1
  rw [hul,← hs] at hjl
  have hsz0:0 < zs.length:=by
   rcases Nat.eq_zero_or_pos zs.length with e | e
   ·rw [e] at hjl;omega
   ·exact e
  have hd:j=(j / zs.length) * zs.length + j % zs.length:=by rw [Nat.mul_comm];exact(Nat.div_add_mod _ _).symm
  have hjn:j / zs.length < n:=Nat.div_lt_of_lt_mul (by rw [Nat.mul_comm];exact hjl)
  rw [hd,dN hjn (Nat.mod_lt _ hsz0)] at hj
  exact(List.all_eq_true.1 h1) v (List.mem_of_getElem? hj)
 have hst:=run_storeCells_at (P:=cx.P) g (off * sz) e0 (Builtin.zeroCells zs.toArray n).toList 0 cur.toArray w hg1 (by simpa using hg2) hone
 simp only [Nat.add_zero] at hst
 have hput:cur.toArray.toList.take (off * sz)++(Builtin.zeroCells zs.toArray n).toList++cur.toArray.toList.drop (off * sz +(Builtin.zeroCells zs.toArray n).toList.length)=O6 cur (off * sz) (Builtin.zeroCells zs.toArray n).toList:=rfl
 rw [hput] at hst
 have hrun:(Builtin.clear_ #[t] ty #[.slice (some ⟨g,off * sz,none⟩) n cap']).run cx.P w= .ok (.tuple #[]) (w.setRow g (O6 cur (off * sz) (Builtin.zeroCells zs.toArray n).toList).toArray):=by
  obtain⟨n',rfl⟩:∃n',n=n' + 1:=⟨n - 1,by omega⟩
  simp [Builtin.clear_,run_underlying he,hz1,hz2,hst]
 have hget:∀(b c:Nat),b < xs.length→c < sz→(O6 cells (off * sz) (Builtin.zeroCells zs.toArray n).toList)[b * sz + c]? =if off≤b∧b < off + n then zs[c]? else cells[b * sz + c]? :=fun b c hb2 hc=>by
  rw [M0 (by rw [q1.1];exact hfit)]
  rw [hul]
  by_cases e1:b < off
  ·have:(b + 1) * sz≤off * sz:=Nat.mul_le_mul_right _ e1
   rw [Nat.add_mul] at this
   rw [if_pos (by omega),if_neg (by omega)]
  ·have h2:off * sz≤b * sz:=Nat.mul_le_mul_right _ (by omega)
   rw [if_neg (by omega)]
   by_cases e2:b < off + n
   ·have:(b + 1) * sz≤(off + n) * sz:=Nat.mul_le_mul_right _ e2
    rw [Nat.add_mul,Nat.add_mul] at this
    rw [if_pos (by omega),if_pos (by omega)]
    have h3:b * sz + c - off * sz=(b - off) * zs.length + c:=by rw [hs,Nat.sub_mul];omega
    rw [h3,dN (by omega) (by omega)]
   ·have:(off + n) * sz≤b * sz:=Nat.mul_le_mul_right _ (by omega)
    rw [Nat.add_mul] at this
    rw [if_neg (by omega),if_neg (by omega)]
 have hw:∀k,S k→(w.setRow g (O6 cur (off * sz) (Builtin.zeroCells zs.toArray n).toList).toArray).heap[k]? =w.heap[k]? :=fun k hk=>setRow_other w g k _ (by rintro rfl;exact(hI.fp i hli _ hgF).2.1 hk)
 have hobj:x6 (o6 E i [] ⟨(E i).u,(E i).F,True,True⟩) S (w.setRow g (O6 cur (off * sz) (Builtin.zeroCells zs.toArray n).toList).toArray) i (.row pn e0 false sz enc (xs.take off++List.replicate n z0++xs.drop (off + n))):=by
  refine⟨by rw [Q9];trivial,by rw [Q9];exact hpn,?_⟩
  rw [Q9]
  simp only [Bool.false_eq_true,if_false]
  have hlen:(xs.take off++List.replicate n z0++xs.drop (off + n)).length=xs.length:=by simp;omega
  refine⟨O6 cells (off * sz) (Builtin.zeroCells zs.toArray n).toList,by rw [hlen,hu];exact hown,q2,fun b x' hx' c hc=>?_⟩
  have hbl:b < xs.length:=by rw [← hlen];exact(List.getElem?_eq_some_iff.1 hx').1
  rw [hget b c hbl hc]
  by_cases hb1:b < off
  ·rw [if_neg (by omega)]
   rw [List.append_assoc,List.getElem?_append_left (by simp;omega),List.getElem?_take,if_pos hb1] at hx'
   obtain⟨u',e1,e2⟩:=q5 b x' hx' c hc
   exact⟨u',e1,Rd.move (fun _ h=>h) hw _ _ e2⟩
  ·by_cases hb2:b < off + n
   ·rw [if_pos ⟨by omega,hb2⟩]
    have hzx:x'=z0:=by
     rw [List.getElem?_append_left (by simp;omega),List.getElem?_append_right (by simp;omega),List.getElem?_replicate] at hx'
     split at hx'
     ·exact(Option.some.inj hx').symm
     ·cases hx'
    subst hzx
    refine⟨_,List.getElem?_eq_getElem (by omega),?_⟩
    have hr:=hz0.get c _ (List.getElem?_eq_getElem (by omega))
    rw [Nat.zero_add] at hr
    generalize zs[c]=zc at hr
    generalize enc x' c=tc at hr
    cases hr with
    | v h=>exact⟨rfl,h⟩
    | sl=>exact OX
   ·rw [if_neg (by omega)]
    have hlb:(xs.take off++List.replicate n z0).length=off + n:=by simp;omega
    rw [List.getElem?_append_right (by omega),hlb,List.getElem?_drop,show off + n +(b - (off + n))=b by omega] at hx'
    obtain⟨u',e1,e2⟩:=q5 b x' hx' c hc
    exact⟨u',e1,Rd.move (fun _ h=>h) hw _ _ e2⟩
 have hW:=hI.write (w':=w.setRow g (O6 cur (off * sz) (Builtin.zeroCells zs.toArray n).toList).toArray) (i:=i) (is:=[]) (x:=⟨(E i).u,(E i).F,True,True⟩) (X3 i []) hli (fun q hq=>by simp at hq) trivial (fun a' ha=>by
   simp only [X3,Bool.or_eq_false_iff] at ha
   exact⟨fun q hq=>by simp at hq,fun _=>rfl,fun hr _=>by(rw [ha.1] at hr;cases hr)⟩)
  (fun k hk=> .inl hk) (by simp) rfl rfl rfl (fun k _ hf=>setRow_other w g k _ (by rintro rfl;exact hf hgF)) hobj
 refine⟨.value (.tuple #[]),_,?_,.inl ⟨_,rfl,o6 E i [] ⟨(E i).u,(E i).F,True,True⟩,S,hW.1,O7.cut hW.2 hT,hsz,hdf⟩,fun h=>by(cases h)⟩
 have hm:Array.map ac.eval #[x]=#[.slice (some ⟨g,off * sz,none⟩) n cap']:=by simp [hux]
 simp only [execOp,resolve,invoke,builtin,hm,Sem.run_bind,Sem.run_pure,Result.andThen_ok]
 rw [hrun]
 rfl
end rules
section
variable {cx:Cx} {s:St} {R:Ending→World→Prop}
theorem eO (t i:Nat) {n sz e:Nat} {pn:Option Value} {α:Type} {enc:α→Nat→T} {xs:List α} {todo:List Item} (ht:y9 s.tm t=some (.c (.vw i 0 n sz)))(hb:y9 s.ob i=some (.row pn e false sz enc xs))(hn:n≤xs.length)(hne:0 < xs.length)
  (h:Wt cx ⟨(t,some (.c (.own i)))::I5 (c7 i []) s.tm,(i,some (.row none e false sz enc (xs.take n)))::T4 [] (Y6 (c7 i []) s.ob),s.nx⟩ todo R):Wt cx s todo R:=by
 intro a w hg
 refine h a w ?_
 obtain⟨E,S,hI,hT,hsz,hdf⟩:=hg
 obtain⟨hl,g,cap,hu,hc⟩:=YY hI hb hne
 obtain⟨_,hrd,_,ho⟩:=hI.obs _ _ hb
 simp only [Bool.false_eq_true,if_false] at ho
 obtain⟨cells,h1,h2,h5⟩:=ho
 obtain⟨_,g',m,cp,cp',e1,e2,e3⟩:=hT t _ ht
 rw [hu] at e1
 cases e1
 obtain rfl:cp'=cap:=by omega
 rw [Nat.zero_mul] at e2
 have hobj:x6 (o6 E i [] ⟨.slice (some ⟨g,0,none⟩) n cp',(E i).F,True,True⟩) S w i (.row none e false sz enc (xs.take n)):=by
  refine⟨by rw [Q9];trivial,fun v hv=>(by cases hv),?_⟩
  rw [Q9]
  simp only [Bool.false_eq_true,if_false]
  rw [hu] at h1
  have hlen:(xs.take n).length=n:=by rw [List.length_take];omega
  refine⟨cells.take (n * sz),by rw [hlen];exact yT h1 hn,fun g' hg'=>h2 g' (by rw [hu];exact hg'),fun b x hx c hc=>?_⟩
  rw [List.getElem?_take] at hx
  split at hx
  ·rename_i hbn
   obtain⟨u',q1,q2⟩:=h5 b x hx c hc
   exact⟨u',by rw [List.getElem?_take,if_pos (FX hbn hc)];exact q1,q2⟩
  ·cases hx
 have hW:=hI.write (w':=w) (i:=i) (is:=[]) (x:=⟨.slice (some ⟨g,0,none⟩) n cp',(E i).F,True,True⟩) (c7 i []) hl (fun q hq=>by simp at hq) trivial (fun a' ha'=>by
   simp only [c7,List.any_nil,Bool.or_false] at ha'
   exact⟨fun q hq=>by simp at hq,fun hn'=>(by rw [ha'] at hn';cases hn'),fun hr _=>by(rw [r7 hr] at ha';cases ha')⟩)
  (fun k hk=> .inl hk) (Nat.le_refl _) rfl rfl rfl (fun _ _ _=>rfl) hobj
 refine⟨_,S,hW.1,?_,hsz,hdf⟩
 intro t' v' ht'
 rw [D9] at ht'
 split at ht'
 ·rename_i e
  subst e
  cases ht'
  refine⟨by rw [Q9];trivial,by rw [Q9];exact e2,?_⟩
  rw [e2];rfl
 ·exact O7.cut hW.2 hT t' v' ht'
end
end Go.Eng
