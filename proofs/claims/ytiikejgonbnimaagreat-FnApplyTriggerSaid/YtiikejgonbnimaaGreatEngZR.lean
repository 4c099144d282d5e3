import Derived.Test.YtiikejgonbnimaaGreatEngZP
import Derived.Test.YtiikejgonbnimaaGreatEngZO
set_option linter.unusedVariables false
set_option linter.unusedSimpArgs false
namespace Go.Eng
open Go Go.RowKit
abbrev F3:=List (Int × Int)
def MX (b:F3) (k:Int):Option Int:=(b.find? fun p=>decide (p.1=k)).map (·.2)
def dR (b:F3) (v w:Int):Option F3:=
 if -40≤v∧v≤ -1 then(match MX b (-1 - v) with
  | some o=>if o≠w then none else some ((-1 - v,w)::b)
  | none=>some ((-1 - v,w)::b)) else if v≠w then none else some b
def CT (b:F3):List Int→List Int→Option F3
 | v::vs,w::ws=>match dR b v w with
  | some b'=>CT b' vs ws
  | none=>none
 | _,_=>some b
def LX (b:F3) (f im:Int × List Int):Option F3:=if f.1≠im.1∨f.2.length≠im.2.length then none else CT b f.2 im.2
def X2 (fs2:p9):p9→F3→Option F3
 | [],b=>some b
 | f::fs,b=>fs2.findSome? fun im=>(LX b f im).bind (X2 fs2 fs)
def EW (rs:V9) (fs:p9) (rs2:V9) (fs2:p9):Bool:=(M8 rs fs&&(M8 rs2 fs2&&decide (rs=rs2)))&&(X2 fs2 fs []).isSome
def eT (h:Int→Int) (b:F3):Prop:=∀p∈b,p.2=h (-1 - p.1)
theorem sH {h:Int→Int} {b:F3} (hb:eT h b) {k o:Int} (hl:MX b k=some o):o=h (-1 - k):=by
 unfold MX at hl
 obtain⟨p,hp,rfl⟩:=Option.map_eq_some_iff.mp hl
 have h1:=List.mem_of_find?_eq_some hp
 have h2:=List.find?_some hp
 have h2:p.1=k:=of_decide_eq_true h2
 rw [← h2]
 exact hb p h1
theorem KI {h:Int→Int} {b:F3} (hb:eT h b) {v:Int} (hv:¬(-40≤v∧v≤ -1)→h v=v):∃b',dR b v (h v)=some b'∧eT h b':=by
 unfold dR
 by_cases c: -40≤v∧v≤ -1
 ·rw [if_pos c]
  have h2:eT h ((-1 - v,h v)::b):=fun p hp=>by
   rcases List.mem_cons.1 hp with rfl | hp
   ·show h v=h (-1 - (-1 - v))
    rw [show -1 - (-1 - v)=v by omega]
   ·exact hb p hp
  cases hl:MX b (-1 - v) with
  | none=>exact⟨_,rfl,h2⟩
  | some o=>
   have:=sH hb hl
   rw [show -1 - (-1 - v)=v by omega] at this
   simp only [this,ne_eq,not_true,if_false]
   exact⟨_,rfl,h2⟩
 ·rw [if_neg c,if_neg (by rw [hv c];simp)]
  exact⟨b,rfl,hb⟩
theorem gK {h:Int→Int}:∀(vs:List Int) {b:F3},eT h b→(∀v∈vs,¬(-40≤v∧v≤ -1)→h v=v)→∃b',CT b vs (vs.map h)=some b'∧eT h b'
 | [],b,hb,_=>⟨b,rfl,hb⟩
 | v::vs,b,hb,hv=>by
  obtain⟨b1,e1,h1⟩:=KI hb (hv v (List.mem_cons_self ..))
  obtain⟨b2,e2,h2⟩:=gK vs h1 fun x hx=>hv x (List.mem_cons_of_mem _ hx)
  refine⟨b2,?_,h2⟩
  rw [List.map_cons,CT,e1]
  exact e2
theorem QO {h:Int→Int} {fs2:p9}:∀(fs:p9) {b:F3},eT h b→(∀f∈fs,∀v∈f.2,¬(-40≤v∧v≤ -1)→h v=v)→(∀f∈fs,(f.1,f.2.map h)∈fs2)→(X2 fs2 fs b).isSome=true
 | [],b,hb,_,_=>rfl
 | f::fs,b,hb,hv,hm=>by
  obtain⟨b',e,h'⟩:=gK f.2 hb (hv f (List.mem_cons_self ..))
  have e2:LX b f (f.1,f.2.map h)=some b':=by
   unfold LX
   rw [if_neg (by simp)]
   exact e
  have h2:=QO fs h' (fun x hx=>hv x (List.mem_cons_of_mem _ hx)) (fun x hx=>hm x (List.mem_cons_of_mem _ hx))
  rw [X2,List.findSome?_isSome_iff]
  exact⟨_,hm f (List.mem_cons_self ..),by rw [e2];exact h2⟩
section
variable {rs:V9} {fs a0 a1:p9} {a3 a4:Int} {v:List Int}
theorem pQ {x:Int} (h:kZ (G9 (F9 a0)) x=true):x∈F9 a0:=by
 have:=gW.1 h
 rwa [Z6] at this
theorem TK (hA:R8 rs fs a0 a1 true a3 a4 v=true):M8 rs fs=true∧∃a b:Int,a=v.getD a3.toNat 0∧b=v.getD a4.toNat 0∧a≠b∧(-40≤a∧a≤9)∧(-40≤b∧b≤9)∧(∃f∈fs,a∈f.2)∧∃f∈fs,b∈f.2:=by
 have hT:=V3 (Z7 hA)
 have hd:=hT.dep
 unfold D6 at hd
 rw [if_pos rfl] at hd
 simp only [Bool.and_eq_true,decide_eq_true_eq] at hd
 obtain⟨_,_,_,h1,h2⟩:=hd
 unfold R8 at hA
 rw [if_pos rfl] at hA
 simp only [Bool.and_eq_true,decide_eq_true_eq] at hA
 obtain⟨x,x1,x2,x3⟩:=SS hT (pQ h1)
 obtain⟨y,y1,y2,y3⟩:=SS hT (pQ h2)
 have hx:=gX x1
 have hy:=gX y1
 refine⟨hT.inst,x,y,hx.symm,hy.symm,?_,x2,y2,x3,y3⟩
 rw [← hx,← hy]
 exact hA.2
variable {a b:Int}
theorem tM (hab:a≠b)(ha: -40≤a∧a≤9)(hb: -40≤b∧b≤9)(hn:MV a b=false):∃m,(-40≤m∧m≤ -1)∧IP a b= -1 - m∧TV a b≠m∧(-40≤TV a b∧TV a b≤9)∧((m=a∧TV a b=b)∨(m=b∧TV a b=a)):=by
 unfold MV at hn
 have hn:¬(0≤a∧0≤b):=fun h=>by rw [decide_eq_true h.1,decide_eq_true h.2] at hn;cases hn
 unfold IP TV eG
 by_cases c:b < a
 ·refine⟨b,by omega,?_,?_,?_,.inr ⟨rfl,?_⟩⟩
  ·rw [if_pos c,if_pos (by omega)]
  ·rw [if_neg (by omega)];omega
  ·rw [if_neg (by omega)];exact ha
  ·rw [if_neg (by omega)]
 ·refine⟨a,by omega,?_,?_,?_,.inl ⟨rfl,?_⟩⟩
  ·rw [if_neg c,if_pos (by omega)]
  ·rw [if_pos (by omega)];omega
  ·rw [if_pos (by omega)];exact hb
  ·rw [if_pos (by omega)]
theorem XO {k M:Int} (hk:0≤k∧k≤39)(hM: -40≤M∧M≤9):D5 [k] [M]=true:=by
 refine ZW (m:=1) rfl (fun j hj=>?_) (by simp)
 obtain rfl:j=0:=by omega
 rw [NW rfl rfl rfl,decide_eq_true hk,decide_eq_true hM]
 rfl
theorem JW {m M x:Int} (hm: -40≤m∧m≤ -1)(hM: -40≤M∧M≤9):W0 [-1 - m] [M] x=if x=m then M else x:=by
 have hs:D5 [-1 - m] [M]=true:=XO (by omega) hM
 by_cases c:x=m
 ·rw [if_pos c]
  exact(YR (m:=0) hs (fun j y hj=>by omega) rfl (by rw [c]) rfl).symm
 ·rw [if_neg c]
  refine(NS (m:=1) (fun j y hj hy=>?_) (by simp)).symm
  obtain rfl:j=0:=by omega
  cases hy
  omega
section one
variable {m M:Int} (hi:M8 rs fs=true) (hm: -40≤m∧m≤ -1) (hM: -40≤M∧M≤9)
theorem CM {f:Int × List Int} (hf:f∈fs)(hi:M8 rs fs=true)(hm: -40≤m∧m≤ -1)(hM: -40≤M∧M≤9):v6 rs f.1 (f.2.map (W0 [-1 - m] [M]))=true∧LI rs (LZ [-1 - m] [M] f):=by
 obtain⟨r1,r2,r3⟩:=VX hi
 obtain⟨h1,h2⟩:=r3 f hf
 refine⟨?_,fun hs x hx=>?_⟩
 ·unfold v6 at h1 ⊢
  simp only [Bool.and_eq_true,Bool.not_eq_true',List.any_eq_false] at h1 ⊢
  obtain⟨q1,q2,q3,q4⟩:=h1
  refine⟨q1,q2,?_,fun x hx=>?_⟩
  ·rw [List.length_map];exact q3
  ·obtain⟨y,hy,rfl⟩:=List.mem_map.1 hx
   rw [JW hm hM]
   have:=q4 y hy
   by_cases c:y=m
   ·rw [if_pos c]
    simp [ZZ,hM]
   ·rw [if_neg c]
    exact this
 ·obtain⟨y,hy,rfl⟩:=List.mem_map.1 hx
  have:=h2 hs y hy
  rw [JW hm hM,if_neg (by rintro rfl;exact this hm)]
  exact this
theorem ZQ (hi:M8 rs fs=true)(hm: -40≤m∧m≤ -1)(hM: -40≤M∧M≤9):M8 rs (nZ (fs.map (LZ [-1 - m] [M])))=true:=by
 obtain⟨r1,r2,r3⟩:=VX hi
 refine KO r1 (Nat.le_trans (GM _) (by rw [List.length_map];exact r2)) (fW _) fun f hf=>?_
 rw [U2] at hf
 obtain⟨g,hg,rfl⟩:=List.mem_map.1 hf
 exact CM hg hi hm hM
theorem AT:∀(a b:List Int),a.Pairwise (· < ·)→b.Pairwise (· < ·)→(∀z,z∈a↔z∈b)→a=b
 | [],[],_,_,_=>rfl
 | [],y::b,_,_,h=>absurd ((h y).2 (List.mem_cons_self ..)) (by simp)
 | x::a,[],_,_,h=>absurd ((h x).1 (List.mem_cons_self ..)) (by simp)
 | x::a,y::b,ha,hb,h=>by
  rw [List.pairwise_cons] at ha hb
  have hxy:x=y:=by
   rcases List.mem_cons.1 ((h x).1 (List.mem_cons_self ..)) with e | e
   ·exact e
   ·rcases List.mem_cons.1 ((h y).2 (List.mem_cons_self ..)) with e2 | e2
    ·exact e2.symm
    ·have:=ha.1 y e2
     have:=hb.1 x e
     omega
  subst hxy
  rw [AT a b ha.2 hb.2 fun z=>?_]
  constructor
  ·intro hz
   rcases List.mem_cons.1 ((h z).1 (List.mem_cons_of_mem _ hz)) with e | e
   ·have:=ha.1 z hz;omega
   ·exact e
  ·intro hz
   rcases List.mem_cons.1 ((h z).2 (List.mem_cons_of_mem _ hz)) with e | e
   ·have:=hb.1 z hz;omega
   ·exact e
theorem cM (hm: -40≤m∧m≤ -1)(hM: -40≤M∧M≤9)(hne:M≠m)(h1:∃f∈fs,m∈f.2)(h2:∃f∈fs,M∈f.2):(G9 (m8 (U9 (nZ (fs.map (LZ [-1 - m] [M])))))).length=(G9 (m8 (U9 fs))).length - 1:=by
 have hs:=K6 (m8 (U9 fs))
 have e:G9 (m8 (U9 (nZ (fs.map (LZ [-1 - m] [M])))))=(G9 (m8 (U9 fs))).filter fun z=>decide (z≠ -1 - m):=by
  refine AT _ _ (K6 _) (hs.sublist List.filter_sublist) fun z=>?_
  rw [List.mem_filter,Z0,Z0]
  constructor
  ·rintro⟨f,hf,x,hx,hn,rfl⟩
   rw [U2] at hf
   obtain⟨g,hg,rfl⟩:=List.mem_map.1 hf
   obtain⟨y,hy,rfl⟩:=List.mem_map.1 hx
   rw [JW hm hM] at hn ⊢
   by_cases c:y=m
   ·rw [if_pos c] at hn ⊢
    obtain⟨g2,hg2,h3⟩:=h2
    exact⟨⟨g2,hg2,M,h3,hn,rfl⟩,decide_eq_true (by omega)⟩
   ·rw [if_neg c] at hn ⊢
    exact⟨⟨g,hg,y,hy,hn,rfl⟩,decide_eq_true (by omega)⟩
  ·rintro⟨⟨f,hf,x,hx,hn,rfl⟩,hz⟩
   have hz:=of_decide_eq_true hz
   refine⟨LZ [-1 - m] [M] f,by rw [U2];exact List.mem_map.2 ⟨f,hf,rfl⟩,x,List.mem_map.2 ⟨x,hx,?_⟩,hn,rfl⟩
   rw [JW hm hM,if_neg (by omega)]
 have hk: -1 - m∈G9 (m8 (U9 fs)):=by
  obtain⟨f,hf,h⟩:=h1
  exact Z0.2 ⟨f,hf,m,h,hm,rfl⟩
 have hnd:(G9 (m8 (U9 fs))).Nodup:=hs.imp fun h=>by omega
 rw [e,← List.length_erase_of_mem hk,hnd.erase_eq_filter]
 congr 1
 refine List.filter_congr fun z _=>?_
 by_cases c:z= -1 - m <;> simp [c]
theorem LJ (hi:M8 rs fs=true)(hm: -40≤m∧m≤ -1)(hM: -40≤M∧M≤9):EW rs fs rs (nZ (fs.map (LZ [-1 - m] [M])))=true:=by
 unfold EW
 rw [hi,ZQ hi hm hM,decide_eq_true rfl]
 refine QO (h:=W0 [-1 - m] [M]) fs (fun p hp=>by cases hp) (fun f hf v hv hn=>?_) (fun f hf=>?_)
 ·rw [JW hm hM,if_neg (by rintro rfl;exact hn hm)]
 ·rw [U2]
  exact List.mem_map.2 ⟨f,hf,rfl⟩
end one
theorem jN (hA:R8 rs fs a0 a1 true a3 a4 v=true)(hn:MV (v.getD a3.toNat 0) (v.getD a4.toNat 0)=false):∃fs',fs'=sW rs fs (v.getD a3.toNat 0) (v.getD a4.toNat 0)∧iV rs fs (v.getD a3.toNat 0) (v.getD a4.toNat 0)=rs∧M8 rs fs'=true∧EW rs fs rs fs'=true∧(G9 (m8 (U9 fs'))).length=(G9 (m8 (U9 fs))).length - 1∧1≤(G9 (m8 (U9 fs))).length:=by
 obtain⟨hi,a,b,ha,hb,hab,ra,rb,ma,mb⟩:=TK hA
 rw [← ha,← hb] at hn ⊢
 obtain⟨m,hm,e1,hne,hM,hc⟩:=tM hab ra rb hn
 have hs:D5 [IP a b] [TV a b]=true:=by rw [e1];exact XO (by omega) hM
 obtain⟨p1,p2,p3⟩:=VS hs hi
 refine⟨_,rfl,?_⟩
 unfold sW iV
 rw [hn,if_neg (by simp),if_neg (by simp),p1,p2,e1]
 have h12:(∃f∈fs,m∈f.2)∧∃f∈fs,TV a b∈f.2:=by
  rcases hc with⟨q1,q2⟩ | ⟨q1,q2⟩
  ·rw [q2,q1];exact⟨ma,mb⟩
  ·rw [q2,q1];exact⟨mb,ma⟩
 refine⟨rfl,ZQ hi hm hM,LJ hi hm hM,cM hm hM hne h12.1 h12.2,?_⟩
 obtain⟨f,hf,h⟩:=h12.1
 have: -1 - m∈G9 (m8 (U9 fs)):=Z0.2 ⟨f,hf,m,h,hm,rfl⟩
 exact List.length_pos_of_mem this
end
end Go.Eng
