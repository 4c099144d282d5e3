import Derived.Test.YtiikejgonbnimaaGreatEngZN
set_option linter.unusedVariables false
set_option linter.unusedSimpArgs false
set_option linter.unusedSectionVars false
namespace Go.Eng
open Go Go.RowKit
def yH (rs:V9) (f:Int × List Int):Prop:=H2 rs f=true→∀v∈f.2,¬(-40≤v∧v≤ -1)
theorem iS {l:List Int}:¬0 < (G9 (l8 l)).length↔∀v∈l,¬(-40≤v∧v≤ -1):=by
 constructor
 ·intro h v hv hn
  have:lL v∈G9 (l8 l):=by
   rw [d5]
   unfold l8
   exact List.mem_map.2 ⟨v,List.mem_filter.2 ⟨hv,decide_eq_true hn⟩,rfl⟩
  have:=List.length_pos_of_mem this
  omega
 ·intro h h0
  obtain⟨z,hz⟩:=List.exists_mem_of_length_pos h0
  rw [d5] at hz
  unfold l8 at hz
  obtain⟨v,hv,_⟩:=List.mem_map.1 hz
  rw [List.mem_filter] at hv
  exact h v hv.1 (of_decide_eq_true hv.2)
theorem cW {rs:V9} {fs:p9} (h:M8 rs fs=true):Q5 rs=true∧fs.length≤30∧∀f∈fs,v6 rs f.1 f.2=true∧yH rs f:=by
 have h0:=h
 unfold M8 at h
 simp only [Bool.and_eq_true,decide_eq_true_eq] at h
 refine⟨h.2.1,h.2.2,fun f hf=>⟨mV h0 hf,fun hs=>?_⟩⟩
 obtain⟨j,hj⟩:=List.getElem?_of_mem hf
 have h1:=h.1 j (List.getElem?_eq_some_iff.1 hj).1
 rw [D4 hj] at h1
 simp only [Bool.and_eq_true,Bool.not_eq_true'] at h1
 have h2:=h1.2.2
 rw [hs,Bool.true_and] at h2
 exact iS.1 (of_decide_eq_false h2)
theorem pN {rs:V9} {fs:p9} (h:Q5 rs=true)(hl:fs.length≤30)(hs:vR fs)(hf:∀f∈fs,v6 rs f.1 f.2=true∧yH rs f):M8 rs fs=true:=by
 rw [OZ (m:=fs.length) (fun j hj=>?_) (Nat.le_refl _),h,decide_eq_true hl]
 ·rfl
 ·have hz:fs[j]? =some fs[j]:=List.getElem?_eq_getElem hj
  obtain⟨f1,f2⟩:=hf fs[j] (List.getElem_mem hj)
  have f3:(H2 rs fs[j]&&decide (0 < (G9 (l8 fs[j].2)).length))=false:=by
   cases hsr:H2 rs fs[j] with
   | false=>rfl
   | true=>rw [Bool.true_and];exact decide_eq_false (iS.2 (f2 hsr))
  rw [D4 hz,f1,f3]
  by_cases h0:j=0
  ·simp [h0]
  ·have hy:fs[j - 1]? =some fs[j - 1]:=List.getElem?_eq_getElem (by omega)
   rw [hy]
   have:R8 fs[j - 1] fs[j] < 0:=List.pairwise_iff_getElem.1 hs (j - 1) j (by omega) hj (by omega)
   simp [this]
theorem AJ {a b:p9} (ha:vR a)(hb:vR b)(h:∀z∈a,z∈b):a.Sublist b:=by
 have e:b.filter (fun z=>decide (z∈a))=a:=eU _ _ (hb.sublist List.filter_sublist) ha fun z=>by
  rw [List.mem_filter]
  constructor
  ·rintro⟨_,h2⟩;exact of_decide_eq_true h2
  ·intro hz;exact⟨h z hz,decide_eq_true hz⟩
 have:=List.filter_sublist (p:=fun z=>decide (z∈a)) (l:=b)
 rwa [e] at this
theorem NI {a b:p9} (ha:vR a)(hb:vR b)(h:∀z∈a,z∈b) {x:Int × List Int} (hx:x∈b)(hn:x ∉ a):a.length < b.length:=by
 have hs:=AJ ha hb h
 rcases Nat.lt_or_ge a.length b.length with q | q
 ·exact q
 ·have:=hs.eq_of_length_le q
  rw [this] at hn
  exact absurd hx hn
theorem dZ {fs:p9} {z:Int}:z∈G9 (l8 (U9 fs))↔∃f∈fs,∃v∈f.2,(-40≤v∧v≤ -1)∧z= -1 - v:=by
 rw [d5]
 unfold l8 U9
 constructor
 ·intro h
  obtain⟨v,hv,rfl⟩:=List.mem_map.1 h
  rw [List.mem_filter] at hv
  obtain⟨f,hf,hv1⟩:=List.mem_flatMap.1 hv.1
  have hr: -40≤v∧v≤ -1:=of_decide_eq_true hv.2
  refine⟨f,hf,v,hv1,hr,?_⟩
  unfold lL
  rw [if_pos hr]
 ·rintro⟨f,hf,v,hv,hr,rfl⟩
  refine List.mem_map.2 ⟨v,List.mem_filter.2 ⟨List.mem_flatMap.2 ⟨f,hf,hv⟩,decide_eq_true hr⟩,?_⟩
  unfold lL
  rw [if_pos hr]
theorem UY:∀(l v:List Int) (k:Int) (j:Nat),(∀x∈l,x.toNat≠j)→(K4 v l k)[j]? =v[j]?
 | [],_,_,_,_=>rfl
 | x::l,v,k,j,h=>by
  rw [K4,UY l _ _ j (fun y hy=>h y (List.mem_cons_of_mem _ hy)),List.getElem?_set_ne (h x (by simp))]
theorem XQ:∀(l v:List Int) (k:Int) (i:Nat) (x:Int),l.Pairwise (· < ·)→(∀y∈l,0≤y)→l[i]? =some x→x.toNat < v.length→(K4 v l k)[x.toNat]? =some (-1 - (k +(i:Int)))
 | [],_,_,i,_,_,_,h,_=>by simp at h
 | y::l,v,k,0,x,hp,h0,hx,hl=>by
  simp only [List.getElem?_cons_zero,Option.some.injEq] at hx
  subst hx
  have hp':=List.pairwise_cons.1 hp
  rw [K4,UY l _ _ _ (fun z hz=>by
   have h1:=hp'.1 z hz
   have h2:=h0 y (by simp)
   omega),List.getElem?_set_self hl]
  congr 1
  omega
 | y::l,v,k,i + 1,x,hp,h0,hx,hl=>by
  rw [List.getElem?_cons_succ] at hx
  rw [K4,XQ l _ _ i x (List.pairwise_cons.1 hp).2 (fun z hz=>h0 z (List.mem_cons_of_mem _ hz)) hx (by rw [List.length_set];exact hl)]
  congr 1
  omega
theorem lW {l:List Int} {x:Int}:fZ l x=true↔x∈l:=by
 unfold fZ
 rw [List.any_eq_true]
 constructor
 ·rintro⟨y,hy,e⟩
  rw [← of_decide_eq_true e]
  exact hy
 ·intro h
  exact⟨x,h,decide_eq_true rfl⟩
theorem dU {a0 a1:p9} {x:Int}:x∈eW a0 a1↔x∈F9 a1∧x ∉ F9 a0:=by
 unfold eW Z5
 rw [List.mem_filter,d5]
 have:(fZ (G9 (F9 a0)) x == false)=true↔x ∉ F9 a0:=by
  rw [beq_iff_eq]
  constructor
  ·intro h hx
   rw [lW.2 ((d5 _ _).2 hx)] at h
   cases h
  ·intro h
   cases e:fZ (G9 (F9 a0)) x with
   | false=>rfl
   | true=>exact absurd ((d5 _ _).1 (lW.1 e)) h
 rw [this]
theorem AT {l:p9} {x:Int}:x∈F9 l↔∃a∈l,x∈a.2∧0≤x:=by
 unfold F9 C6
 rw [List.mem_flatMap]
 constructor
 ·rintro⟨a,ha,h⟩
  rw [List.mem_filter] at h
  exact⟨a,ha,h.1,of_decide_eq_true h.2⟩
 ·rintro⟨a,ha,h1,h2⟩
  exact⟨a,ha,List.mem_filter.2 ⟨h1,decide_eq_true h2⟩⟩
theorem kV:∀ {ts vs b:List Int},V8 b ts=some vs→∀t∈ts,∃v∈vs,Y5 b t=some v
 | [],_,_,_,t,ht=>by simp at ht
 | t0::ts,vs,b,h,t,ht=>by
  unfold V8 at h
  cases hi:Y5 b t0 with
  | none=>rw [hi] at h;cases h
  | some w=>
   rw [hi] at h
   cases hr:V8 b ts with
   | none=>rw [hr] at h;cases h
   | some ws=>
    rw [hr] at h
    simp only [Option.bind_some,Option.map_some,Option.some.injEq] at h
    subst h
    rcases List.mem_cons.1 ht with rfl | ht
    ·exact⟨w,by simp,hi⟩
    ·obtain⟨v,hv,e⟩:=kV hr t ht
     exact⟨v,List.mem_cons_of_mem _ hv,e⟩
theorem cV:∀ {ts vs b:List Int},V8 b ts=some vs→∀v∈vs,∃t∈ts,Y5 b t=some v
 | [],vs,_,h,v,hv=>by
  simp only [V8,Option.some.injEq] at h
  subst h
  simp at hv
 | t0::ts,vs,b,h,v,hv=>by
  unfold V8 at h
  cases hi:Y5 b t0 with
  | none=>rw [hi] at h;cases h
  | some w=>
   rw [hi] at h
   cases hr:V8 b ts with
   | none=>rw [hr] at h;cases h
   | some ws=>
    rw [hr] at h
    simp only [Option.bind_some,Option.map_some,Option.some.injEq] at h
    subst h
    rcases List.mem_cons.1 hv with rfl | hv
    ·exact⟨t0,by simp,hi⟩
    ·obtain⟨t,ht,e⟩:=cV hr v hv
     exact⟨t,List.mem_cons_of_mem _ ht,e⟩
theorem gS:∀ {ts b:List Int},(∀t∈ts,∃v,Y5 b t=some v)→∃vs,V8 b ts=some vs
 | [],b,_=>⟨[],rfl⟩
 | t::ts,b,h=>by
  obtain⟨v,hv⟩:=h t (by simp)
  obtain⟨vs,hvs⟩:=gS (ts:=ts) (b:=b) (fun t' ht=>h t' (List.mem_cons_of_mem _ ht))
  exact⟨v::vs,by unfold V8;rw [hv,hvs];rfl⟩
theorem AU {b:List Int} {t v:Int} (h:Y5 b t=some v):(-40≤v∧v≤9)∧(0≤t→b[t.toNat]? =some v)∧(t < 0→v= -1 - t):=by
 unfold Y5 at h
 by_cases ht:0≤t
 ·rw [if_pos ht] at h
  cases hb:b[t.toNat]? with
  | none=>rw [hb] at h;cases h
  | some y=>
   rw [hb] at h
   simp only [Option.bind_some] at h
   split at h
   ·cases h;exact⟨by assumption,fun _=>rfl,fun q=>by omega⟩
   ·cases h
 ·rw [if_neg ht] at h
  simp only [Option.bind_some] at h
  split at h
  ·cases h;exact⟨by assumption,fun q=>by omega,fun _=>rfl⟩
  ·cases h
section
variable {rs:V9} {fs a0 a1:p9} {a2:Bool} {a3 a4:Int} {v:List Int}
structure fG (rs:V9) (fs a0 a1:p9) (a2:Bool) (a3 a4:Int) (v:List Int):Prop where
 inst:M8 rs fs=true
 dep:F6 rs a0 a1 a2 a3 a4=true
 len:v.length=5
 vars:bW (G9 (F9 a0)) v=true
 body:∀a∈a0,∃q,V8 v a.2=some q∧(a.1,q)∈fs
theorem K3 (h:G5 rs fs a0 a1 a2 a3 a4 v=true):fG rs fs a0 a1 a2 a3 a4 v:=by
 unfold G5 at h
 simp only [Bool.and_eq_true,decide_eq_true_eq] at h
 obtain⟨⟨h1,h2,h3⟩,h4,h5⟩:=h
 refine⟨h1,h2,h3,h4,fun a ha=>?_⟩
 have:=List.all_eq_true.1 h5 a ha
 unfold W4 at this
 cases hv:V8 v a.2 with
 | none=>rw [hv] at this;cases this
 | some q=>rw [hv] at this;exact⟨q,rfl,aT.1 this⟩
theorem RL {fs':p9} (h:fG rs fs a0 a1 a2 a3 a4 v)(hi:M8 rs fs'=true)(hs:∀f∈fs,f∈fs'):G5 rs fs' a0 a1 a2 a3 a4 v=true:=by
 unfold G5
 rw [hi,h.dep,decide_eq_true h.len,h.vars]
 simp only [Bool.and_self,Bool.true_and]
 refine List.all_eq_true.2 fun a ha=>?_
 obtain⟨q,hq,hf⟩:=h.body a ha
 rw [NY hq]
 exact aT.2 (hs _ hf)
theorem lR (h:fG rs fs a0 a1 a2 a3 a4 v) {x:Int} (hx:x∈F9 a0):∃y,v[x.toNat]? =some y∧(-40≤y∧y≤9)∧∃f∈fs,y∈f.2:=by
 obtain⟨a,ha,h1,h2⟩:=AT.1 hx
 obtain⟨q,hq,hf⟩:=h.body a ha
 obtain⟨y,hy,e⟩:=kV hq x h1
 obtain⟨e1,e2,_⟩:=AU e
 exact⟨y,e2 h2,e1,_,hf,hy⟩
theorem tL (h:fG rs fs a0 a1 a2 a3 a4 v) {x:Int} (h0:0≤x)(h5:x < 5)(hx:x ∉ F9 a0):v[x.toNat]? =some 10:=by
 have hl:x.toNat < v.length:=by rw [h.len];omega
 have h1:=of_decide_eq_true h.vars x.toNat hl
 have hz:v[x.toNat]? =some v[x.toNat]:=List.getElem?_eq_getElem hl
 rw [M0 hz] at h1
 have h2:fZ (G9 (F9 a0)) ((x.toNat:Nat):Int)=false:=by
  cases e:fZ (G9 (F9 a0)) ((x.toNat:Nat):Int) with
  | false=>rfl
  | true=>
   have:=(d5 _ _).1 (lW.1 e)
   rw [show((x.toNat:Nat):Int)=x by omega] at this
   exact absurd this hx
 rw [h2] at h1
 have h3:v[x.toNat]=10:=by simpa using h1
 rw [hz,h3]
theorem bM (h:fG rs fs a0 a1 a2 a3 a4 v)(h2:a2=false) {a:Int × List Int} (ha:a∈a1) {t:Int} (ht:t∈a.2): -10≤t∧t≤4:=by
 have h1:=(X0 (IW h.dep h2)).2.2 a ha
 unfold F5 at h1
 simp only [Bool.and_eq_true,Bool.not_eq_true',List.any_eq_false] at h1
 have h3:n3 t=true:=by simpa using h1.2.2.2 t ht
 unfold n3 at h3
 exact of_decide_eq_true h3
section tgd
variable (hA:P7 rs fs a0 a1 a2 a3 a4 v=true) (h2:a2=false) (hO:wW fs a0 a1 v=false)
include hA h2
theorem KP:(eW a0 a1).Pairwise (· < ·):=(K6 _).sublist List.filter_sublist
include hO
theorem GU:JT fs +((eW a0 a1).length:Int)≤40∧(R1 fs a0 a1 v).length≤30:=by
 unfold wW at hO
 rw [Bool.or_eq_false_iff] at hO
 have h3:=of_decide_eq_false hO.1
 have h4:=of_decide_eq_false hO.2
 omega
theorem tO {i:Nat} {x:Int} (hx:(eW a0 a1)[i]? =some x):(X4 fs a0 a1 v)[x.toNat]? =some (-1 - (JT fs +(i:Int))):=by
 have hT:=K3 (a6 hA)
 have hr:=aX hA h2 (List.mem_of_getElem? hx)
 exact XQ _ _ _ i x (KP hA h2) (fun y hy=>(aX hA h2 hy).1) hx (by rw [hT.len];omega)
theorem yP {x:Int} (h0:0≤x)(hx:x ∉ eW a0 a1):(X4 fs a0 a1 v)[x.toNat]? =v[x.toNat]? :=
 UY _ _ _ _ fun y hy e=>by
  have hr:=(aX hA h2 hy).1
  have:y=x:=by omega
  subst this
  exact hx hy
theorem uS {a:Int × List Int} (ha:a∈a1) {t:Int} (ht:t∈a.2):∃y,Y5 (X4 fs a0 a1 v) t=some y∧((0≤y)∨(∃f∈fs,y∈f.2)∨∃i,i < (eW a0 a1).length∧y= -1 - (JT fs +(i:Int))):=by
 have hT:=K3 (a6 hA)
 have hr:=bM hT h2 ha ht
 have hroom:=GU hA h2 hO
 have hnb:=XS fs
 by_cases h0:0≤t
 ·by_cases hx:t∈F9 a0
  ·obtain⟨y,hy,hv,f,hf,hyf⟩:=lR hT hx
   refine⟨y,?_,.inr (.inl ⟨f,hf,hyf⟩)⟩
   refine dX h0 ?_ hv
   rw [yP hA h2 hO h0 (fun e=>(dU.1 e).2 hx)]
   exact hy
  ·have hm:t∈eW a0 a1:=dU.2 ⟨AT.2 ⟨a,ha,ht,h0⟩,hx⟩
   obtain⟨i,hi⟩:=List.getElem?_of_mem hm
   have hil:=(List.getElem?_eq_some_iff.1 hi).1
   refine⟨_,dX h0 (tO hA h2 hO hi) (by omega),.inr (.inr ⟨i,hil,rfl⟩)⟩
 ·refine⟨-1 - t,?_,.inl (by omega)⟩
  unfold Y5
  rw [if_neg h0,Option.bind_some,if_pos (by omega)]
theorem jV {a:Int × List Int} (ha:a∈a1):∃q,V8 (X4 fs a0 a1 v) a.2=some q∧EV (X4 fs a0 a1 v) a=(a.1,q):=by
 obtain⟨q,hq⟩:=gS (ts:=a.2) (b:=X4 fs a0 a1 v) fun t ht=>by
  obtain⟨y,hy,_⟩:=uS hA h2 hO ha ht
  exact⟨y,hy⟩
 exact⟨q,hq,rW hq⟩
theorem mU {f:Int × List Int} (hf:f∈fs):f∈R1 fs a0 a1 v:=by
 unfold R1
 rw [W2,List.mem_append]
 exact .inl hf
theorem pW {f:Int × List Int}:f∈R1 fs a0 a1 v↔f∈fs∨∃a∈a1,∃q,V8 (X4 fs a0 a1 v) a.2=some q∧f=(a.1,q):=by
 unfold R1
 rw [W2,List.mem_append,List.mem_map]
 constructor
 ·rintro(h | ⟨a,ha,e⟩)
  ·exact .inl h
  ·obtain⟨q,hq,e2⟩:=jV hA h2 hO ha
   exact .inr ⟨a,ha,q,hq,by rw [← e,e2]⟩
 ·rintro(h | ⟨a,ha,q,hq,rfl⟩)
  ·exact .inl h
  ·exact .inr ⟨a,ha,rW hq⟩
theorem iW:M8 rs (R1 fs a0 a1 v)=true:=by
 have hT:=K3 (a6 hA)
 obtain⟨r1,r2,r3⟩:=cW hT.inst
 refine pN r1 (GU hA h2 hO).2 (KW _) fun f hf=>?_
 rcases (pW hA h2 hO).1 hf with hf | ⟨a,ha,q,hq,rfl⟩
 ·exact r3 f hf
 ·have hao:=(X0 (IW hT.dep h2)).2.2 a ha
  obtain⟨_,hr0,hr1,_,x,hx,hl⟩:=A3 (r:=a.1) (ts:=a.2) hao
  have hlq:=N6 hq
  refine⟨?_,fun hs=>?_⟩
  ·unfold v6
   rw [r1,decide_eq_true (by omega),hx]
   simp only [Bool.true_and,Bool.and_eq_true,decide_eq_true_eq,Bool.not_eq_true',List.any_eq_false]
   refine⟨by rw [hlq];exact hl,fun y hy=>?_⟩
   obtain⟨t,_,e⟩:=cV hq y hy
   have:=(AU e).1
   unfold dY
   rw [decide_eq_true this]
   simp
  ·exfalso
   have hd:=hT.dep
   unfold F6 at hd
   rw [h2] at hd
   simp only [Bool.and_eq_true,Bool.false_eq_true,if_false,Bool.not_eq_true',List.any_eq_false] at hd
   have:=hd.2.2.2.2 a ha
   have hs':H2 rs a=true:=hs
   rw [hs'] at this
   exact this rfl
theorem vI:G5 rs (R1 fs a0 a1 v) a0 a1 a2 a3 a4 v=true:=RL (K3 (a6 hA)) (iW hA h2 hO) fun _ hf=>mU hA h2 hO hf
theorem bK:JI v (X4 fs a0 a1 v):=by
 have hT:=K3 (a6 hA)
 refine⟨(X1 _ _ _).symm,fun k y hk hy=>?_⟩
 have hkl:=(List.getElem?_eq_some_iff.1 hk).1
 have:=yP hA h2 hO (x:=(k:Int)) (by omega) (fun e=>by
  have h3:=tL hT (x:=(k:Int)) (by omega) (by rw [hT.len] at hkl;omega) (dU.1 e).2
  rw [show((k:Int)).toNat=k by omega,hk] at h3
  cases h3
  exact hy rfl)
 rw [show((k:Int)).toNat=k by omega] at this
 rw [this]
 exact hk
theorem OK {a:Int × List Int} {q:List Int} (hq:V8 (X4 fs a0 a1 v) a.2=some q):AG (X4 fs a0 a1 v) a (a.1,q):=⟨rfl,fun t w hm=>(xQ hq t w hm).1⟩
theorem wO {fs':p9} (hi:M8 rs fs'=true)(h:∀a∈a1,∀q,V8 (X4 fs a0 a1 v) a.2=some q→(a.1,q)∈fs'):TU rs fs' a1 v=true:=by
 have hT:=K3 (a6 hA)
 obtain⟨p1,p2⟩:=QT (IW hT.dep h2)
 obtain⟨r,hr,_⟩:=CS (fs:=fs') (l:=a1) (bK hA h2 hO) fun a ha=>by
  obtain⟨q,hq,_⟩:=jV hA h2 hO ha
  exact⟨(a.1,q),h a ha q hq,OK hA h2 hO hq⟩
 have hmk:vX rs fs' a1=true:=by
  unfold vX
  simp only [Bool.and_eq_true,decide_eq_true_eq,Bool.not_eq_true',List.any_eq_false]
  refine⟨hi,by omega,fun a ha=>?_⟩
  unfold E7
  simp [p2 a ha]
 unfold TU
 rw [hmk,decide_eq_true hT.len,decide_eq_true (List.length_pos_of_mem hr)]
 rfl
theorem HN:P7 rs (R1 fs a0 a1 v) a0 a1 a2 a3 a4 v=false:=by
 unfold P7
 rw [vI hA h2 hO,h2,wO hA h2 hO (iW hA h2 hO) fun a ha q hq=>(pW hA h2 hO).2 (.inr ⟨a,ha,q,hq,rfl⟩)]
 rfl
theorem uK:fs.length < (R1 fs a0 a1 v).length:=by
 have hT:=K3 (a6 hA)
 have hno:¬∀a∈a1,∀q,V8 (X4 fs a0 a1 v) a.2=some q→(a.1,q)∈fs:=fun h=>by
  have h3:=wO hA h2 hO hT.inst h
  have h4:=hA
  unfold P7 at h4
  rw [h2,h3] at h4
  simp at h4
 obtain⟨a,h⟩:=Classical.not_forall.1 hno
 obtain⟨ha,h⟩:=Classical.not_imp.1 h
 obtain⟨q,h⟩:=Classical.not_forall.1 h
 obtain⟨hq,hn⟩:=Classical.not_imp.1 h
 exact NI (GO hT.inst) (KW _) (fun f hf=>mU hA h2 hO hf) ((pW hA h2 hO).2 (.inr ⟨a,ha,q,hq,rfl⟩)) hn
theorem lK {z:Int} (hz:z∈G9 (l8 (U9 fs))):z < JT fs:=by
 have hs:=K6 (l8 (U9 fs))
 have hr:0≤z∧z≤39:=by
  obtain⟨f,_,y,_,h3,rfl⟩:=dZ.1 hz
  omega
 obtain⟨i,hi⟩:=List.getElem?_of_mem hz
 obtain⟨hl,rfl⟩:=List.getElem?_eq_some_iff.1 hi
 have hlast:(G9 (l8 (U9 fs))).length - 1 < (G9 (l8 (U9 fs))).length:=by omega
 have hm:(G9 (l8 (U9 fs)))[(G9 (l8 (U9 fs))).length - 1]∈G9 (l8 (U9 fs)):=List.getElem_mem hlast
 have hrm:0≤(G9 (l8 (U9 fs)))[(G9 (l8 (U9 fs))).length - 1]∧(G9 (l8 (U9 fs)))[(G9 (l8 (U9 fs))).length - 1]≤39:=by
  obtain⟨f,_,y,_,h3,e⟩:=dZ.1 hm
  rw [e]
  omega
 have hle:(G9 (l8 (U9 fs)))[i]≤(G9 (l8 (U9 fs)))[(G9 (l8 (U9 fs))).length - 1]:=by
  by_cases e:i=(G9 (l8 (U9 fs))).length - 1
  ·exact Int.le_of_eq (by congr 1)
  ·have:=List.pairwise_iff_getElem.1 hs i ((G9 (l8 (U9 fs))).length - 1) hl hlast (by omega)
   omega
 unfold JT W6
 rw [if_neg (by omega),List.getD_eq_getElem?_getD,List.getElem?_eq_getElem hlast,Option.getD_some,v8 (by omega) (by omega)]
 omega
theorem gM:(G9 (l8 (U9 (R1 fs a0 a1 v)))).length=(G9 (l8 (U9 fs))).length +(eW a0 a1).length:=by
 have hT:=K3 (a6 hA)
 have hroom:=GU hA h2 hO
 have hnb:=XS fs
 have e:G9 (l8 (U9 (R1 fs a0 a1 v)))=G9 (l8 (U9 fs))++(List.range (eW a0 a1).length).map fun(i:Nat)=>JT fs +(i:Int):=by
  refine PZ _ _ (K6 _) (List.pairwise_append.2 ⟨K6 _,?_,fun x hx y hy=>?_⟩) fun z=>?_
  ·rw [List.pairwise_map]
   exact List.Pairwise.imp (fun h=>by omega) (List.pairwise_lt_range)
  ·obtain⟨i,_,rfl⟩:=List.mem_map.1 hy
   have:=lK hA h2 hO hx
   omega
  ·rw [List.mem_append,dZ,dZ,List.mem_map]
   constructor
   ·rintro⟨f,hf,y,hy,hr,rfl⟩
    rcases (pW hA h2 hO).1 hf with hf | ⟨a,ha,q,hq,rfl⟩
    ·exact .inl ⟨f,hf,y,hy,hr,rfl⟩
    ·obtain⟨t,ht,et⟩:=cV hq y hy
     obtain⟨y',ey,h3⟩:=uS hA h2 hO ha ht
     rw [et] at ey
     cases ey
     rcases h3 with h3 | ⟨f,hf,hyf⟩ | ⟨i,hi,h3⟩
     ·omega
     ·exact .inl ⟨f,hf,y,hyf,hr,rfl⟩
     ·exact .inr ⟨i,List.mem_range.2 hi,by omega⟩
   ·rintro(⟨f,hf,y,hy,hr,rfl⟩ | ⟨i,hi,rfl⟩)
    ·exact⟨f,mU hA h2 hO hf,y,hy,hr,rfl⟩
    ·have hi:=List.mem_range.1 hi
     have hx:(eW a0 a1)[i]? =some (eW a0 a1)[i]:=List.getElem?_eq_getElem hi
     obtain⟨a,ha,ht,h0⟩:=AT.1 (dU.1 (List.getElem_mem hi)).1
     obtain⟨q,hq,_⟩:=jV hA h2 hO ha
     obtain⟨y,hy,e1⟩:=kV hq _ ht
     have e2:=(AU e1).2.1 h0
     rw [tO hA h2 hO hx] at e2
     cases e2
     exact⟨(a.1,q),(pW hA h2 hO).2 (.inr ⟨a,ha,q,hq,rfl⟩),_,hy,by omega,by omega⟩
 rw [e,List.length_append,List.length_map,List.length_range]
end tgd
end
end Go.Eng
