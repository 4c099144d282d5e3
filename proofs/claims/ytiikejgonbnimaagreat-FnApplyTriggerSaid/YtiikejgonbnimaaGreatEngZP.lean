import Derived.Test.YtiikejgonbnimaaGreatEngZN
set_option linter.unusedVariables false
set_option linter.unusedSimpArgs false
namespace Go.Eng
open Go Go.RowKit
def LI (rs:V9) (f:Int × List Int):Prop:=I2 rs f=true→∀v∈f.2,¬(-40≤v∧v≤ -1)
theorem fS {l:List Int}:¬0 < (G9 (m8 l)).length↔∀v∈l,¬(-40≤v∧v≤ -1):=by
 constructor
 ·intro h v hv hn
  have:nK v∈G9 (m8 l):=by
   rw [Z6]
   unfold m8
   exact List.mem_map.2 ⟨v,List.mem_filter.2 ⟨hv,decide_eq_true hn⟩,rfl⟩
  have:=List.length_pos_of_mem this
  omega
 ·intro h h0
  obtain⟨z,hz⟩:=List.exists_mem_of_length_pos h0
  rw [Z6] at hz
  unfold m8 at hz
  obtain⟨v,hv,_⟩:=List.mem_map.1 hz
  rw [List.mem_filter] at hv
  exact h v hv.1 (of_decide_eq_true hv.2)
theorem VX {rs:V9} {fs:p9} (h:M8 rs fs=true):S5 rs=true∧fs.length≤30∧∀f∈fs,v6 rs f.1 f.2=true∧LI rs f:=by
 have h0:=h
 unfold M8 at h
 simp only [Bool.and_eq_true,decide_eq_true_eq] at h
 refine⟨h.2.1,h.2.2,fun f hf=>⟨mV h0 hf,fun hs=>?_⟩⟩
 obtain⟨j,hj⟩:=List.getElem?_of_mem hf
 have h1:=h.1 j (List.getElem?_eq_some_iff.1 hj).1
 rw [A4 hj] at h1
 simp only [Bool.and_eq_true,Bool.not_eq_true'] at h1
 have h2:=h1.2.2
 rw [hs,Bool.true_and] at h2
 exact fS.1 (of_decide_eq_false h2)
theorem KO {rs:V9} {fs:p9} (h:S5 rs=true)(hl:fs.length≤30)(hs:kR fs)(hf:∀f∈fs,v6 rs f.1 f.2=true∧LI rs f):M8 rs fs=true:=by
 rw [RZ (m:=fs.length) (fun j hj=>?_) (Nat.le_refl _),h,decide_eq_true hl]
 ·rfl
 ·have hz:fs[j]? =some fs[j]:=List.getElem?_eq_getElem hj
  obtain⟨f1,f2⟩:=hf fs[j] (List.getElem_mem hj)
  have f3:(I2 rs fs[j]&&decide (0 < (G9 (m8 fs[j].2)).length))=false:=by
   cases hsr:I2 rs fs[j] with
   | false=>rfl
   | true=>rw [Bool.true_and];exact decide_eq_false (fS.2 (f2 hsr))
  rw [A4 hz,f1,f3]
  by_cases h0:j=0
  ·simp [h0]
  ·have hy:fs[j - 1]? =some fs[j - 1]:=List.getElem?_eq_getElem (by omega)
   rw [hy]
   have:S8 fs[j - 1] fs[j] < 0:=List.pairwise_iff_getElem.1 hs (j - 1) j (by omega) hj (by omega)
   simp [this]
theorem BJ {a b:p9} (ha:kR a)(hb:kR b)(h:∀z∈a,z∈b):a.Sublist b:=by
 have e:b.filter (fun z=>decide (z∈a))=a:=lU _ _ (hb.sublist List.filter_sublist) ha fun z=>by
  rw [List.mem_filter]
  constructor
  ·rintro⟨_,h2⟩;exact of_decide_eq_true h2
  ·intro hz;exact⟨h z hz,decide_eq_true hz⟩
 have:=List.filter_sublist (p:=fun z=>decide (z∈a)) (l:=b)
 rwa [e] at this
theorem DH {a b:p9} (ha:kR a)(hb:kR b)(h:∀z∈a,z∈b) {x:Int × List Int} (hx:x∈b)(hn:x ∉ a):a.length < b.length:=by
 have hs:=BJ ha hb h
 rcases Nat.lt_or_ge a.length b.length with q | q
 ·exact q
 ·have:=hs.eq_of_length_le q
  rw [this] at hn
  exact absurd hx hn
theorem Z0 {fs:p9} {z:Int}:z∈G9 (m8 (U9 fs))↔∃f∈fs,∃v∈f.2,(-40≤v∧v≤ -1)∧z= -1 - v:=by
 rw [Z6]
 unfold m8 U9
 constructor
 ·intro h
  obtain⟨v,hv,rfl⟩:=List.mem_map.1 h
  rw [List.mem_filter] at hv
  obtain⟨f,hf,hv1⟩:=List.mem_flatMap.1 hv.1
  have hr: -40≤v∧v≤ -1:=of_decide_eq_true hv.2
  refine⟨f,hf,v,hv1,hr,?_⟩
  unfold nK
  rw [if_pos hr]
 ·rintro⟨f,hf,v,hv,hr,rfl⟩
  refine List.mem_map.2 ⟨v,List.mem_filter.2 ⟨List.mem_flatMap.2 ⟨f,hf,hv⟩,decide_eq_true hr⟩,?_⟩
  unfold nK
  rw [if_pos hr]
theorem oY:∀(l v:List Int) (k:Int) (j:Nat),(∀x∈l,x.toNat≠j)→(K4 v l k)[j]? =v[j]?
 | [],_,_,_,_=>rfl
 | x::l,v,k,j,h=>by
  rw [K4,oY l _ _ j (fun y hy=>h y (List.mem_cons_of_mem _ hy)),List.getElem?_set_ne (h x (by simp))]
theorem MR:∀(l v:List Int) (k:Int) (i:Nat) (x:Int),l.Pairwise (· < ·)→(∀y∈l,0≤y)→l[i]? =some x→x.toNat < v.length→(K4 v l k)[x.toNat]? =some (-1 - (k +(i:Int)))
 | [],_,_,i,_,_,_,h,_=>by simp at h
 | y::l,v,k,0,x,hp,h0,hx,hl=>by
  simp only [List.getElem?_cons_zero,Option.some.injEq] at hx
  subst hx
  have hp':=List.pairwise_cons.1 hp
  rw [K4,oY l _ _ _ (fun z hz=>by
   have h1:=hp'.1 z hz
   have h2:=h0 y (by simp)
   omega),List.getElem?_set_self hl]
  congr 1
  omega
 | y::l,v,k,i + 1,x,hp,h0,hx,hl=>by
  rw [List.getElem?_cons_succ] at hx
  rw [K4,MR l _ _ i x (List.pairwise_cons.1 hp).2 (fun z hz=>h0 z (List.mem_cons_of_mem _ hz)) hx (by rw [List.length_set];exact hl)]
  congr 1
  omega
theorem gW {l:List Int} {x:Int}:kZ l x=true↔x∈l:=by
 unfold kZ
 rw [List.any_eq_true]
 constructor
 ·rintro⟨y,hy,e⟩
  rw [← of_decide_eq_true e]
  exact hy
 ·intro h
  exact⟨x,h,decide_eq_true rfl⟩
theorem fU {a0 a1:p9} {x:Int}:x∈tW a0 a1↔x∈F9 a1∧x ∉ F9 a0:=by
 unfold tW Y5
 rw [List.mem_filter,Z6]
 have:(kZ (G9 (F9 a0)) x == false)=true↔x ∉ F9 a0:=by
  rw [beq_iff_eq]
  constructor
  ·intro h hx
   rw [gW.2 ((Z6 _ _).2 hx)] at h
   cases h
  ·intro h
   cases e:kZ (G9 (F9 a0)) x with
   | false=>rfl
   | true=>exact absurd ((Z6 _ _).1 (gW.1 e)) h
 rw [this]
theorem zU {l:p9} {x:Int}:x∈F9 l↔∃a∈l,x∈a.2∧0≤x:=by
 unfold F9 C6
 rw [List.mem_flatMap]
 constructor
 ·rintro⟨a,ha,h⟩
  rw [List.mem_filter] at h
  exact⟨a,ha,h.1,of_decide_eq_true h.2⟩
 ·rintro⟨a,ha,h1,h2⟩
  exact⟨a,ha,List.mem_filter.2 ⟨h1,decide_eq_true h2⟩⟩
theorem cV:∀ {ts vs b:List Int},Y8 b ts=some vs→∀t∈ts,∃v∈vs,W5 b t=some v
 | [],_,_,_,t,ht=>by simp at ht
 | t0::ts,vs,b,h,t,ht=>by
  unfold Y8 at h
  cases hi:W5 b t0 with
  | none=>rw [hi] at h;cases h
  | some w=>
   rw [hi] at h
   cases hr:Y8 b ts with
   | none=>rw [hr] at h;cases h
   | some ws=>
    rw [hr] at h
    simp only [Option.bind_some,Option.map_some,Option.some.injEq] at h
    subst h
    rcases List.mem_cons.1 ht with rfl | ht
    ·exact⟨w,by simp,hi⟩
    ·obtain⟨v,hv,e⟩:=cV hr t ht
     exact⟨v,List.mem_cons_of_mem _ hv,e⟩
theorem eV:∀ {ts vs b:List Int},Y8 b ts=some vs→∀v∈vs,∃t∈ts,W5 b t=some v
 | [],vs,_,h,v,hv=>by
  simp only [Y8,Option.some.injEq] at h
  subst h
  simp at hv
 | t0::ts,vs,b,h,v,hv=>by
  unfold Y8 at h
  cases hi:W5 b t0 with
  | none=>rw [hi] at h;cases h
  | some w=>
   rw [hi] at h
   cases hr:Y8 b ts with
   | none=>rw [hr] at h;cases h
   | some ws=>
    rw [hr] at h
    simp only [Option.bind_some,Option.map_some,Option.some.injEq] at h
    subst h
    rcases List.mem_cons.1 hv with rfl | hv
    ·exact⟨t0,by simp,hi⟩
    ·obtain⟨t,ht,e⟩:=eV hr v hv
     exact⟨t,List.mem_cons_of_mem _ ht,e⟩
theorem UT:∀ {ts b:List Int},(∀t∈ts,∃v,W5 b t=some v)→∃vs,Y8 b ts=some vs
 | [],b,_=>⟨[],rfl⟩
 | t::ts,b,h=>by
  obtain⟨v,hv⟩:=h t (by simp)
  obtain⟨vs,hvs⟩:=UT (ts:=ts) (b:=b) (fun t' ht=>h t' (List.mem_cons_of_mem _ ht))
  exact⟨v::vs,by unfold Y8;rw [hv,hvs];rfl⟩
theorem uU {b:List Int} {t v:Int} (h:W5 b t=some v):(-40≤v∧v≤9)∧(0≤t→b[t.toNat]? =some v)∧(t < 0→v= -1 - t):=by
 unfold W5 at h
 by_cases ht:0≤t
 ·rw [if_pos ht] at h
  cases hb:b[t.toNat]? with
  | none=>rw [hb] at h;cases h
  | some y=>
   rw [hb] at h
   simp only [Option.bind_some] at h
   split at h
   ·cases h;exact⟨by assumption,fun _=>rfl,fun q=>by omega⟩
   ·cases h
 ·rw [if_neg ht] at h
  simp only [Option.bind_some] at h
  split at h
  ·cases h;exact⟨by assumption,fun q=>by omega,fun _=>rfl⟩
  ·cases h
section
variable {rs:V9} {fs a0 a1:p9} {a2:Bool} {a3 a4:Int} {v:List Int}
structure gG (rs:V9) (fs a0 a1:p9) (a2:Bool) (a3 a4:Int) (v:List Int):Prop where
 inst:M8 rs fs=true
 dep:D6 rs a0 a1 a2 a3 a4=true
 len:v.length=5
 vars:YX (G9 (F9 a0)) v=true
 body:∀a∈a0,∃q,Y8 v a.2=some q∧(a.1,q)∈fs
theorem V3 (h:J5 rs fs a0 a1 a2 a3 a4 v=true):gG rs fs a0 a1 a2 a3 a4 v:=by
 unfold J5 at h
 simp only [Bool.and_eq_true,decide_eq_true_eq] at h
 obtain⟨⟨h1,h2,h3⟩,h4,h5⟩:=h
 refine⟨h1,h2,h3,h4,fun a ha=>?_⟩
 have:=List.all_eq_true.1 h5 a ha
 unfold U4 at this
 cases hv:Y8 v a.2 with
 | none=>rw [hv] at this;cases this
 | some q=>rw [hv] at this;exact⟨q,rfl,JU.1 this⟩
theorem mK {fs':p9} (h:gG rs fs a0 a1 a2 a3 a4 v)(hi:M8 rs fs'=true)(hs:∀f∈fs,f∈fs'):J5 rs fs' a0 a1 a2 a3 a4 v=true:=by
 unfold J5
 rw [hi,h.dep,decide_eq_true h.len,h.vars]
 simp only [Bool.and_self,Bool.true_and]
 refine List.all_eq_true.2 fun a ha=>?_
 obtain⟨q,hq,hf⟩:=h.body a ha
 rw [sY hq]
 exact JU.2 (hs _ hf)
theorem SS (h:gG rs fs a0 a1 a2 a3 a4 v) {x:Int} (hx:x∈F9 a0):∃y,v[x.toNat]? =some y∧(-40≤y∧y≤9)∧∃f∈fs,y∈f.2:=by
 obtain⟨a,ha,h1,h2⟩:=zU.1 hx
 obtain⟨q,hq,hf⟩:=h.body a ha
 obtain⟨y,hy,e⟩:=cV hq x h1
 obtain⟨e1,e2,_⟩:=uU e
 exact⟨y,e2 h2,e1,_,hf,hy⟩
theorem xL (h:gG rs fs a0 a1 a2 a3 a4 v) {x:Int} (h0:0≤x)(h5:x < 5)(hx:x ∉ F9 a0):v[x.toNat]? =some 10:=by
 have hl:x.toNat < v.length:=by rw [h.len];omega
 have h1:=of_decide_eq_true h.vars x.toNat hl
 have hz:v[x.toNat]? =some v[x.toNat]:=List.getElem?_eq_getElem hl
 rw [B0 hz] at h1
 have h2:kZ (G9 (F9 a0)) ((x.toNat:Nat):Int)=false:=by
  cases e:kZ (G9 (F9 a0)) ((x.toNat:Nat):Int) with
  | false=>rfl
  | true=>
   have:=(Z6 _ _).1 (gW.1 e)
   rw [show((x.toNat:Nat):Int)=x by omega] at this
   exact absurd this hx
 rw [h2] at h1
 have h3:v[x.toNat]=10:=by simpa using h1
 rw [hz,h3]
theorem EN (h:gG rs fs a0 a1 a2 a3 a4 v)(h2:a2=false) {a:Int × List Int} (ha:a∈a1) {t:Int} (ht:t∈a.2): -10≤t∧t≤4:=by
 have h1:=(bZ (mW h.dep h2)).2.2 a ha
 unfold F5 at h1
 simp only [Bool.and_eq_true,Bool.not_eq_true',List.any_eq_false] at h1
 have h3:X4 t=true:=by simpa using h1.2.2.2 t ht
 unfold X4 at h3
 exact of_decide_eq_true h3
section tgd
theorem HP (hA:R8 rs fs a0 a1 a2 a3 a4 v=true)(h2:a2=false):(tW a0 a1).Pairwise (· < ·):=(K6 _).sublist List.filter_sublist
theorem tU (hA:R8 rs fs a0 a1 a2 a3 a4 v=true)(h2:a2=false)(hO:S3 fs a0 a1 v=false):GT fs +((tW a0 a1).length:Int)≤40∧(O1 fs a0 a1 v).length≤30:=by
 unfold S3 at hO
 rw [Bool.or_eq_false_iff] at hO
 have h3:=of_decide_eq_false hO.1
 have h4:=of_decide_eq_false hO.2
 omega
theorem UO (hA:R8 rs fs a0 a1 a2 a3 a4 v=true)(h2:a2=false)(hO:S3 fs a0 a1 v=false) {i:Nat} {x:Int} (hx:(tW a0 a1)[i]? =some x):(w3 fs a0 a1 v)[x.toNat]? =some (-1 - (GT fs +(i:Int))):=by
 have hT:=V3 (Z7 hA)
 have hr:=sX hA h2 (List.mem_of_getElem? hx)
 exact MR _ _ _ i x (HP hA h2) (fun y hy=>(sX hA h2 hy).1) hx (by rw [hT.len];omega)
theorem OR (hA:R8 rs fs a0 a1 a2 a3 a4 v=true)(h2:a2=false)(hO:S3 fs a0 a1 v=false) {x:Int} (h0:0≤x)(hx:x ∉ tW a0 a1):(w3 fs a0 a1 v)[x.toNat]? =v[x.toNat]? :=
 oY _ _ _ _ fun y hy e=>by
  have hr:=(sX hA h2 hy).1
  have:y=x:=by omega
  subst this
  exact hx hy
theorem iS (hA:R8 rs fs a0 a1 a2 a3 a4 v=true)(h2:a2=false)(hO:S3 fs a0 a1 v=false) {a:Int × List Int} (ha:a∈a1) {t:Int} (ht:t∈a.2):∃y,W5 (w3 fs a0 a1 v) t=some y∧((0≤y)∨(∃f∈fs,y∈f.2)∨∃i,i < (tW a0 a1).length∧y= -1 - (GT fs +(i:Int))):=by
 have hT:=V3 (Z7 hA)
 have hr:=EN hT h2 ha ht
 have hroom:=tU hA h2 hO
 have hnb:=WS fs
 by_cases h0:0≤t
 ·by_cases hx:t∈F9 a0
  ·obtain⟨y,hy,hv,f,hf,hyf⟩:=SS hT hx
   refine⟨y,?_,.inr (.inl ⟨f,hf,hyf⟩)⟩
   refine bX h0 ?_ hv
   rw [OR hA h2 hO h0 (fun e=>(fU.1 e).2 hx)]
   exact hy
  ·have hm:t∈tW a0 a1:=fU.2 ⟨zU.2 ⟨a,ha,ht,h0⟩,hx⟩
   obtain⟨i,hi⟩:=List.getElem?_of_mem hm
   have hil:=(List.getElem?_eq_some_iff.1 hi).1
   refine⟨_,bX h0 (UO hA h2 hO hi) (by omega),.inr (.inr ⟨i,hil,rfl⟩)⟩
 ·refine⟨-1 - t,?_,.inl (by omega)⟩
  unfold W5
  rw [if_neg h0,Option.bind_some,if_pos (by omega)]
theorem gV (hA:R8 rs fs a0 a1 a2 a3 a4 v=true)(h2:a2=false)(hO:S3 fs a0 a1 v=false) {a:Int × List Int} (ha:a∈a1):∃q,Y8 (w3 fs a0 a1 v) a.2=some q∧FV (w3 fs a0 a1 v) a=(a.1,q):=by
 obtain⟨q,hq⟩:=UT (ts:=a.2) (b:=w3 fs a0 a1 v) fun t ht=>by
  obtain⟨y,hy,_⟩:=iS hA h2 hO ha ht
  exact⟨y,hy⟩
 exact⟨q,hq,xW hq⟩
theorem kU (hA:R8 rs fs a0 a1 a2 a3 a4 v=true)(h2:a2=false)(hO:S3 fs a0 a1 v=false) {f:Int × List Int} (hf:f∈fs):f∈O1 fs a0 a1 v:=by
 unfold O1
 rw [U2,List.mem_append]
 exact .inl hf
theorem CW (hA:R8 rs fs a0 a1 a2 a3 a4 v=true)(h2:a2=false)(hO:S3 fs a0 a1 v=false) {f:Int × List Int}:f∈O1 fs a0 a1 v↔f∈fs∨∃a∈a1,∃q,Y8 (w3 fs a0 a1 v) a.2=some q∧f=(a.1,q):=by
 unfold O1
 rw [U2,List.mem_append,List.mem_map]
 constructor
 ·rintro(h | ⟨a,ha,e⟩)
  ·exact .inl h
  ·obtain⟨q,hq,e2⟩:=gV hA h2 hO ha
   exact .inr ⟨a,ha,q,hq,by rw [← e,e2]⟩
 ·rintro(h | ⟨a,ha,q,hq,rfl⟩)
  ·exact .inl h
  ·exact .inr ⟨a,ha,xW hq⟩
theorem jW (hA:R8 rs fs a0 a1 a2 a3 a4 v=true)(h2:a2=false)(hO:S3 fs a0 a1 v=false):M8 rs (O1 fs a0 a1 v)=true:=by
 have hT:=V3 (Z7 hA)
 obtain⟨r1,r2,r3⟩:=VX hT.inst
 refine KO r1 (tU hA h2 hO).2 (fW _) fun f hf=>?_
 rcases (CW hA h2 hO).1 hf with hf | ⟨a,ha,q,hq,rfl⟩
 ·exact r3 f hf
 ·have hao:=(bZ (mW hT.dep h2)).2.2 a ha
  obtain⟨_,hr0,hr1,_,x,hx,hl⟩:=B3 (r:=a.1) (ts:=a.2) hao
  have hlq:=N6 hq
  refine⟨?_,fun hs=>?_⟩
  ·unfold v6
   rw [r1,decide_eq_true (by omega),hx]
   simp only [Bool.true_and,Bool.and_eq_true,decide_eq_true_eq,Bool.not_eq_true',List.any_eq_false]
   refine⟨by rw [hlq];exact hl,fun y hy=>?_⟩
   obtain⟨t,_,e⟩:=eV hq y hy
   have:=(uU e).1
   unfold ZZ
   rw [decide_eq_true this]
   simp
  ·exfalso
   have hd:=hT.dep
   unfold D6 at hd
   rw [h2] at hd
   simp only [Bool.and_eq_true,Bool.false_eq_true,if_false,Bool.not_eq_true',List.any_eq_false] at hd
   have:=hd.2.2.2.2 a ha
   have hs':I2 rs a=true:=hs
   rw [hs'] at this
   exact this rfl
theorem dI (hA:R8 rs fs a0 a1 a2 a3 a4 v=true)(h2:a2=false)(hO:S3 fs a0 a1 v=false):J5 rs (O1 fs a0 a1 v) a0 a1 a2 a3 a4 v=true:=mK (V3 (Z7 hA)) (jW hA h2 hO) fun _ hf=>kU hA h2 hO hf
theorem iL (hA:R8 rs fs a0 a1 a2 a3 a4 v=true)(h2:a2=false)(hO:S3 fs a0 a1 v=false):II v (w3 fs a0 a1 v):=by
 have hT:=V3 (Z7 hA)
 refine⟨(Y1 _ _ _).symm,fun k y hk hy=>?_⟩
 have hkl:=(List.getElem?_eq_some_iff.1 hk).1
 have:=OR hA h2 hO (x:=(k:Int)) (by omega) (fun e=>by
  have h3:=xL hT (x:=(k:Int)) (by omega) (by rw [hT.len] at hkl;omega) (fU.1 e).2
  rw [show((k:Int)).toNat=k by omega,hk] at h3
  cases h3
  exact hy rfl)
 rw [show((k:Int)).toNat=k by omega] at this
 rw [this]
 exact hk
theorem kK (hA:R8 rs fs a0 a1 a2 a3 a4 v=true)(h2:a2=false)(hO:S3 fs a0 a1 v=false) {a:Int × List Int} {q:List Int} (hq:Y8 (w3 fs a0 a1 v) a.2=some q):zG (w3 fs a0 a1 v) a (a.1,q):=⟨rfl,fun t w hm=>(tQ hq t w hm).1⟩
theorem CO (hA:R8 rs fs a0 a1 a2 a3 a4 v=true)(h2:a2=false)(hO:S3 fs a0 a1 v=false) {fs':p9} (hi:M8 rs fs'=true)(h:∀a∈a1,∀q,Y8 (w3 fs a0 a1 v) a.2=some q→(a.1,q)∈fs'):wU rs fs' a1 v=true:=by
 have hT:=V3 (Z7 hA)
 obtain⟨p1,p2⟩:=LT (mW hT.dep h2)
 obtain⟨r,hr,_⟩:=ZT (fs:=fs') (l:=a1) (iL hA h2 hO) fun a ha=>by
  obtain⟨q,hq,_⟩:=gV hA h2 hO ha
  exact⟨(a.1,q),h a ha q hq,kK hA h2 hO hq⟩
 have hmk:xX rs fs' a1=true:=by
  unfold xX
  simp only [Bool.and_eq_true,decide_eq_true_eq,Bool.not_eq_true',List.any_eq_false]
  refine⟨hi,by omega,fun a ha=>?_⟩
  unfold G7
  simp [p2 a ha]
 unfold wU
 rw [hmk,decide_eq_true hT.len,decide_eq_true (List.length_pos_of_mem hr)]
 rfl
theorem RN (hA:R8 rs fs a0 a1 a2 a3 a4 v=true)(h2:a2=false)(hO:S3 fs a0 a1 v=false):R8 rs (O1 fs a0 a1 v) a0 a1 a2 a3 a4 v=false:=by
 unfold R8
 rw [dI hA h2 hO,h2,CO hA h2 hO (jW hA h2 hO) fun a ha q hq=>(CW hA h2 hO).2 (.inr ⟨a,ha,q,hq,rfl⟩)]
 rfl
theorem SK (hA:R8 rs fs a0 a1 a2 a3 a4 v=true)(h2:a2=false)(hO:S3 fs a0 a1 v=false):fs.length < (O1 fs a0 a1 v).length:=by
 have hT:=V3 (Z7 hA)
 have hno:¬∀a∈a1,∀q,Y8 (w3 fs a0 a1 v) a.2=some q→(a.1,q)∈fs:=fun h=>by
  have h3:=CO hA h2 hO hT.inst h
  have h4:=hA
  unfold R8 at h4
  rw [h2,h3] at h4
  simp at h4
 obtain⟨a,h⟩:=Classical.not_forall.1 hno
 obtain⟨ha,h⟩:=Classical.not_imp.1 h
 obtain⟨q,h⟩:=Classical.not_forall.1 h
 obtain⟨hq,hn⟩:=Classical.not_imp.1 h
 exact DH (LO hT.inst) (fW _) (fun f hf=>kU hA h2 hO hf) ((CW hA h2 hO).2 (.inr ⟨a,ha,q,hq,rfl⟩)) hn
theorem RM (hA:R8 rs fs a0 a1 a2 a3 a4 v=true)(h2:a2=false)(hO:S3 fs a0 a1 v=false) {z:Int} (hz:z∈G9 (m8 (U9 fs))):z < GT fs:=by
 have hs:=K6 (m8 (U9 fs))
 have hr:0≤z∧z≤39:=by
  obtain⟨f,_,y,_,h3,rfl⟩:=Z0.1 hz
  omega
 obtain⟨i,hi⟩:=List.getElem?_of_mem hz
 obtain⟨hl,rfl⟩:=List.getElem?_eq_some_iff.1 hi
 have hlast:(G9 (m8 (U9 fs))).length - 1 < (G9 (m8 (U9 fs))).length:=by omega
 have hm:(G9 (m8 (U9 fs)))[(G9 (m8 (U9 fs))).length - 1]∈G9 (m8 (U9 fs)):=List.getElem_mem hlast
 have hrm:0≤(G9 (m8 (U9 fs)))[(G9 (m8 (U9 fs))).length - 1]∧(G9 (m8 (U9 fs)))[(G9 (m8 (U9 fs))).length - 1]≤39:=by
  obtain⟨f,_,y,_,h3,e⟩:=Z0.1 hm
  rw [e]
  omega
 have hle:(G9 (m8 (U9 fs)))[i]≤(G9 (m8 (U9 fs)))[(G9 (m8 (U9 fs))).length - 1]:=by
  by_cases e:i=(G9 (m8 (U9 fs))).length - 1
  ·exact Int.le_of_eq (by congr 1)
  ·have:=List.pairwise_iff_getElem.1 hs i ((G9 (m8 (U9 fs))).length - 1) hl hlast (by omega)
   omega
 unfold GT W6
 rw [if_neg (by omega),List.getD_eq_getElem?_getD,List.getElem?_eq_getElem hlast,Option.getD_some,s8 (by omega) (by omega)]
 omega
theorem PN (hA:R8 rs fs a0 a1 a2 a3 a4 v=true)(h2:a2=false)(hO:S3 fs a0 a1 v=false):(G9 (m8 (U9 (O1 fs a0 a1 v)))).length=(G9 (m8 (U9 fs))).length +(tW a0 a1).length:=by
 have hT:=V3 (Z7 hA)
 have hroom:=tU hA h2 hO
 have hnb:=WS fs
 have e:G9 (m8 (U9 (O1 fs a0 a1 v)))=G9 (m8 (U9 fs))++(List.range (tW a0 a1).length).map fun(i:Nat)=>GT fs +(i:Int):=by
  refine EZ _ _ (K6 _) (List.pairwise_append.2 ⟨K6 _,?_,fun x hx y hy=>?_⟩) fun z=>?_
  ·rw [List.pairwise_map]
   exact List.Pairwise.imp (fun h=>by omega) (List.pairwise_lt_range)
  ·obtain⟨i,_,rfl⟩:=List.mem_map.1 hy
   have:=RM hA h2 hO hx
   omega
  ·rw [List.mem_append,Z0,Z0,List.mem_map]
   constructor
   ·rintro⟨f,hf,y,hy,hr,rfl⟩
    rcases (CW hA h2 hO).1 hf with hf | ⟨a,ha,q,hq,rfl⟩
    ·exact .inl ⟨f,hf,y,hy,hr,rfl⟩
    ·obtain⟨t,ht,et⟩:=eV hq y hy
     obtain⟨y',ey,h3⟩:=iS hA h2 hO ha ht
     rw [et] at ey
     cases ey
     rcases h3 with h3 | ⟨f,hf,hyf⟩ | ⟨i,hi,h3⟩
     ·omega
     ·exact .inl ⟨f,hf,y,hyf,hr,rfl⟩
     ·exact .inr ⟨i,List.mem_range.2 hi,by omega⟩
   ·rintro(⟨f,hf,y,hy,hr,rfl⟩ | ⟨i,hi,rfl⟩)
    ·exact⟨f,kU hA h2 hO hf,y,hy,hr,rfl⟩
    ·have hi:=List.mem_range.1 hi
     have hx:(tW a0 a1)[i]? =some (tW a0 a1)[i]:=List.getElem?_eq_getElem hi
     obtain⟨a,ha,ht,h0⟩:=zU.1 (fU.1 (List.getElem_mem hi)).1
     obtain⟨q,hq,_⟩:=gV hA h2 hO ha
     obtain⟨y,hy,e1⟩:=cV hq _ ht
     have e2:=(uU e1).2.1 h0
     rw [UO hA h2 hO hx] at e2
     cases e2
     exact⟨(a.1,q),(CW hA h2 hO).2 (.inr ⟨a,ha,q,hq,rfl⟩),_,hy,by omega,by omega⟩
 rw [e,List.length_append,List.length_map,List.length_range]
end tgd
end
end Go.Eng
