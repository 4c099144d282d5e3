import Derived.Test.YtiikejgonbnimaaGreatEngZM
set_option linter.unusedVariables false
set_option linter.unusedSimpArgs false
namespace Go.Eng
open Go Go.RowKit
theorem gO {α:Type} {f:α→Nat} (a b:List α):l7 f (a++b)=l7 f a + l7 f b:=by
 unfold l7
 rw [List.length_append,List.map_append,List.sum_append]
 omega
theorem GO {α β:Type} {f:α→β} {l:List α} {r:List β} {m:Nat} {z:α} (hz:l[m]? =some z)(hr:r.length=l.length):((l.take m).map f++r.drop m).set m (f z)=(l.take (m + 1)).map f++r.drop (m + 1):=by
 have hm:=(List.getElem?_eq_some_iff.1 hz).1
 have hl:((l.take m).map f).length=m:=by rw [List.length_map,List.length_take];omega
 rw [List.set_append_right _ _ (by omega),hl,Nat.sub_self,List.drop_eq_getElem_cons (by omega:m < r.length),List.set_cons_zero,List.take_add_one,hz,List.map_append]
 simp
def LZ (ns vs:List Int) (f:Int × List Int):Int × List Int:=(f.1,f.2.map (W0 ns vs))
theorem qR (ns vs:List Int)(l:p9):l7 (fun(x:Int ×(List (Int)))=>(x.2).length) (l.map (LZ ns vs))=l7 (fun(x:Int ×(List (Int)))=>(x.2).length) l:=by
 unfold l7
 rw [List.length_map,List.map_map]
 congr 2
 exact List.map_congr_left fun x _=>by simp [LZ]
def wZ (rs:V9) (fs:p9) (ns vs:List Int):Bool:=D5 ns vs&&M8 rs fs
def HV (rs:V9) (fs:p9) (ns vs:List Int):V9:=if wZ rs fs ns vs=true then rs else []
def LV (rs:V9) (fs:p9) (ns vs:List Int):p9:=if wZ rs fs ns vs=true then nZ (fs.map (LZ ns vs)) else []
section
variable {rs:V9} {fs:p9} {ns vs:List Int}
theorem nO (h:D5 ns vs=false):HV rs fs ns vs=[]∧LV rs fs ns vs=[]∧wZ rs fs ns vs=false:=by
 have:wZ rs fs ns vs=false:=by unfold wZ;rw [h];rfl
 unfold HV LV
 rw [this]
 exact⟨rfl,rfl,rfl⟩
theorem pO (h:M8 rs fs=false):HV rs fs ns vs=[]∧LV rs fs ns vs=[]∧wZ rs fs ns vs=false:=by
 have:wZ rs fs ns vs=false:=by unfold wZ;rw [h,Bool.and_false]
 unfold HV LV
 rw [this]
 exact⟨rfl,rfl,rfl⟩
theorem VS (h:D5 ns vs=true)(h2:M8 rs fs=true):HV rs fs ns vs=rs∧LV rs fs ns vs=nZ (fs.map (LZ ns vs))∧wZ rs fs ns vs=true:=by
 have:wZ rs fs ns vs=true:=by unfold wZ;rw [h,h2];rfl
 unfold HV LV
 rw [this]
 exact⟨rfl,rfl,rfl⟩
theorem WL (rs:V9)(fs:p9)(ns vs:List Int):(HV rs fs ns vs).length≤rs.length:=by
 unfold HV
 split <;> simp
theorem fI (rs:V9)(fs:p9)(ns vs:List Int):l7 (fun(x:Int ×(List (Int)))=>(x.2).length) (LV rs fs ns vs)≤l7 (fun(x:Int ×(List (Int)))=>(x.2).length) fs:=by
 unfold LV
 split
 ·exact Nat.le_trans (kN _) (Nat.le_of_eq (qR ns vs fs))
 ·simp [l7]
theorem NS {v:Int} {m:Nat} (h:∀j y,j < m→ns[j]? =some y→y≠ -1 - v)(hm:ns.length≤m):v=W0 ns vs v:=by
 refine LW fun q=>?_
 have:=C0 (p:=CS (-1 - v)) (l:=ns) (m:=ns.length) (fun j z hj hz=>decide_eq_false (h j z (by omega) hz)) rfl
 omega
theorem vK {v:Int} (h:D5 ns vs=false):v=W0 ns vs v:=LW fun q=>by rw [h] at q;exact absurd q.2.2 (by simp)
theorem YR {v y z:Int} {m:Nat} (hs:D5 ns vs=true)(h:∀j y,j < m→ns[j]? =some y→y≠ -1 - v)(hy:ns[m]? =some y)(he:y= -1 - v)(hz:vs[m]? =some z):z=W0 ns vs v:=by
 have hi:=SZ (p:=CS (-1 - v)) (l:=ns) (m:=m) (fun j z hj hz=>decide_eq_false (h j z hj hz)) hy (decide_eq_true he)
 have hm:=(List.getElem?_eq_some_iff.1 hy).1
 have hst:H6 ns vs m=true:=by
  unfold D5 at hs
  simp only [Bool.and_eq_true,decide_eq_true_eq] at hs
  exact hs.2 m hm
 have hk:0≤y∧y≤39:=by
  unfold H6 at hst
  rw [hy,hz] at hst
  simp only [Bool.and_eq_true,decide_eq_true_eq] at hst
  exact hst.1
 exact zQ (n:=(m:Int)) (by omega) (by omega) hi.symm hs (by simpa using hz)
end
theorem gH {ns vs:List Int} (h:D5 ns vs=true) {k:Nat} {y:Int} (hy:ns[k]? =some y):0≤y∧y≤39:=by
 unfold D5 at h
 simp only [Bool.and_eq_true,decide_eq_true_eq] at h
 have h1:=h.2 k (List.getElem?_eq_some_iff.1 hy).1
 unfold H6 at h1
 rw [hy] at h1
 cases hv:vs[k]? with
 | none=>rw [hv] at h1;simp at h1
 | some v=>
  rw [hv] at h1
  simp only [Bool.and_eq_true,decide_eq_true_eq] at h1
  exact h1.1
theorem vI {l:List Int} {m n:Nat} {c z:Int} (h:∀j y,j < m→l[j]? =some y→y≠c)(hz:l[n]? =some z)(e:n=m)(hne:z≠c):∀j y,j < m + 1→l[j]? =some y→y≠c:=fun j y hj hy=>by
 subst e
 by_cases q:j < n
 ·exact h j y q hy
 ·obtain rfl:j=n:=by omega
  rw [hz] at hy
  cases hy
  exact hne
theorem NQ {α β:Type} {f:α→β} {l:List α} {m:Nat} {z:α} (hz:l[m]? =some z):(l.take m).map f++[f z]=(l.take (m + 1)).map f:=by
 rw [List.take_add_one,hz,Option.toList_some,List.map_append];rfl
theorem UV {x:Int} (h:s7 x):∀y∈ [x],s7 y:=fun y hy=>by
 simp only [List.mem_cons,List.not_mem_nil,or_false] at hy
 subst hy;exact h
def eG (v:Int):Int:=if -40≤v∧v≤ -1 then -1 - v else 0
def IP (a b:Int):Int:=eG (if b < a then b else a)
def TV (a b:Int):Int:=if a < b then b else a
def MV (a b:Int):Bool:=decide (0≤a)&&decide (0≤b)
def iV (rs:V9) (fs:p9) (a b:Int):V9:=if MV a b=true then rs else HV rs fs [IP a b] [TV a b]
def sW (rs:V9) (fs:p9) (a b:Int):p9:=if MV a b=true then fs else LV rs fs [IP a b] [TV a b]
def PV (a b:Int):Int:=if MV a b=true then 2 else 1
section
variable {rs:V9} {fs:p9} {a b:Int}
theorem bJ (h:0≤a)(h2:0≤b):iV rs fs a b=rs∧sW rs fs a b=fs∧PV a b=2:=by
 have:MV a b=true:=by unfold MV;rw [decide_eq_true h,decide_eq_true h2];rfl
 unfold iV sW PV
 rw [this]
 exact⟨rfl,rfl,rfl⟩
theorem bU (h:¬(0≤a∧0≤b)):iV rs fs a b=HV rs fs [IP a b] [TV a b]∧sW rs fs a b=LV rs fs [IP a b] [TV a b]∧PV a b=1:=by
 have:MV a b=false:=by
  unfold MV
  rw [Bool.and_eq_false_iff]
  by_cases h1:0≤a
  ·exact .inr (decide_eq_false fun h2=>h ⟨h1,h2⟩)
  ·exact .inl (decide_eq_false h1)
 unfold iV sW PV
 rw [this]
 exact⟨rfl,rfl,rfl⟩
theorem JL (rs:V9)(fs:p9)(a b:Int):(iV rs fs a b).length≤rs.length:=by
 unfold iV
 split
 ·exact Nat.le_refl _
 ·exact WL _ _ _ _
theorem iJ (rs:V9)(fs:p9)(a b:Int):l7 (fun(x:Int ×(List (Int)))=>(x.2).length) (sW rs fs a b)≤l7 (fun(x:Int ×(List (Int)))=>(x.2).length) fs:=by
 unfold sW
 split
 ·exact Nat.le_refl _
 ·exact fI _ _ _ _
end
def tW (b hs:p9):List Int:=Y5 false (G9 (F9 b)) (G9 (F9 hs))
def K4:List Int→List Int→Int→List Int
 | v,[],_=>v
 | v,x::l,k=>K4 (v.set x.toNat (-1 - k)) l (k + 1)
theorem KU:∀(l:List Int) (v:List Int) (k x:Int),K4 v (l++[x]) k=(K4 v l k).set x.toNat (-1 - (k +(l.length:Int)))
 | [],v,k,x=>by simp [K4]
 | y::l,v,k,x=>by
  rw [List.cons_append,K4,KU l,K4]
  congr 1
  simp only [List.length_cons]
  omega
theorem Y1:∀(l v:List Int) (k:Int),(K4 v l k).length=v.length
 | [],_,_=>rfl
 | x::l,v,k=>by rw [K4,Y1 l,List.length_set]
theorem oU {v l:List Int} {k x:Int} {m:Nat} (hx:l[m]? =some x):(K4 v (l.take m) k).set x.toNat (-1 - (k +(m:Int)))=K4 v (l.take (m + 1)) k:=by
 have hm:=(List.getElem?_eq_some_iff.1 hx).1
 rw [List.take_add_one,hx,Option.toList_some,KU,List.length_take,Nat.min_eq_left (by omega)]
theorem ZU:∀(l v:List Int) (k:Int),(∀x∈v,s7 x)→0≤k→k +(l.length:Int)≤4611686018427387904→∀x∈K4 v l k,s7 x
 | [],v,k,h,_,_=>h
 | y::l,v,k,h,h0,hk=>by
  rw [K4]
  simp only [List.length_cons] at hk
  refine ZU l _ _ (fun x hx=>?_) (by omega) (by omega)
  rcases List.mem_or_eq_of_mem_set hx with hx | rfl
  ·exact h x hx
  ·unfold s7;omega
def FV (w:List Int) (a:Int × List Int):Int × List Int:=match Y8 w a.2 with
 | some q=>(a.1,q)
 | none=>(0,[])
theorem xW {w q:List Int} {a:Int × List Int} (h:Y8 w a.2=some q):FV w a=(a.1,q):=by unfold FV;rw [h]
theorem SQ {w:List Int} {a:Int × List Int} (h:Y8 w a.2=none):FV w a=(0,[]):=by unfold FV;rw [h]
theorem yJ (w:List Int)(a:Int × List Int):(FV w a).2.length≤a.2.length:=by
 unfold FV
 cases h:Y8 w a.2 with
 | none=>simp
 | some q=>simp only;rw [N6 h];omega
theorem DR (w:List Int):∀l:p9,l7 (fun(x:Int ×(List (Int)))=>(x.2).length) (l.map (FV w))≤l7 (fun(x:Int ×(List (Int)))=>(x.2).length) l
 | []=>by simp [l7]
 | a::l=>by
  have:=DR w l
  have:=yJ w a
  unfold l7 at *
  simp only [List.map_cons,List.length_cons,List.sum_cons] at *
  omega
def GT (fs:p9):Int:=W6 (G9 (m8 (U9 fs)))
theorem WS (fs:p9):0≤GT fs∧GT fs≤40:=by
 have hall:∀x∈G9 (m8 (U9 fs)),0≤x∧x≤39:=fun x hx=>by
  rw [Z6] at hx
  unfold m8 at hx
  obtain⟨v,hv,rfl⟩:=List.mem_map.1 hx
  rw [List.mem_filter] at hv
  have h1: -40≤v∧v≤ -1:=of_decide_eq_true hv.2
  unfold nK
  rw [if_pos h1]
  omega
 unfold GT W6
 split
 ·omega
 ·rename_i h0
  have hlt:(G9 (m8 (U9 fs))).length - 1 < (G9 (m8 (U9 fs))).length:=by omega
  have:=hall _ (List.getElem_mem hlt)
  rw [List.getD_eq_getElem?_getD,List.getElem?_eq_getElem hlt,Option.getD_some,s8 (by omega) (by omega)]
  omega
def w3 (fs b hs:p9) (v:List Int):List Int:=K4 v (tW b hs) (GT fs)
def O1 (fs b hs:p9) (v:List Int):p9:=nZ (fs++hs.map (FV (w3 fs b hs v)))
def S3 (fs b hs:p9) (v:List Int):Bool:=decide (40 < GT fs +((tW b hs).length:Int)) ||decide (30 < ((O1 fs b hs v).length:Int))
theorem SJ (fs b hs:p9)(v:List Int):l7 (fun(x:Int ×(List (Int)))=>(x.2).length) (O1 fs b hs v)≤l7 (fun(x:Int ×(List (Int)))=>(x.2).length) fs + l7 (fun(x:Int ×(List (Int)))=>(x.2).length) hs:=by
 refine Nat.le_trans (kN _) ?_
 rw [gO]
 have:=DR (w3 fs b hs v) hs
 omega
section
variable (rs:V9) (fs a0 a1:p9) (a2:Bool) (a3 a4:Int) (v:List Int)
def M4:V9:=if R8 rs fs a0 a1 a2 a3 a4 v=true∧a2=true then iV rs fs (v.getD a3.toNat 0) (v.getD a4.toNat 0) else rs
def E5:p9:=if R8 rs fs a0 a1 a2 a3 a4 v=true then(if a2=true then sW rs fs (v.getD a3.toNat 0) (v.getD a4.toNat 0) else if S3 fs a0 a1 v=true then fs else O1 fs a0 a1 v) else fs
def P0:Int:=if R8 rs fs a0 a1 a2 a3 a4 v=true then(if a2=true then PV (v.getD a3.toNat 0) (v.getD a4.toNat 0) else if S3 fs a0 a1 v=true then 3 else 1) else 0
theorem LM:(M4 rs fs a0 a1 a2 a3 a4 v).length≤rs.length:=by
 unfold M4
 split
 ·exact JL _ _ _ _
 ·exact Nat.le_refl _
theorem rJ:l7 (fun(x:Int ×(List (Int)))=>(x.2).length) (E5 rs fs a0 a1 a2 a3 a4 v)≤l7 (fun(x:Int ×(List (Int)))=>(x.2).length) fs + l7 (fun(x:Int ×(List (Int)))=>(x.2).length) a1:=by
 unfold E5
 split
 ·split
  ·have:=iJ rs fs (v.getD a3.toNat 0) (v.getD a4.toNat 0);omega
  ·split
   ·omega
   ·exact SJ _ _ _ _
 ·omega
end
section
variable {rs:V9} {fs a0 a1:p9} {a2:Bool} {a3 a4:Int} {v:List Int}
theorem gN (h:R8 rs fs a0 a1 a2 a3 a4 v=false):M4 rs fs a0 a1 a2 a3 a4 v=rs∧E5 rs fs a0 a1 a2 a3 a4 v=fs∧P0 rs fs a0 a1 a2 a3 a4 v=0:=by
 unfold M4 E5 P0
 rw [h]
 exact⟨rfl,rfl,rfl⟩
theorem mR {x y:Int} (h:R8 rs fs a0 a1 a2 a3 a4 v=true)(h2:a2=true)(hx:v[a3.toNat]? =some x)(hy:v[a4.toNat]? =some y):M4 rs fs a0 a1 a2 a3 a4 v=iV rs fs x y∧E5 rs fs a0 a1 a2 a3 a4 v=sW rs fs x y∧P0 rs fs a0 a1 a2 a3 a4 v=PV x y:=by
 unfold M4 E5 P0
 rw [if_pos ⟨h,h2⟩,if_pos h,if_pos h2,if_pos h,if_pos h2,List.getD_eq_getElem?_getD,List.getD_eq_getElem?_getD,hx,hy]
 exact⟨rfl,rfl,rfl⟩
theorem lW (h:R8 rs fs a0 a1 a2 a3 a4 v=true)(h2:a2=false)(h3:S3 fs a0 a1 v=true):M4 rs fs a0 a1 a2 a3 a4 v=rs∧E5 rs fs a0 a1 a2 a3 a4 v=fs∧P0 rs fs a0 a1 a2 a3 a4 v=3:=by
 unfold M4 E5 P0
 rw [h,h2,h3]
 exact⟨rfl,rfl,rfl⟩
theorem IR (h:R8 rs fs a0 a1 a2 a3 a4 v=true)(h2:a2=false)(h3:S3 fs a0 a1 v=false):M4 rs fs a0 a1 a2 a3 a4 v=rs∧E5 rs fs a0 a1 a2 a3 a4 v=O1 fs a0 a1 v∧P0 rs fs a0 a1 a2 a3 a4 v=1:=by
 unfold M4 E5 P0
 rw [h,h2,h3]
 exact⟨rfl,rfl,rfl⟩
theorem zY (h:J5 rs fs a0 a1 a2 a3 a4 v=true):M8 rs fs=true∧D6 rs a0 a1 a2 a3 a4=true∧v.length=5:=by
 unfold J5 at h
 simp only [Bool.and_eq_true,decide_eq_true_eq] at h
 exact⟨h.1.1,h.1.2.1,h.1.2.2⟩
theorem mW (h:D6 rs a0 a1 a2 a3 a4=true)(h2:a2=false):I7 rs a1 2=true:=by
 unfold D6 at h
 rw [h2] at h
 simp only [Bool.and_eq_true] at h
 have:=h.2
 simp only [Bool.false_eq_true,if_false,Bool.and_eq_true] at this
 exact this.1
theorem sX (h:R8 rs fs a0 a1 a2 a3 a4 v=true)(h2:a2=false) {x:Int} (hx:x∈tW a0 a1):0≤x∧x < 5:=by
 obtain⟨_,hd,_⟩:=zY (Z7 h)
 unfold tW Y5 at hx
 have hx:=(List.mem_filter.1 hx).1
 exact UW (mW hd h2) (List.any_eq_true.2 ⟨x,hx,decide_eq_true rfl⟩)
theorem aN (h:R8 rs fs a0 a1 a2 a3 a4 v=true)(h2:a2=false):(tW a0 a1).length≤5:=by
 have hs:(tW a0 a1).Pairwise (· < ·):=(K6 _).sublist List.filter_sublist
 have hb:∀x∈tW a0 a1,0≤x∧x < 5:=fun x hx=>sX h h2 hx
 have key:∀(l:List Int) (c:Int),l.Pairwise (· < ·)→(∀x∈l,c≤x∧x < 5)→(l.length:Int)≤max 0 (5 - c):=by
  intro l
  induction l with
  | nil=>intro c _ _;simp;omega
  | cons x l ih=>
   intro c hp hb
   have hp':=List.pairwise_cons.1 hp
   have h1:=hb x (by simp)
   have h2:=ih (x + 1) hp'.2 (fun y hy=>⟨by have:=hp'.1 y hy;omega,(hb y (List.mem_cons_of_mem _ hy)).2⟩)
   simp only [List.length_cons]
   omega
 have:=key _ 0 hs hb
 omega
theorem LO (h:M8 rs fs=true):kR fs:=by
 unfold M8 at h
 simp only [Bool.and_eq_true,decide_eq_true_eq] at h
 have hn:∀j y z,fs[j]? =some y→fs[j + 1]? =some z→S8 y z < 0:=fun j y z hy hz=>by
  have h1:=h.1 (j + 1) (List.getElem?_eq_some_iff.1 hz).1
  rw [A4 hz] at h1
  simp only [Nat.add_sub_cancel,hy,Bool.and_eq_true,Bool.or_eq_true,decide_eq_true_eq] at h1
  rcases h1.2.1 with h2 | h2
  ·omega
  ·exact h2
 refine List.pairwise_iff_getElem.2 fun i j hi hj hij=>?_
 obtain⟨d,rfl⟩:∃d,j=i + 1 + d:=⟨j - i - 1,by omega⟩
 induction d with
 | zero=>exact hn i _ _ (List.getElem?_eq_getElem hi) (List.getElem?_eq_getElem hj)
 | succ d ih=>
  have h1:=ih (by omega) (by omega)
  have h2:=hn (i + 1 + d) _ _ (List.getElem?_eq_getElem (by omega)) (List.getElem?_eq_getElem hj)
  exact aU h1 (by omega)
theorem YT (h:M8 rs fs=true):O1 fs a0 a1 v=G5 fs (a1.map (FV (w3 fs a0 a1 v))):=iM (LO h)
end
theorem bW {fs l:p9} {f:Int × List Int→Int × List Int} {m:Nat} {z:Int × List Int} (hz:l[m]? =some z):c4 (G5 fs ((l.take m).map f)) (f z)=G5 fs ((l.take (m + 1)).map f):=by
 rw [List.take_add_one,hz,Option.toList_some,List.map_append,List.map_cons,List.map_nil,fO]
theorem CQ {fs l:p9} {f:Int × List Int→Int × List Int} {m:Nat} {z:Int × List Int} (hz:l[m]? =some z):(fs++(l.take m).map f)++[f z]=fs++(l.take (m + 1)).map f:=by
 rw [List.take_add_one,hz,Option.toList_some,List.map_append,List.map_cons,List.map_nil,List.append_assoc]
theorem oI {f:Int × List Int→Nat} (fs:p9)(x:Int × List Int):l7 f (c4 fs x)≤l7 f fs +(1 + f x):=by
 unfold c4
 split
 ·omega
 ·have h:=congrArg (l7 f) (List.takeWhile_append_dropWhile (p:=pP x) (l:=fs))
  rw [gO] at h ⊢
  have e:l7 f (x::fs.dropWhile (pP x))=1 + f x + l7 f (fs.dropWhile (pP x)):=by
   unfold l7
   simp only [List.length_cons,List.map_cons,List.sum_cons]
   omega
  omega
theorem BT {f:Int × List Int→Nat}:∀(l fs:p9),l7 f (G5 fs l)≤l7 f fs + l7 f l
 | [],fs=>by simp [G5]
 | x::l,fs=>by
  have h1:=BT (f:=f) l (c4 fs x)
  have h2:=oI (f:=f) fs x
  have e:l7 f (x::l)=1 + f x + l7 f l:=by
   unfold l7
   simp only [List.length_cons,List.map_cons,List.sum_cons]
   omega
  show l7 f (G5 (c4 fs x) l)≤_
  omega
theorem WP {α:Type} {f:α→Nat} {l:List α} {m:Nat}:l7 f (l.take m)≤l7 f l:=tN (List.take_sublist _ _)
theorem uL {fs gs:p9} {ns vs:List Int} {m:Nat} (h:gs=G5 [] ((fs.take m).map (LZ ns vs))):l7 (fun(x:Int ×(List (Int)))=>(x.2).length) gs≤l7 (fun(x:Int ×(List (Int)))=>(x.2).length) fs:=by
 rw [h]
 refine Nat.le_trans (BT _ _) ?_
 rw [qR]
 have:=WP (f:=fun(x:Int ×(List (Int)))=>(x.2).length) (l:=fs) (m:=m)
 have:l7 (fun(x:Int ×(List (Int)))=>(x.2).length) ([]:p9)=0:=rfl
 omega
theorem gJ {fs gs:p9} {ns vs:List Int} {m:Nat} (h:gs=G5 [] ((fs.take m).map (LZ ns vs)))(hm:fs.length≤m):gs=nZ (fs.map (LZ ns vs)):=by
 rw [h,List.take_of_length_le hm];rfl
section
variable {fs gs l:p9} {W q:List Int} {m:Nat} {z:Int × List Int}
theorem gM (h:gs=G5 fs ((l.take m).map (FV W)))(hz:l[m]? =some z)(hq:Y8 W z.2=some q):c4 gs (z.1,q)=G5 fs ((l.take (m + 1)).map (FV W)):=by
 rw [h,← xW hq];exact bW hz
theorem ON (h:gs=G5 fs ((l.take m).map (FV W)))(hz:l[m]? =some z)(hq:Y8 W z.2=none):c4 gs (0,[])=G5 fs ((l.take (m + 1)).map (FV W)):=by
 rw [h,← SQ hq];exact bW hz
theorem nM (hz:l[m]? =some z)(hq:Y8 W z.2=some q):(fs++(l.take m).map (FV W))++[(z.1,q)]=fs++(l.take (m + 1)).map (FV W):=by
 rw [← xW hq];exact CQ hz
theorem eM (hz:l[m]? =some z)(hq:Y8 W z.2=none):(fs++(l.take m).map (FV W))++[(0,[])]=fs++(l.take (m + 1)).map (FV W):=by
 rw [← SQ hq];exact CQ hz
theorem lR (h:gs=G5 fs ((l.take m).map (FV W))):l7 (fun(x:Int ×(List (Int)))=>(x.2).length) gs≤l7 (fun(x:Int ×(List (Int)))=>(x.2).length) fs + l7 (fun(x:Int ×(List (Int)))=>(x.2).length) l:=by
 rw [h]
 refine Nat.le_trans (BT _ _) ?_
 have h1:=DR W (l.take m)
 have:=WP (f:=fun(x:Int ×(List (Int)))=>(x.2).length) (l:=l) (m:=m)
 omega
theorem aJ:l7 (fun(x:Int ×(List (Int)))=>(x.2).length) (fs++(l.take m).map (FV W))≤l7 (fun(x:Int ×(List (Int)))=>(x.2).length) fs + l7 (fun(x:Int ×(List (Int)))=>(x.2).length) l:=by
 rw [gO]
 have h1:=DR W (l.take m)
 have:=WP (f:=fun(x:Int ×(List (Int)))=>(x.2).length) (l:=l) (m:=m)
 omega
end
section
variable {fs a0 a1:p9} {v:List Int}
theorem RO (h:40 < GT fs +((tW a0 a1).length:Int)):S3 fs a0 a1 v=true:=by unfold S3;rw [decide_eq_true h];rfl
theorem qP (h:30 < ((O1 fs a0 a1 v).length:Int)):S3 fs a0 a1 v=true:=by unfold S3;rw [decide_eq_true h,Bool.or_true]
theorem pN (h:¬40 < GT fs +((tW a0 a1).length:Int))(h2:¬30 < ((O1 fs a0 a1 v).length:Int)):S3 fs a0 a1 v=false:=by unfold S3;rw [decide_eq_false h,decide_eq_false h2];rfl
end
section
variable {k w w1 w2:Int} {z:List UInt8 × Int × Bool}
end
section
variable (rs:V9) (fs:p9) (ds:List AN)
end
section
variable {rs:V9} {fs:p9} {ds:List AN}
end
end Go.Eng
