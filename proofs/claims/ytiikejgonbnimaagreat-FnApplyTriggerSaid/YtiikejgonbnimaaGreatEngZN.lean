import Derived.Test.YtiikejgonbnimaaGreatEngZM
set_option linter.unusedVariables false
set_option linter.unusedSimpArgs false
namespace Go.Eng
open Go Go.RowKit
theorem YP {α:Type} {f:α→Nat} (a b:List α):i7 f (a++b)=i7 f a + i7 f b:=by
 unfold i7
 rw [List.length_append,List.map_append,List.sum_append]
 omega
theorem gN {α β:Type} {f:α→β} {l:List α} {r:List β} {m:Nat} {z:α} (hz:l[m]? =some z)(hr:r.length=l.length):((l.take m).map f++r.drop m).set m (f z)=(l.take (m + 1)).map f++r.drop (m + 1):=by
 have hm:=(List.getElem?_eq_some_iff.1 hz).1
 have hl:((l.take m).map f).length=m:=by rw [List.length_map,List.length_take];omega
 rw [List.set_append_right _ _ (by omega),hl,Nat.sub_self,List.drop_eq_getElem_cons (by omega:m < r.length),List.set_cons_zero,List.take_add_one,hz,List.map_append]
 simp
def WZ (ns vs:List Int) (f:Int × List Int):Int × List Int:=(f.1,f.2.map (T0 ns vs))
theorem SS (ns vs:List Int)(l:p9):i7 (fun(x:Int ×(List (Int)))=>(x.2).length) (l.map (WZ ns vs))=i7 (fun(x:Int ×(List (Int)))=>(x.2).length) l:=by
 unfold i7
 rw [List.length_map,List.map_map]
 congr 2
 exact List.map_congr_left fun x _=>by simp [WZ]
def oZ (rs:V9) (fs:p9) (ns vs:List Int):Bool:=J5 ns vs&&M8 rs fs
def TV (rs:V9) (fs:p9) (ns vs:List Int):V9:=if oZ rs fs ns vs=true then rs else []
def RV (rs:V9) (fs:p9) (ns vs:List Int):p9:=if oZ rs fs ns vs=true then qZ (fs.map (WZ ns vs)) else []
section
variable {rs:V9} {fs:p9} {ns vs:List Int}
theorem SO (h:J5 ns vs=false):TV rs fs ns vs=[]∧RV rs fs ns vs=[]∧oZ rs fs ns vs=false:=by
 have:oZ rs fs ns vs=false:=by unfold oZ;rw [h];rfl
 unfold TV RV
 rw [this]
 exact⟨rfl,rfl,rfl⟩
theorem uO (h:M8 rs fs=false):TV rs fs ns vs=[]∧RV rs fs ns vs=[]∧oZ rs fs ns vs=false:=by
 have:oZ rs fs ns vs=false:=by unfold oZ;rw [h,Bool.and_false]
 unfold TV RV
 rw [this]
 exact⟨rfl,rfl,rfl⟩
theorem jR (h:J5 ns vs=true)(h2:M8 rs fs=true):TV rs fs ns vs=rs∧RV rs fs ns vs=qZ (fs.map (WZ ns vs))∧oZ rs fs ns vs=true:=by
 have:oZ rs fs ns vs=true:=by unfold oZ;rw [h,h2];rfl
 unfold TV RV
 rw [this]
 exact⟨rfl,rfl,rfl⟩
theorem bL (rs:V9)(fs:p9)(ns vs:List Int):(TV rs fs ns vs).length≤rs.length:=by
 unfold TV
 split <;> simp
theorem xJ (rs:V9)(fs:p9)(ns vs:List Int):i7 (fun(x:Int ×(List (Int)))=>(x.2).length) (RV rs fs ns vs)≤i7 (fun(x:Int ×(List (Int)))=>(x.2).length) fs:=by
 unfold RV
 split
 ·exact Nat.le_trans (QO _) (Nat.le_of_eq (SS ns vs fs))
 ·simp [i7]
theorem mS {v:Int} {m:Nat} (h:∀j y,j < m→ns[j]? =some y→y≠ -1 - v)(hm:ns.length≤m):v=T0 ns vs v:=by
 refine tW fun q=>?_
 have:=C0 (p:=GS (-1 - v)) (l:=ns) (m:=ns.length) (fun j z hj hz=>decide_eq_false (h j z (by omega) hz)) rfl
 omega
theorem XK {v:Int} (h:J5 ns vs=false):v=T0 ns vs v:=tW fun q=>by rw [h] at q;exact absurd q.2.2 (by simp)
theorem UQ {v y z:Int} {m:Nat} (hs:J5 ns vs=true)(h:∀j y,j < m→ns[j]? =some y→y≠ -1 - v)(hy:ns[m]? =some y)(he:y= -1 - v)(hz:vs[m]? =some z):z=T0 ns vs v:=by
 have hi:=SZ (p:=GS (-1 - v)) (l:=ns) (m:=m) (fun j z hj hz=>decide_eq_false (h j z hj hz)) hy (decide_eq_true he)
 have hm:=(List.getElem?_eq_some_iff.1 hy).1
 have hst:H6 ns vs m=true:=by
  unfold J5 at hs
  simp only [Bool.and_eq_true,decide_eq_true_eq] at hs
  exact hs.2 m hm
 have hk:0≤y∧y≤39:=by
  unfold H6 at hst
  rw [hy,hz] at hst
  simp only [Bool.and_eq_true,decide_eq_true_eq] at hst
  exact hst.1
 exact wP (n:=(m:Int)) (by omega) (by omega) hi.symm hs (by simpa using hz)
end
theorem bH {ns vs:List Int} (h:J5 ns vs=true) {k:Nat} {y:Int} (hy:ns[k]? =some y):0≤y∧y≤39:=by
 unfold J5 at h
 simp only [Bool.and_eq_true,decide_eq_true_eq] at h
 have h1:=h.2 k (List.getElem?_eq_some_iff.1 hy).1
 unfold H6 at h1
 rw [hy] at h1
 cases hv:vs[k]? with
 | none=>rw [hv] at h1;simp at h1
 | some v=>
  rw [hv] at h1
  simp only [Bool.and_eq_true,decide_eq_true_eq] at h1
  exact h1.1
theorem SJ {l:List Int} {m n:Nat} {c z:Int} (h:∀j y,j < m→l[j]? =some y→y≠c)(hz:l[n]? =some z)(e:n=m)(hne:z≠c):∀j y,j < m + 1→l[j]? =some y→y≠c:=fun j y hj hy=>by
 subst e
 by_cases q:j < n
 ·exact h j y q hy
 ·obtain rfl:j=n:=by omega
  rw [hz] at hy
  cases hy
  exact hne
theorem oQ {α β:Type} {f:α→β} {l:List α} {m:Nat} {z:α} (hz:l[m]? =some z):(l.take m).map f++[f z]=(l.take (m + 1)).map f:=by
 rw [List.take_add_one,hz,Option.toList_some,List.map_append];rfl
theorem jU {x:Int} (h:r7 x):∀y∈ [x],r7 y:=fun y hy=>by
 simp only [List.mem_cons,List.not_mem_nil,or_false] at hy
 subst hy;exact h
def VH (v:Int):Int:=if -40≤v∧v≤ -1 then -1 - v else 0
def UP (a b:Int):Int:=VH (if b < a then b else a)
def JV (a b:Int):Int:=if a < b then b else a
def OV (a b:Int):Bool:=decide (0≤a)&&decide (0≤b)
def aV (rs:V9) (fs:p9) (a b:Int):V9:=if OV a b=true then rs else TV rs fs [UP a b] [JV a b]
def nW (rs:V9) (fs:p9) (a b:Int):p9:=if OV a b=true then fs else RV rs fs [UP a b] [JV a b]
def HV (a b:Int):Int:=if OV a b=true then 2 else 1
section
variable {rs:V9} {fs:p9} {a b:Int}
theorem YM (h:0≤a)(h2:0≤b):aV rs fs a b=rs∧nW rs fs a b=fs∧HV a b=2:=by
 have:OV a b=true:=by unfold OV;rw [decide_eq_true h,decide_eq_true h2];rfl
 unfold aV nW HV
 rw [this]
 exact⟨rfl,rfl,rfl⟩
theorem aU (h:¬(0≤a∧0≤b)):aV rs fs a b=TV rs fs [UP a b] [JV a b]∧nW rs fs a b=RV rs fs [UP a b] [JV a b]∧HV a b=1:=by
 have:OV a b=false:=by
  unfold OV
  rw [Bool.and_eq_false_iff]
  by_cases h1:0≤a
  ·exact .inr (decide_eq_false fun h2=>h ⟨h1,h2⟩)
  ·exact .inl (decide_eq_false h1)
 unfold aV nW HV
 rw [this]
 exact⟨rfl,rfl,rfl⟩
theorem GM (rs:V9)(fs:p9)(a b:Int):(aV rs fs a b).length≤rs.length:=by
 unfold aV
 split
 ·exact Nat.le_refl _
 ·exact bL _ _ _ _
theorem uI (rs:V9)(fs:p9)(a b:Int):i7 (fun(x:Int ×(List (Int)))=>(x.2).length) (nW rs fs a b)≤i7 (fun(x:Int ×(List (Int)))=>(x.2).length) fs:=by
 unfold nW
 split
 ·exact Nat.le_refl _
 ·exact xJ _ _ _ _
end
def eW (b hs:p9):List Int:=Z5 false (G9 (F9 b)) (G9 (F9 hs))
def K4:List Int→List Int→Int→List Int
 | v,[],_=>v
 | v,x::l,k=>K4 (v.set x.toNat (-1 - k)) l (k + 1)
theorem FU:∀(l:List Int) (v:List Int) (k x:Int),K4 v (l++[x]) k=(K4 v l k).set x.toNat (-1 - (k +(l.length:Int)))
 | [],v,k,x=>by simp [K4]
 | y::l,v,k,x=>by
  rw [List.cons_append,K4,FU l,K4]
  congr 1
  simp only [List.length_cons]
  omega
theorem X1:∀(l v:List Int) (k:Int),(K4 v l k).length=v.length
 | [],_,_=>rfl
 | x::l,v,k=>by rw [K4,X1 l,List.length_set]
theorem nU {v l:List Int} {k x:Int} {m:Nat} (hx:l[m]? =some x):(K4 v (l.take m) k).set x.toNat (-1 - (k +(m:Int)))=K4 v (l.take (m + 1)) k:=by
 have hm:=(List.getElem?_eq_some_iff.1 hx).1
 rw [List.take_add_one,hx,Option.toList_some,FU,List.length_take,Nat.min_eq_left (by omega)]
theorem nT:∀(l v:List Int) (k:Int),(∀x∈v,r7 x)→0≤k→k +(l.length:Int)≤4611686018427387904→∀x∈K4 v l k,r7 x
 | [],v,k,h,_,_=>h
 | y::l,v,k,h,h0,hk=>by
  rw [K4]
  simp only [List.length_cons] at hk
  refine nT l _ _ (fun x hx=>?_) (by omega) (by omega)
  rcases List.mem_or_eq_of_mem_set hx with hx | rfl
  ·exact h x hx
  ·unfold r7;omega
def EV (w:List Int) (a:Int × List Int):Int × List Int:=match V8 w a.2 with
 | some q=>(a.1,q)
 | none=>(0,[])
theorem rW {w q:List Int} {a:Int × List Int} (h:V8 w a.2=some q):EV w a=(a.1,q):=by unfold EV;rw [h]
theorem gQ {w:List Int} {a:Int × List Int} (h:V8 w a.2=none):EV w a=(0,[]):=by unfold EV;rw [h]
theorem fI (w:List Int)(a:Int × List Int):(EV w a).2.length≤a.2.length:=by
 unfold EV
 cases h:V8 w a.2 with
 | none=>simp
 | some q=>simp only;rw [N6 h];omega
theorem sR (w:List Int):∀l:p9,i7 (fun(x:Int ×(List (Int)))=>(x.2).length) (l.map (EV w))≤i7 (fun(x:Int ×(List (Int)))=>(x.2).length) l
 | []=>by simp [i7]
 | a::l=>by
  have:=sR w l
  have:=fI w a
  unfold i7 at *
  simp only [List.map_cons,List.length_cons,List.sum_cons] at *
  omega
def JT (fs:p9):Int:=W6 (G9 (l8 (U9 fs)))
theorem XS (fs:p9):0≤JT fs∧JT fs≤40:=by
 have hall:∀x∈G9 (l8 (U9 fs)),0≤x∧x≤39:=fun x hx=>by
  rw [d5] at hx
  unfold l8 at hx
  obtain⟨v,hv,rfl⟩:=List.mem_map.1 hx
  rw [List.mem_filter] at hv
  have h1: -40≤v∧v≤ -1:=of_decide_eq_true hv.2
  unfold lL
  rw [if_pos h1]
  omega
 unfold JT W6
 split
 ·omega
 ·rename_i h0
  have hlt:(G9 (l8 (U9 fs))).length - 1 < (G9 (l8 (U9 fs))).length:=by omega
  have:=hall _ (List.getElem_mem hlt)
  rw [List.getD_eq_getElem?_getD,List.getElem?_eq_getElem hlt,Option.getD_some,v8 (by omega) (by omega)]
  omega
def X4 (fs b hs:p9) (v:List Int):List Int:=K4 v (eW b hs) (JT fs)
def R1 (fs b hs:p9) (v:List Int):p9:=qZ (fs++hs.map (EV (X4 fs b hs v)))
def wW (fs b hs:p9) (v:List Int):Bool:=decide (40 < JT fs +((eW b hs).length:Int)) ||decide (30 < ((R1 fs b hs v).length:Int))
theorem aI (fs b hs:p9)(v:List Int):i7 (fun(x:Int ×(List (Int)))=>(x.2).length) (R1 fs b hs v)≤i7 (fun(x:Int ×(List (Int)))=>(x.2).length) fs + i7 (fun(x:Int ×(List (Int)))=>(x.2).length) hs:=by
 refine Nat.le_trans (QO _) ?_
 rw [YP]
 have:=sR (X4 fs b hs v) hs
 omega
section
variable (rs:V9) (fs a0 a1:p9) (a2:Bool) (a3 a4:Int) (v:List Int)
def M4:V9:=if P7 rs fs a0 a1 a2 a3 a4 v=true∧a2=true then aV rs fs (v.getD a3.toNat 0) (v.getD a4.toNat 0) else rs
def D5:p9:=if P7 rs fs a0 a1 a2 a3 a4 v=true then(if a2=true then nW rs fs (v.getD a3.toNat 0) (v.getD a4.toNat 0) else if wW fs a0 a1 v=true then fs else R1 fs a0 a1 v) else fs
def F0:Int:=if P7 rs fs a0 a1 a2 a3 a4 v=true then(if a2=true then HV (v.getD a3.toNat 0) (v.getD a4.toNat 0) else if wW fs a0 a1 v=true then 3 else 1) else 0
theorem MM:(M4 rs fs a0 a1 a2 a3 a4 v).length≤rs.length:=by
 unfold M4
 split
 ·exact GM _ _ _ _
 ·exact Nat.le_refl _
theorem kJ:i7 (fun(x:Int ×(List (Int)))=>(x.2).length) (D5 rs fs a0 a1 a2 a3 a4 v)≤i7 (fun(x:Int ×(List (Int)))=>(x.2).length) fs + i7 (fun(x:Int ×(List (Int)))=>(x.2).length) a1:=by
 unfold D5
 split
 ·split
  ·have:=uI rs fs (v.getD a3.toNat 0) (v.getD a4.toNat 0);omega
  ·split
   ·omega
   ·exact aI _ _ _ _
 ·omega
end
section
variable {rs:V9} {fs a0 a1:p9} {a2:Bool} {a3 a4:Int} {v:List Int}
theorem ZO (h:P7 rs fs a0 a1 a2 a3 a4 v=false):M4 rs fs a0 a1 a2 a3 a4 v=rs∧D5 rs fs a0 a1 a2 a3 a4 v=fs∧F0 rs fs a0 a1 a2 a3 a4 v=0:=by
 unfold M4 D5 F0
 rw [h]
 exact⟨rfl,rfl,rfl⟩
theorem TS {x y:Int} (h:P7 rs fs a0 a1 a2 a3 a4 v=true)(h2:a2=true)(hx:v[a3.toNat]? =some x)(hy:v[a4.toNat]? =some y):M4 rs fs a0 a1 a2 a3 a4 v=aV rs fs x y∧D5 rs fs a0 a1 a2 a3 a4 v=nW rs fs x y∧F0 rs fs a0 a1 a2 a3 a4 v=HV x y:=by
 unfold M4 D5 F0
 rw [if_pos ⟨h,h2⟩,if_pos h,if_pos h2,if_pos h,if_pos h2,List.getD_eq_getElem?_getD,List.getD_eq_getElem?_getD,hx,hy]
 exact⟨rfl,rfl,rfl⟩
theorem fW (h:P7 rs fs a0 a1 a2 a3 a4 v=true)(h2:a2=false)(h3:wW fs a0 a1 v=true):M4 rs fs a0 a1 a2 a3 a4 v=rs∧D5 rs fs a0 a1 a2 a3 a4 v=fs∧F0 rs fs a0 a1 a2 a3 a4 v=3:=by
 unfold M4 D5 F0
 rw [h,h2,h3]
 exact⟨rfl,rfl,rfl⟩
theorem oP (h:P7 rs fs a0 a1 a2 a3 a4 v=true)(h2:a2=false)(h3:wW fs a0 a1 v=false):M4 rs fs a0 a1 a2 a3 a4 v=rs∧D5 rs fs a0 a1 a2 a3 a4 v=R1 fs a0 a1 v∧F0 rs fs a0 a1 a2 a3 a4 v=1:=by
 unfold M4 D5 F0
 rw [h,h2,h3]
 exact⟨rfl,rfl,rfl⟩
theorem qY (h:G5 rs fs a0 a1 a2 a3 a4 v=true):M8 rs fs=true∧F6 rs a0 a1 a2 a3 a4=true∧v.length=5:=by
 unfold G5 at h
 simp only [Bool.and_eq_true,decide_eq_true_eq] at h
 exact⟨h.1.1,h.1.2.1,h.1.2.2⟩
theorem IW (h:F6 rs a0 a1 a2 a3 a4=true)(h2:a2=false):H7 rs a1 2=true:=by
 unfold F6 at h
 rw [h2] at h
 simp only [Bool.and_eq_true] at h
 have:=h.2
 simp only [Bool.false_eq_true,if_false,Bool.and_eq_true] at this
 exact this.1
theorem aX (h:P7 rs fs a0 a1 a2 a3 a4 v=true)(h2:a2=false) {x:Int} (hx:x∈eW a0 a1):0≤x∧x < 5:=by
 obtain⟨_,hd,_⟩:=qY (a6 h)
 unfold eW Z5 at hx
 have hx:=(List.mem_filter.1 hx).1
 exact WW (IW hd h2) (List.any_eq_true.2 ⟨x,hx,decide_eq_true rfl⟩)
theorem cN (h:P7 rs fs a0 a1 a2 a3 a4 v=true)(h2:a2=false):(eW a0 a1).length≤5:=by
 have hs:(eW a0 a1).Pairwise (· < ·):=(K6 _).sublist List.filter_sublist
 have hb:∀x∈eW a0 a1,0≤x∧x < 5:=fun x hx=>aX h h2 hx
 have key:∀(l:List Int) (c:Int),l.Pairwise (· < ·)→(∀x∈l,c≤x∧x < 5)→(l.length:Int)≤max 0 (5 - c):=by
  intro l
  induction l with
  | nil=>intro c _ _;simp;omega
  | cons x l ih=>
   intro c hp hb
   have hp':=List.pairwise_cons.1 hp
   have h1:=hb x (by simp)
   have h2:=ih (x + 1) hp'.2 (fun y hy=>⟨by have:=hp'.1 y hy;omega,(hb y (List.mem_cons_of_mem _ hy)).2⟩)
   simp only [List.length_cons]
   omega
 have:=key _ 0 hs hb
 omega
theorem GO (h:M8 rs fs=true):vR fs:=by
 unfold M8 at h
 simp only [Bool.and_eq_true,decide_eq_true_eq] at h
 have hn:∀j y z,fs[j]? =some y→fs[j + 1]? =some z→R8 y z < 0:=fun j y z hy hz=>by
  have h1:=h.1 (j + 1) (List.getElem?_eq_some_iff.1 hz).1
  rw [D4 hz] at h1
  simp only [Nat.add_sub_cancel,hy,Bool.and_eq_true,Bool.or_eq_true,decide_eq_true_eq] at h1
  rcases h1.2.1 with h2 | h2
  ·omega
  ·exact h2
 refine List.pairwise_iff_getElem.2 fun i j hi hj hij=>?_
 obtain⟨d,rfl⟩:∃d,j=i + 1 + d:=⟨j - i - 1,by omega⟩
 induction d with
 | zero=>exact hn i _ _ (List.getElem?_eq_getElem hi) (List.getElem?_eq_getElem hj)
 | succ d ih=>
  have h1:=ih (by omega) (by omega)
  have h2:=hn (i + 1 + d) _ _ (List.getElem?_eq_getElem (by omega)) (List.getElem?_eq_getElem hj)
  exact gU h1 (by omega)
theorem NS (h:M8 rs fs=true):R1 fs a0 a1 v=I5 fs (a1.map (EV (X4 fs a0 a1 v))):=wM (GO h)
end
theorem QX {fs l:p9} {f:Int × List Int→Int × List Int} {m:Nat} {z:Int × List Int} (hz:l[m]? =some z):V5 (I5 fs ((l.take m).map f)) (f z)=I5 fs ((l.take (m + 1)).map f):=by
 rw [List.take_add_one,hz,Option.toList_some,List.map_append,List.map_cons,List.map_nil,WP]
theorem fQ {fs l:p9} {f:Int × List Int→Int × List Int} {m:Nat} {z:Int × List Int} (hz:l[m]? =some z):(fs++(l.take m).map f)++[f z]=fs++(l.take (m + 1)).map f:=by
 rw [List.take_add_one,hz,Option.toList_some,List.map_append,List.map_cons,List.map_nil,List.append_assoc]
theorem IJ {f:Int × List Int→Nat} (fs:p9)(x:Int × List Int):i7 f (V5 fs x)≤i7 f fs +(1 + f x):=by
 unfold V5
 split
 ·omega
 ·have h:=congrArg (i7 f) (List.takeWhile_append_dropWhile (p:=fP x) (l:=fs))
  rw [YP] at h ⊢
  have e:i7 f (x::fs.dropWhile (fP x))=1 + f x + i7 f (fs.dropWhile (fP x)):=by
   unfold i7
   simp only [List.length_cons,List.map_cons,List.sum_cons]
   omega
  omega
theorem zU {f:Int × List Int→Nat}:∀(l fs:p9),i7 f (I5 fs l)≤i7 f fs + i7 f l
 | [],fs=>by simp [I5]
 | x::l,fs=>by
  have h1:=zU (f:=f) l (V5 fs x)
  have h2:=IJ (f:=f) fs x
  have e:i7 f (x::l)=1 + f x + i7 f l:=by
   unfold i7
   simp only [List.length_cons,List.map_cons,List.sum_cons]
   omega
  show i7 f (I5 (V5 fs x) l)≤_
  omega
theorem kO {α:Type} {f:α→Nat} {l:List α} {m:Nat}:i7 f (l.take m)≤i7 f l:=sO (List.take_sublist _ _)
theorem GK {fs gs:p9} {ns vs:List Int} {m:Nat} (h:gs=I5 [] ((fs.take m).map (WZ ns vs))):i7 (fun(x:Int ×(List (Int)))=>(x.2).length) gs≤i7 (fun(x:Int ×(List (Int)))=>(x.2).length) fs:=by
 rw [h]
 refine Nat.le_trans (zU _ _) ?_
 rw [SS]
 have:=kO (f:=fun(x:Int ×(List (Int)))=>(x.2).length) (l:=fs) (m:=m)
 have:i7 (fun(x:Int ×(List (Int)))=>(x.2).length) ([]:p9)=0:=rfl
 omega
theorem cI {fs gs:p9} {ns vs:List Int} {m:Nat} (h:gs=I5 [] ((fs.take m).map (WZ ns vs)))(hm:fs.length≤m):gs=qZ (fs.map (WZ ns vs)):=by
 rw [h,List.take_of_length_le hm];rfl
section
variable {fs gs l:p9} {W q:List Int} {m:Nat} {z:Int × List Int}
theorem WN (h:gs=I5 fs ((l.take m).map (EV W)))(hz:l[m]? =some z)(hq:V8 W z.2=some q):V5 gs (z.1,q)=I5 fs ((l.take (m + 1)).map (EV W)):=by
 rw [h,← rW hq];exact QX hz
theorem XN (h:gs=I5 fs ((l.take m).map (EV W)))(hz:l[m]? =some z)(hq:V8 W z.2=none):V5 gs (0,[])=I5 fs ((l.take (m + 1)).map (EV W)):=by
 rw [h,← gQ hq];exact QX hz
theorem JN (hz:l[m]? =some z)(hq:V8 W z.2=some q):(fs++(l.take m).map (EV W))++[(z.1,q)]=fs++(l.take (m + 1)).map (EV W):=by
 rw [← rW hq];exact fQ hz
theorem RN (hz:l[m]? =some z)(hq:V8 W z.2=none):(fs++(l.take m).map (EV W))++[(0,[])]=fs++(l.take (m + 1)).map (EV W):=by
 rw [← gQ hq];exact fQ hz
theorem fR (h:gs=I5 fs ((l.take m).map (EV W))):i7 (fun(x:Int ×(List (Int)))=>(x.2).length) gs≤i7 (fun(x:Int ×(List (Int)))=>(x.2).length) fs + i7 (fun(x:Int ×(List (Int)))=>(x.2).length) l:=by
 rw [h]
 refine Nat.le_trans (zU _ _) ?_
 have h1:=sR W (l.take m)
 have:=kO (f:=fun(x:Int ×(List (Int)))=>(x.2).length) (l:=l) (m:=m)
 omega
theorem IK:i7 (fun(x:Int ×(List (Int)))=>(x.2).length) (fs++(l.take m).map (EV W))≤i7 (fun(x:Int ×(List (Int)))=>(x.2).length) fs + i7 (fun(x:Int ×(List (Int)))=>(x.2).length) l:=by
 rw [YP]
 have h1:=sR W (l.take m)
 have:=kO (f:=fun(x:Int ×(List (Int)))=>(x.2).length) (l:=l) (m:=m)
 omega
end
section
variable {fs a0 a1:p9} {v:List Int}
theorem LO (h:40 < JT fs +((eW a0 a1).length:Int)):wW fs a0 a1 v=true:=by unfold wW;rw [decide_eq_true h];rfl
theorem nQ (h:30 < ((R1 fs a0 a1 v).length:Int)):wW fs a0 a1 v=true:=by unfold wW;rw [decide_eq_true h,Bool.or_true]
theorem nN (h:¬40 < JT fs +((eW a0 a1).length:Int))(h2:¬30 < ((R1 fs a0 a1 v).length:Int)):wW fs a0 a1 v=false:=by unfold wW;rw [decide_eq_false h,decide_eq_false h2];rfl
end
section
variable {k w w1 w2:Int} {z:List UInt8 × Int × Bool}
end
section
variable (rs:V9) (fs:p9) (ds:List dM)
end
section
variable {rs:V9} {fs:p9} {ds:List dM}
end
end Go.Eng
