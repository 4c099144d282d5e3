import Derived.Test.YthcggkagkihamaaGreatDoorEngZM
set_option linter.unusedVariables false
set_option linter.unusedSimpArgs false
namespace Go.Eng
open Go Go.RowKit
theorem FO {α:Type} {f:α→Nat} (a b:List α):N8 f (a++b)=N8 f a + N8 f b:=by
 unfold N8
 rw [List.length_append,List.map_append,List.sum_append]
 omega
theorem qN {α β:Type} {f:α→β} {l:List α} {r:List β} {m:Nat} {z:α} (hz:l[m]? =some z)(hr:r.length=l.length):((l.take m).map f++r.drop m).set m (f z)=(l.take (m + 1)).map f++r.drop (m + 1):=by
 have hm:=(List.getElem?_eq_some_iff.1 hz).1
 have hl:((l.take m).map f).length=m:=by rw [List.length_map,List.length_take];omega
 rw [List.set_append_right _ _ (by omega),hl,Nat.sub_self,List.drop_eq_getElem_cons (by omega:m < r.length),List.set_cons_zero,List.take_add_one,hz,List.map_append]
 simp
def gU (ns vs:List Int) (f:Int × List Int):Int × List Int:=(f.1,f.2.map (lY ns vs))
theorem aQ (ns vs:List Int)(l:w9):N8 (fun(x:Int ×(List (Int)))=>(x.2).length) (l.map (gU ns vs))=N8 (fun(x:Int ×(List (Int)))=>(x.2).length) l:=by
 unfold N8
 rw [List.length_map,List.map_map]
 congr 2
 exact List.map_congr_left fun x _=>by simp [gU]
def YZ (rs:T9) (fs:w9) (ns vs:List Int):Bool:=y4 ns vs&&C6 rs fs
def DU (rs:T9) (fs:w9) (ns vs:List Int):T9:=if YZ rs fs ns vs=true then rs else []
def BU (rs:T9) (fs:w9) (ns vs:List Int):w9:=if YZ rs fs ns vs=true then uV (fs.map (gU ns vs)) else []
section
variable {rs:T9} {fs:w9} {ns vs:List Int}
theorem SN (h:y4 ns vs=false):DU rs fs ns vs=[]∧BU rs fs ns vs=[]∧YZ rs fs ns vs=false:=by
 have:YZ rs fs ns vs=false:=by unfold YZ;rw [h];rfl
 unfold DU BU
 rw [this]
 exact⟨rfl,rfl,rfl⟩
theorem PN (h:C6 rs fs=false):DU rs fs ns vs=[]∧BU rs fs ns vs=[]∧YZ rs fs ns vs=false:=by
 have:YZ rs fs ns vs=false:=by unfold YZ;rw [h,Bool.and_false]
 unfold DU BU
 rw [this]
 exact⟨rfl,rfl,rfl⟩
theorem oN (h:y4 ns vs=true)(h2:C6 rs fs=true):DU rs fs ns vs=rs∧BU rs fs ns vs=uV (fs.map (gU ns vs))∧YZ rs fs ns vs=true:=by
 have:YZ rs fs ns vs=true:=by unfold YZ;rw [h,h2];rfl
 unfold DU BU
 rw [this]
 exact⟨rfl,rfl,rfl⟩
theorem nL (rs:T9)(fs:w9)(ns vs:List Int):(DU rs fs ns vs).length≤rs.length:=by
 unfold DU
 split <;> simp
theorem QJ (rs:T9)(fs:w9)(ns vs:List Int):N8 (fun(x:Int ×(List (Int)))=>(x.2).length) (BU rs fs ns vs)≤N8 (fun(x:Int ×(List (Int)))=>(x.2).length) fs:=by
 unfold BU
 split
 ·exact Nat.le_trans (RO _) (Nat.le_of_eq (aQ ns vs fs))
 ·simp [N8]
theorem kM {v:Int} {m:Nat} (h:∀j y,j < m→ns[j]? =some y→y≠ -1 - v)(hm:ns.length≤m):v=lY ns vs v:=by
 refine dV fun q=>?_
 have:=I3 (p:=qR (-1 - v)) (l:=ns) (m:=ns.length) (fun j z hj hz=>decide_eq_false (h j z (by omega) hz)) rfl
 omega
theorem RK {v:Int} (h:y4 ns vs=false):v=lY ns vs v:=dV fun q=>by rw [h] at q;exact absurd q.2.2 (by simp)
theorem ML {v y z:Int} {m:Nat} (hs:y4 ns vs=true)(h:∀j y,j < m→ns[j]? =some y→y≠ -1 - v)(hy:ns[m]? =some y)(he:y= -1 - v)(hz:vs[m]? =some z):z=lY ns vs v:=by
 have hi:=W2 (p:=qR (-1 - v)) (l:=ns) (m:=m) (fun j z hj hz=>decide_eq_false (h j z hj hz)) hy (decide_eq_true he)
 have hm:=(List.getElem?_eq_some_iff.1 hy).1
 have hst:J6 ns vs m=true:=by
  unfold y4 at hs
  simp only [Bool.and_eq_true,decide_eq_true_eq] at hs
  exact hs.2 m hm
 have hk:0≤y∧y≤39:=by
  unfold J6 at hst
  rw [hy,hz] at hst
  simp only [Bool.and_eq_true,decide_eq_true_eq] at hst
  exact hst.1
 exact kQ (n:=(m:Int)) (by omega) (by omega) hi.symm hs (by simpa using hz)
end
theorem GI {ns vs:List Int} (h:y4 ns vs=true) {k:Nat} {y:Int} (hy:ns[k]? =some y):0≤y∧y≤39:=by
 unfold y4 at h
 simp only [Bool.and_eq_true,decide_eq_true_eq] at h
 have h1:=h.2 k (List.getElem?_eq_some_iff.1 hy).1
 unfold J6 at h1
 rw [hy] at h1
 cases hv:vs[k]? with
 | none=>rw [hv] at h1;simp at h1
 | some v=>
  rw [hv] at h1
  simp only [Bool.and_eq_true,decide_eq_true_eq] at h1
  exact h1.1
theorem UJ {l:List Int} {m n:Nat} {c z:Int} (h:∀j y,j < m→l[j]? =some y→y≠c)(hz:l[n]? =some z)(e:n=m)(hne:z≠c):∀j y,j < m + 1→l[j]? =some y→y≠c:=fun j y hj hy=>by
 subst e
 by_cases q:j < n
 ·exact h j y q hy
 ·obtain rfl:j=n:=by omega
  rw [hz] at hy
  cases hy
  exact hne
theorem uP {α β:Type} {f:α→β} {l:List α} {m:Nat} {z:α} (hz:l[m]? =some z):(l.take m).map f++[f z]=(l.take (m + 1)).map f:=by
 rw [List.take_add_one,hz,Option.toList_some,List.map_append];rfl
theorem RU {x:Int} (h:B7 x):∀y∈ [x],B7 y:=fun y hy=>by
 simp only [List.mem_cons,List.not_mem_nil,or_false] at hy
 subst hy;exact h
def WH (v:Int):Int:=if -40≤v∧v≤ -1 then -1 - v else 0
def gJ (a b:Int):Int:=WH (if b < a then b else a)
def DJ (a b:Int):Int:=if a < b then b else a
def lO (a b:Int):Bool:=decide (0≤a)&&decide (0≤b)
def RR (rs:T9) (fs:w9) (a b:Int):T9:=if lO a b=true then rs else DU rs fs [gJ a b] [DJ a b]
def DR (rs:T9) (fs:w9) (a b:Int):w9:=if lO a b=true then fs else BU rs fs [gJ a b] [DJ a b]
def HP (a b:Int):Int:=if lO a b=true then 2 else 1
section
variable {rs:T9} {fs:w9} {a b:Int}
theorem PL (h:0≤a)(h2:0≤b):RR rs fs a b=rs∧DR rs fs a b=fs∧HP a b=2:=by
 have:lO a b=true:=by unfold lO;rw [decide_eq_true h,decide_eq_true h2];rfl
 unfold RR DR HP
 rw [this]
 exact⟨rfl,rfl,rfl⟩
theorem SU (h:¬(0≤a∧0≤b)):RR rs fs a b=DU rs fs [gJ a b] [DJ a b]∧DR rs fs a b=BU rs fs [gJ a b] [DJ a b]∧HP a b=1:=by
 have:lO a b=false:=by
  unfold lO
  rw [Bool.and_eq_false_iff]
  by_cases h1:0≤a
  ·exact .inr (decide_eq_false fun h2=>h ⟨h1,h2⟩)
  ·exact .inl (decide_eq_false h1)
 unfold RR DR HP
 rw [this]
 exact⟨rfl,rfl,rfl⟩
theorem cK (rs:T9)(fs:w9)(a b:Int):(RR rs fs a b).length≤rs.length:=by
 unfold RR
 split
 ·exact Nat.le_refl _
 ·exact nL _ _ _ _
theorem oJ (rs:T9)(fs:w9)(a b:Int):N8 (fun(x:Int ×(List (Int)))=>(x.2).length) (DR rs fs a b)≤N8 (fun(x:Int ×(List (Int)))=>(x.2).length) fs:=by
 unfold DR
 split
 ·exact Nat.le_refl _
 ·exact QJ _ _ _ _
end
def sQ (b hs:w9):List Int:=W4 false (O9 (I9 b)) (O9 (I9 hs))
def C1:List Int→List Int→Int→List Int
 | v,[],_=>v
 | v,x::l,k=>C1 (v.set x.toNat (-1 - k)) l (k + 1)
theorem OT:∀(l:List Int) (v:List Int) (k x:Int),C1 v (l++[x]) k=(C1 v l k).set x.toNat (-1 - (k +(l.length:Int)))
 | [],v,k,x=>by simp [C1]
 | y::l,v,k,x=>by
  rw [List.cons_append,C1,OT l,C1]
  congr 1
  simp only [List.length_cons]
  omega
theorem dY:∀(l v:List Int) (k:Int),(C1 v l k).length=v.length
 | [],_,_=>rfl
 | x::l,v,k=>by rw [C1,dY l,List.length_set]
theorem pT {v l:List Int} {k x:Int} {m:Nat} (hx:l[m]? =some x):(C1 v (l.take m) k).set x.toNat (-1 - (k +(m:Int)))=C1 v (l.take (m + 1)) k:=by
 have hm:=(List.getElem?_eq_some_iff.1 hx).1
 rw [List.take_add_one,hx,Option.toList_some,OT,List.length_take,Nat.min_eq_left (by omega)]
theorem dS:∀(l v:List Int) (k:Int),(∀x∈v,B7 x)→0≤k→k +(l.length:Int)≤4611686018427387904→∀x∈C1 v l k,B7 x
 | [],v,k,h,_,_=>h
 | y::l,v,k,h,h0,hk=>by
  rw [C1]
  simp only [List.length_cons] at hk
  refine dS l _ _ (fun x hx=>?_) (by omega) (by omega)
  rcases List.mem_or_eq_of_mem_set hx with hx | rfl
  ·exact h x hx
  ·unfold B7;omega
def FU (w:List Int) (a:Int × List Int):Int × List Int:=match w6 w a.2 with
 | some q=>(a.1,q)
 | none=>(0,[])
theorem RQ {w q:List Int} {a:Int × List Int} (h:w6 w a.2=some q):FU w a=(a.1,q):=by unfold FU;rw [h]
theorem qP {w:List Int} {a:Int × List Int} (h:w6 w a.2=none):FU w a=(0,[]):=by unfold FU;rw [h]
theorem lJ (w:List Int)(a:Int × List Int):(FU w a).2.length≤a.2.length:=by
 unfold FU
 cases h:w6 w a.2 with
 | none=>simp
 | some q=>simp only;rw [d5 h];omega
theorem LR (w:List Int):∀l:w9,N8 (fun(x:Int ×(List (Int)))=>(x.2).length) (l.map (FU w))≤N8 (fun(x:Int ×(List (Int)))=>(x.2).length) l
 | []=>by simp [N8]
 | a::l=>by
  have:=LR w l
  have:=lJ w a
  unfold N8 at *
  simp only [List.map_cons,List.length_cons,List.sum_cons] at *
  omega
def iO (fs:w9):Int:=i5 (O9 (l7 (U8 fs)))
theorem ZK (fs:w9):0≤iO fs∧iO fs≤40:=by
 have hall:∀x∈O9 (l7 (U8 fs)),0≤x∧x≤39:=fun x hx=>by
  rw [fY] at hx
  unfold l7 at hx
  obtain⟨v,hv,rfl⟩:=List.mem_map.1 hx
  rw [List.mem_filter] at hv
  have h1: -40≤v∧v≤ -1:=of_decide_eq_true hv.2
  unfold KH
  rw [if_pos h1]
  omega
 unfold iO i5
 split
 ·omega
 ·rename_i h0
  have hlt:(O9 (l7 (U8 fs))).length - 1 < (O9 (l7 (U8 fs))).length:=by omega
  have:=hall _ (List.getElem_mem hlt)
  rw [List.getD_eq_getElem?_getD,List.getElem?_eq_getElem hlt,Option.getD_some,n8 (by omega) (by omega)]
  omega
def nY (fs b hs:w9) (v:List Int):List Int:=C1 v (sQ b hs) (iO fs)
def vU (fs b hs:w9) (v:List Int):w9:=uV (fs++hs.map (FU (nY fs b hs v)))
def ST (fs b hs:w9) (v:List Int):Bool:=decide (40 < iO fs +((sQ b hs).length:Int)) ||decide (30 < ((vU fs b hs v).length:Int))
theorem wJ (fs b hs:w9)(v:List Int):N8 (fun(x:Int ×(List (Int)))=>(x.2).length) (vU fs b hs v)≤N8 (fun(x:Int ×(List (Int)))=>(x.2).length) fs + N8 (fun(x:Int ×(List (Int)))=>(x.2).length) hs:=by
 refine Nat.le_trans (RO _) ?_
 rw [FO]
 have:=LR (nY fs b hs v) hs
 omega
section
variable (rs:T9) (fs a0 a1:w9) (a2:Bool) (a3 a4:Int) (v:List Int)
def TW:T9:=if f6 rs fs a0 a1 a2 a3 a4 v=true∧a2=true then RR rs fs (v.getD a3.toNat 0) (v.getD a4.toNat 0) else rs
def tV:w9:=if f6 rs fs a0 a1 a2 a3 a4 v=true then(if a2=true then DR rs fs (v.getD a3.toNat 0) (v.getD a4.toNat 0) else if ST fs a0 a1 v=true then fs else vU fs a0 a1 v) else fs
def YW:Int:=if f6 rs fs a0 a1 a2 a3 a4 v=true then(if a2=true then HP (v.getD a3.toNat 0) (v.getD a4.toNat 0) else if ST fs a0 a1 v=true then 3 else 1) else 0
theorem WK:(TW rs fs a0 a1 a2 a3 a4 v).length≤rs.length:=by
 unfold TW
 split
 ·exact cK _ _ _ _
 ·exact Nat.le_refl _
theorem HJ:N8 (fun(x:Int ×(List (Int)))=>(x.2).length) (tV rs fs a0 a1 a2 a3 a4 v)≤N8 (fun(x:Int ×(List (Int)))=>(x.2).length) fs + N8 (fun(x:Int ×(List (Int)))=>(x.2).length) a1:=by
 unfold tV
 split
 ·split
  ·have:=oJ rs fs (v.getD a3.toNat 0) (v.getD a4.toNat 0);omega
  ·split
   ·omega
   ·exact wJ _ _ _ _
 ·omega
end
section
variable {rs:T9} {fs a0 a1:w9} {a2:Bool} {a3 a4:Int} {v:List Int}
theorem NN (h:f6 rs fs a0 a1 a2 a3 a4 v=false):TW rs fs a0 a1 a2 a3 a4 v=rs∧tV rs fs a0 a1 a2 a3 a4 v=fs∧YW rs fs a0 a1 a2 a3 a4 v=0:=by
 unfold TW tV YW
 rw [h]
 exact⟨rfl,rfl,rfl⟩
theorem YR {x y:Int} (h:f6 rs fs a0 a1 a2 a3 a4 v=true)(h2:a2=true)(hx:v[a3.toNat]? =some x)(hy:v[a4.toNat]? =some y):TW rs fs a0 a1 a2 a3 a4 v=RR rs fs x y∧tV rs fs a0 a1 a2 a3 a4 v=DR rs fs x y∧YW rs fs a0 a1 a2 a3 a4 v=HP x y:=by
 unfold TW tV YW
 rw [if_pos ⟨h,h2⟩,if_pos h,if_pos h2,if_pos h,if_pos h2,List.getD_eq_getElem?_getD,List.getD_eq_getElem?_getD,hx,hy]
 exact⟨rfl,rfl,rfl⟩
theorem fV (h:f6 rs fs a0 a1 a2 a3 a4 v=true)(h2:a2=false)(h3:ST fs a0 a1 v=true):TW rs fs a0 a1 a2 a3 a4 v=rs∧tV rs fs a0 a1 a2 a3 a4 v=fs∧YW rs fs a0 a1 a2 a3 a4 v=3:=by
 unfold TW tV YW
 rw [h,h2,h3]
 exact⟨rfl,rfl,rfl⟩
theorem OQ (h:f6 rs fs a0 a1 a2 a3 a4 v=true)(h2:a2=false)(h3:ST fs a0 a1 v=false):TW rs fs a0 a1 a2 a3 a4 v=rs∧tV rs fs a0 a1 a2 a3 a4 v=vU fs a0 a1 v∧YW rs fs a0 a1 a2 a3 a4 v=1:=by
 unfold TW tV YW
 rw [h,h2,h3]
 exact⟨rfl,rfl,rfl⟩
theorem rX (h:T4 rs fs a0 a1 a2 a3 a4 v=true):C6 rs fs=true∧P6 rs a0 a1 a2 a3 a4=true∧v.length=5:=by
 unfold T4 at h
 simp only [Bool.and_eq_true,decide_eq_true_eq] at h
 exact⟨h.1.1,h.1.2.1,h.1.2.2⟩
theorem QK (h:P6 rs a0 a1 a2 a3 a4=true)(h2:a2=false):R7 rs a1 2=true:=by
 unfold P6 at h
 rw [h2] at h
 simp only [Bool.and_eq_true] at h
 have:=h.2
 simp only [Bool.false_eq_true,if_false,Bool.and_eq_true] at this
 exact this.1
theorem JR (h:f6 rs fs a0 a1 a2 a3 a4 v=true)(h2:a2=false) {x:Int} (hx:x∈sQ a0 a1):0≤x∧x < 5:=by
 obtain⟨_,hd,_⟩:=rX (O4 h)
 unfold sQ W4 at hx
 have hx:=(List.mem_filter.1 hx).1
 exact FV (QK hd h2) (List.any_eq_true.2 ⟨x,hx,decide_eq_true rfl⟩)
theorem GN (h:f6 rs fs a0 a1 a2 a3 a4 v=true)(h2:a2=false):(sQ a0 a1).length≤5:=by
 have hs:(sQ a0 a1).Pairwise (· < ·):=(xZ _).sublist List.filter_sublist
 have hb:∀x∈sQ a0 a1,0≤x∧x < 5:=fun x hx=>JR h h2 hx
 have key:∀(l:List Int) (c:Int),l.Pairwise (· < ·)→(∀x∈l,c≤x∧x < 5)→(l.length:Int)≤max 0 (5 - c):=by
  intro l
  induction l with
  | nil=>intro c _ _;simp;omega
  | cons x l ih=>
   intro c hp hb
   have hp':=List.pairwise_cons.1 hp
   have h1:=hb x (by simp)
   have h2:=ih (x + 1) hp'.2 (fun y hy=>⟨by have:=hp'.1 y hy;omega,(hb y (List.mem_cons_of_mem _ hy)).2⟩)
   simp only [List.length_cons]
   omega
 have:=key _ 0 hs hb
 omega
theorem kJ (h:C6 rs fs=true):DN fs:=by
 unfold C6 at h
 simp only [Bool.and_eq_true,decide_eq_true_eq] at h
 have hn:∀j y z,fs[j]? =some y→fs[j + 1]? =some z→W8 y z < 0:=fun j y z hy hz=>by
  have h1:=h.1 (j + 1) (List.getElem?_eq_some_iff.1 hz).1
  rw [H1 hz] at h1
  simp only [Nat.add_sub_cancel,hy,Bool.and_eq_true,Bool.or_eq_true,decide_eq_true_eq] at h1
  rcases h1.2.1 with h2 | h2
  ·omega
  ·exact h2
 refine List.pairwise_iff_getElem.2 fun i j hi hj hij=>?_
 obtain⟨d,rfl⟩:∃d,j=i + 1 + d:=⟨j - i - 1,by omega⟩
 induction d with
 | zero=>exact hn i _ _ (List.getElem?_eq_getElem hi) (List.getElem?_eq_getElem hj)
 | succ d ih=>
  have h1:=ih (by omega) (by omega)
  have h2:=hn (i + 1 + d) _ _ (List.getElem?_eq_getElem (by omega)) (List.getElem?_eq_getElem hj)
  exact TU h1 (by omega)
theorem vR (h:C6 rs fs=true):vU fs a0 a1 v=E4 fs (a1.map (FU (nY fs a0 a1 v))):=CM (kJ h)
end
theorem MW {fs l:w9} {f:Int × List Int→Int × List Int} {m:Nat} {z:Int × List Int} (hz:l[m]? =some z):G4 (E4 fs ((l.take m).map f)) (f z)=E4 fs ((l.take (m + 1)).map f):=by
 rw [List.take_add_one,hz,Option.toList_some,List.map_append,List.map_cons,List.map_nil,zO]
theorem pQ {fs l:w9} {f:Int × List Int→Int × List Int} {m:Nat} {z:Int × List Int} (hz:l[m]? =some z):(fs++(l.take m).map f)++[f z]=fs++(l.take (m + 1)).map f:=by
 rw [List.take_add_one,hz,Option.toList_some,List.map_append,List.map_cons,List.map_nil,List.append_assoc]
theorem TJ {f:Int × List Int→Nat} (fs:w9)(x:Int × List Int):N8 f (G4 fs x)≤N8 f fs +(1 + f x):=by
 unfold G4
 split
 ·omega
 ·have h:=congrArg (N8 f) (List.takeWhile_append_dropWhile (p:=qQ x) (l:=fs))
  rw [FO] at h ⊢
  have e:N8 f (x::fs.dropWhile (qQ x))=1 + f x + N8 f (fs.dropWhile (qQ x)):=by
   unfold N8
   simp only [List.length_cons,List.map_cons,List.sum_cons]
   omega
  omega
theorem fT {f:Int × List Int→Nat}:∀(l fs:w9),N8 f (E4 fs l)≤N8 f fs + N8 f l
 | [],fs=>by simp [E4]
 | x::l,fs=>by
  have h1:=fT (f:=f) l (G4 fs x)
  have h2:=TJ (f:=f) fs x
  have e:N8 f (x::l)=1 + f x + N8 f l:=by
   unfold N8
   simp only [List.length_cons,List.map_cons,List.sum_cons]
   omega
  show N8 f (E4 (G4 fs x) l)≤_
  omega
theorem GO {α:Type} {f:α→Nat} {l:List α} {m:Nat}:N8 f (l.take m)≤N8 f l:=pN (List.take_sublist _ _)
theorem RM {fs gs:w9} {ns vs:List Int} {m:Nat} (h:gs=E4 [] ((fs.take m).map (gU ns vs))):N8 (fun(x:Int ×(List (Int)))=>(x.2).length) gs≤N8 (fun(x:Int ×(List (Int)))=>(x.2).length) fs:=by
 rw [h]
 refine Nat.le_trans (fT _ _) ?_
 rw [aQ]
 have:=GO (f:=fun(x:Int ×(List (Int)))=>(x.2).length) (l:=fs) (m:=m)
 have:N8 (fun(x:Int ×(List (Int)))=>(x.2).length) ([]:w9)=0:=rfl
 omega
theorem MJ {fs gs:w9} {ns vs:List Int} {m:Nat} (h:gs=E4 [] ((fs.take m).map (gU ns vs)))(hm:fs.length≤m):gs=uV (fs.map (gU ns vs)):=by
 rw [h,List.take_of_length_le hm];rfl
section
variable {fs gs l:w9} {W q:List Int} {m:Nat} {z:Int × List Int}
theorem MM (h:gs=E4 fs ((l.take m).map (FU W)))(hz:l[m]? =some z)(hq:w6 W z.2=some q):G4 gs (z.1,q)=E4 fs ((l.take (m + 1)).map (FU W)):=by
 rw [h,← RQ hq];exact MW hz
theorem KM (h:gs=E4 fs ((l.take m).map (FU W)))(hz:l[m]? =some z)(hq:w6 W z.2=none):G4 gs (0,[])=E4 fs ((l.take (m + 1)).map (FU W)):=by
 rw [h,← qP hq];exact MW hz
theorem aM (hz:l[m]? =some z)(hq:w6 W z.2=some q):(fs++(l.take m).map (FU W))++[(z.1,q)]=fs++(l.take (m + 1)).map (FU W):=by
 rw [← RQ hq];exact pQ hz
theorem uM (hz:l[m]? =some z)(hq:w6 W z.2=none):(fs++(l.take m).map (FU W))++[(0,[])]=fs++(l.take (m + 1)).map (FU W):=by
 rw [← qP hq];exact pQ hz
theorem GR (h:gs=E4 fs ((l.take m).map (FU W))):N8 (fun(x:Int ×(List (Int)))=>(x.2).length) gs≤N8 (fun(x:Int ×(List (Int)))=>(x.2).length) fs + N8 (fun(x:Int ×(List (Int)))=>(x.2).length) l:=by
 rw [h]
 refine Nat.le_trans (fT _ _) ?_
 have h1:=LR W (l.take m)
 have:=GO (f:=fun(x:Int ×(List (Int)))=>(x.2).length) (l:=l) (m:=m)
 omega
theorem kL:N8 (fun(x:Int ×(List (Int)))=>(x.2).length) (fs++(l.take m).map (FU W))≤N8 (fun(x:Int ×(List (Int)))=>(x.2).length) fs + N8 (fun(x:Int ×(List (Int)))=>(x.2).length) l:=by
 rw [FO]
 have h1:=LR W (l.take m)
 have:=GO (f:=fun(x:Int ×(List (Int)))=>(x.2).length) (l:=l) (m:=m)
 omega
end
section
variable {fs a0 a1:w9} {v:List Int}
theorem fN (h:40 < iO fs +((sQ a0 a1).length:Int)):ST fs a0 a1 v=true:=by unfold ST;rw [decide_eq_true h];rfl
theorem eP (h:30 < ((vU fs a0 a1 v).length:Int)):ST fs a0 a1 v=true:=by unfold ST;rw [decide_eq_true h,Bool.or_true]
theorem CN (h:¬40 < iO fs +((sQ a0 a1).length:Int))(h2:¬30 < ((vU fs a0 a1 v).length:Int)):ST fs a0 a1 v=false:=by unfold ST;rw [decide_eq_false h,decide_eq_false h2];rfl
end
section
variable {k w w1 w2:Int} {z:List UInt8 × Int × Bool}
end
section
variable (rs:T9) (fs:w9) (ds:List Y1)
def N1:Y1:=ds.getD (P1 rs fs ds).toNat ([],[],false,0,0)
def CU:T9:=if B6 rs fs ds=true then TW rs fs (N1 rs fs ds).1 (N1 rs fs ds).2.1 (N1 rs fs ds).2.2.1 (N1 rs fs ds).2.2.2.1 (N1 rs fs ds).2.2.2.2 (P3 rs fs ds) else rs
def MV:w9:=if B6 rs fs ds=true then tV rs fs (N1 rs fs ds).1 (N1 rs fs ds).2.1 (N1 rs fs ds).2.2.1 (N1 rs fs ds).2.2.2.1 (N1 rs fs ds).2.2.2.2 (P3 rs fs ds) else fs
def mQ:Int:=if B6 rs fs ds=true then YW rs fs (N1 rs fs ds).1 (N1 rs fs ds).2.1 (N1 rs fs ds).2.2.1 (N1 rs fs ds).2.2.2.1 (N1 rs fs ds).2.2.2.2 (P3 rs fs ds) else 0
end
section
variable {rs:T9} {fs:w9} {ds:List Y1}
theorem RT (h:B6 rs fs ds=false):CU rs fs ds=rs∧MV rs fs ds=fs∧mQ rs fs ds=0∧P1 rs fs ds=0∧P3 rs fs ds=[]:=by
 unfold CU MV mQ P1 P3
 rw [h]
 exact⟨rfl,rfl,rfl,rfl,rfl⟩
theorem P2 {z:Y1} (h:B6 rs fs ds=true)(hz:ds[(P1 rs fs ds).toNat]? =some z):CU rs fs ds=TW rs fs z.1 z.2.1 z.2.2.1 z.2.2.2.1 z.2.2.2.2 (P3 rs fs ds)∧MV rs fs ds=tV rs fs z.1 z.2.1 z.2.2.1 z.2.2.2.1 z.2.2.2.2 (P3 rs fs ds)∧mQ rs fs ds=YW rs fs z.1 z.2.1 z.2.2.1 z.2.2.2.1 z.2.2.2.2 (P3 rs fs ds):=by
 have e:N1 rs fs ds=z:=by unfold N1;rw [List.getD_eq_getElem?_getD,hz];rfl
 unfold CU MV mQ
 rw [if_pos h,if_pos h,if_pos h,e]
 exact⟨rfl,rfl,rfl⟩
theorem MR (h:B6 rs fs ds=true):0≤P1 rs fs ds∧P1 rs fs ds < ds.length:=by
 have h1:=h
 unfold B6 at h1
 simp only [Bool.and_eq_true] at h1
 obtain⟨m,z,h2,h3,_,_⟩:=jT h1.2.2
 unfold P1
 rw [if_pos h,h2]
 have:=(List.getElem?_eq_some_iff.1 h3).1
 omega
theorem NO (ho:∀z∈fs,∀x∈z.2,B7 x):∀x∈P3 rs fs ds,B7 x:=by
 unfold P3
 split
 ·cases hc:jV rs fs (ds.getD (Y4 (dW rs fs) ds).toNat ([],[],false,0,0)) with
  | nil=>intro x hx;simp at hx
  | cons y r=>
   have hy:y∈jV rs fs (ds.getD (Y4 (dW rs fs) ds).toNat ([],[],false,0,0)):=by rw [hc];exact List.mem_cons_self
   exact dX ho (JX hy).1
 ·intro x hx;simp at hx
theorem uK (rs:T9)(fs:w9)(ds:List Y1):(CU rs fs ds).length≤rs.length:=by
 unfold CU
 split
 ·exact WK _ _ _ _ _ _ _ _
 ·exact Nat.le_refl _
theorem pI (rs:T9)(fs:w9)(ds:List Y1):N8 (fun(x:Int ×(List (Int)))=>(x.2).length) (MV rs fs ds)≤N8 (fun(x:Int ×(List (Int)))=>(x.2).length) fs + N8 (fun(x:Y1)=>N8 (fun(x:Int ×(List (Int)))=>(x.2).length) x.1 + N8 (fun(x:Int ×(List (Int)))=>(x.2).length) x.2.1) ds:=by
 unfold MV
 split
 ·rename_i h
  have hi:=MR h
  have hlt:(P1 rs fs ds).toNat < ds.length:=by omega
  have e:N1 rs fs ds=ds[(P1 rs fs ds).toNat]:=by unfold N1;rw [List.getD_eq_getElem?_getD,List.getElem?_eq_getElem hlt];rfl
  refine Nat.le_trans (HJ _ _ _ _ _ _ _ _) ?_
  rw [e]
  have:=kZ (f:=fun(x:Y1)=>N8 (fun(x:Int ×(List (Int)))=>(x.2).length) x.1 + N8 (fun(x:Int ×(List (Int)))=>(x.2).length) x.2.1) (List.getElem_mem hlt)
  (try dsimp only at this)
  omega
 ·omega
end
end Go.Eng
