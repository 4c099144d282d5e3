import Derived.Test.YtiikejgonbnimaaGreatEngZQ
set_option linter.unusedVariables false
set_option linter.unusedSimpArgs false
namespace Go.Eng
open Go Go.RowKit
theorem zP:∀a b:List Int,T6 b a= -T6 a b
 | [],[]=>rfl
 | [],_::_=>rfl
 | _::_,[]=>rfl
 | x::a,y::b=>by
  unfold T6
  by_cases h1:x < y
  ·have h2:¬y < x:=by omega
   simp [h1,h2]
  ·by_cases h2:y < x
   ·simp [h1,h2]
   ·simp only [h1,h2,if_false];exact zP a b
theorem YO:∀a b c:List Int,T6 a b≤0→T6 b c≤0→T6 a c≤0
 | [],b,[],_,_=>by simp [T6]
 | [],b,z::c,_,_=>by simp [T6]
 | x::a,[],c,h,_=>by simp [T6] at h
 | x::a,y::b,[],_,h=>by simp [T6] at h
 | x::a,y::b,z::c,h1,h2=>by
  unfold T6 at h1 h2 ⊢
  split at h1
  ·split at h2
   ·rw [if_pos (by omega)];omega
   ·split at h2
    ·omega
    ·rw [if_pos (by omega)];omega
  ·split at h1
   ·omega
   ·split at h2
    ·rw [if_pos (by omega)];omega
    ·split at h2
     ·omega
     ·rw [if_neg (by omega),if_neg (by omega)]
      exact YO a b c h1 h2
theorem R6 (a b:Int × List Int):S8 b a= -S8 a b:=by
 unfold S8
 by_cases h1:a.1 < b.1
 ·have h2:¬b.1 < a.1:=by omega
  simp [h1,h2]
 ·by_cases h2:b.1 < a.1
  ·simp [h1,h2]
  ·simp only [h1,h2,if_false];exact zP _ _
theorem cU {a b c:Int × List Int} (h1:S8 a b≤0)(h2:S8 b c≤0):S8 a c≤0:=by
 unfold S8 at h1 h2 ⊢
 split at h1
 ·split at h2
  ·rw [if_pos (by omega)];omega
  ·split at h2
   ·omega
   ·rw [if_pos (by omega)];omega
 ·split at h1
  ·omega
  ·split at h2
   ·rw [if_pos (by omega)];omega
   ·split at h2
    ·omega
    ·rw [if_neg (by omega),if_neg (by omega)]
     exact YO _ _ _ h1 h2
theorem aU {a b c:Int × List Int} (h1:S8 a b < 0)(h2:S8 b c≤0):S8 a c < 0:=by
 have h3:=cU (a:=a) (b:=b) (c:=c) (by omega) h2
 rcases Int.lt_or_le (S8 a c) 0 with h | h
 ·exact h
 ·obtain rfl:=I4.1 (show S8 a c=0 by omega)
  have:=R6 b a
  omega
theorem RL {a b c:Int × List Int} (h1:S8 a b≤0)(h2:S8 b c < 0):S8 a c < 0:=by
 have h3:=cU (a:=a) (b:=b) (c:=c) h1 (by omega)
 rcases Int.lt_or_le (S8 a c) 0 with h | h
 ·exact h
 ·obtain rfl:=I4.1 (show S8 a c=0 by omega)
  have:=R6 a b
  omega
def kR (l:p9):Prop:=l.Pairwise fun x y=>S8 x y < 0
def KH (l:p9):Prop:=l.Pairwise fun x y=>S8 x y≤0
theorem lU:∀(a b:p9),kR a→kR b→(∀z,z∈a↔z∈b)→a=b
 | [],[],_,_,_=>rfl
 | [],y::b,_,_,h=>by have:=(h y).2 (by simp);simp at this
 | x::a,[],_,_,h=>by have:=(h x).1 (by simp);simp at this
 | x::a,y::b,ha,hb,h=>by
  have ha':=List.pairwise_cons.1 ha
  have hb':=List.pairwise_cons.1 hb
  have hxy:x=y:=by
   rcases List.mem_cons.1 ((h x).1 (by simp)) with e | e
   ·exact e
   ·rcases List.mem_cons.1 ((h y).2 (by simp)) with e' | e'
    ·exact e'.symm
    ·have h1:=hb'.1 x e
     have h2:=ha'.1 y e'
     have:=R6 x y
     omega
  subst hxy
  have hn:∀l:p9,(∀z∈l,S8 x z < 0)→¬x∈l:=fun l hl hx=>by
   have:=hl x hx
   rw [f0] at this
   omega
  rw [lU a b ha'.2 hb'.2 fun z=>?_]
  have:=h z
  simp only [List.mem_cons] at this
  constructor
  ·intro hz
   rcases this.1 (.inr hz) with e | e
   ·subst e;exact absurd hz (hn a ha'.1)
   ·exact e
  ·intro hz
   rcases this.2 (.inr hz) with e | e
   ·subst e;exact absurd hz (hn b hb'.1)
   ·exact e
theorem MO:∀(a b:p9),KH a→KH b→a.Perm b→a=b
 | [],b,_,_,h=>(List.nil_perm.1 h).symm
 | x::a,[],_,_,h=>absurd (List.perm_nil.1 h) (by simp)
 | x::a,y::b,ha,hb,h=>by
  have ha':=List.pairwise_cons.1 ha
  have hb':=List.pairwise_cons.1 hb
  have hxy:x=y:=by
   rcases List.mem_cons.1 (h.mem_iff.1 (List.mem_cons_self)) with e | e
   ·exact e
   ·rcases List.mem_cons.1 (h.mem_iff.2 (List.mem_cons_self (a:=y) (l:=b))) with e' | e'
    ·exact e'.symm
    ·have h1:=hb'.1 x e
     have h2:=ha'.1 y e'
     have:=R6 x y
     exact I4.1 (by omega)
  subst hxy
  rw [MO a b ha'.2 hb'.2 ((List.perm_cons x).1 h)]
def v5 {α:Type} (q:α→α→Bool) (l:List α):Nat→List α
 | 0=>[]
 | n + 1=>v5 q l n++(match l[n]? with
  | some x=>(match n with
   | 0=>[x]
   | k + 1=>(match l[k]? with
    | some y=>if q x y then [] else [x]
    | none=>[]))
  | none=>[])
section
variable {α β:Type} {q:α→α→Bool} {l r:List α} {k j:Nat} {x y z:α}
theorem IU (hx:l[j + 1]? =some x)(hy:l[j]? =some y)(h:q x y=true):v5 q l (j + 2)=v5 q l (j + 1):=by
 rw [v5,hx]
 simp only [hy,h,if_true,List.append_nil]
theorem aV (hx:l[j + 1]? =some x)(hy:l[j]? =some y)(h:q x y=false):v5 q l (j + 2)=v5 q l (j + 1)++[x]:=by
 rw [v5,hx]
 simp only [hy,h,Bool.false_eq_true,if_false]
theorem GQ (hx:l[0]? =some x):v5 q l 1=[x]:=by
 rw [v5,hx];rfl
theorem iW (f:α→β)(p:β→β→Bool)(l:List α):∀n,(v5 (fun x y=>p (f x) (f y)) l n).map f=v5 p (l.map f) n
 | 0=>rfl
 | n + 1=>by
  rw [v5,v5,List.map_append,iW f p l n,List.getElem?_map]
  congr 1
  cases hx:l[n]? with
  | none=>rfl
  | some x=>
   cases n with
   | zero=>rfl
   | succ k=>
    simp only [Option.map_some,List.getElem?_map]
    cases hy:l[k]? with
    | none=>rfl
    | some y=>
     simp only [Option.map_some]
     split <;> rfl
theorem LU (l:List α):∀n,List.Sublist (v5 q l n) (l.take n)
 | 0=>by simp [v5]
 | n + 1=>by
  rw [v5,List.take_add_one]
  refine List.Sublist.append (LU l n) ?_
  cases hx:l[n]? with
  | none=>simp
  | some x=>
   simp only [Option.toList_some]
   split
   ·exact List.Sublist.refl _
   ·split
    ·split
     ·exact List.nil_sublist _
     ·exact List.Sublist.refl _
    ·exact List.nil_sublist _
def MH (q:α→α→Bool) (l:List α) (m:Nat):Prop:=1≤m∧m≤l.length∧v5 q l m=l.take m
theorem JN (h:2≤l.length):MH q l 1:=by
 refine⟨Nat.le_refl _,by omega,?_⟩
 obtain⟨x,hx⟩:∃x,l[0]? =some x:=⟨_,List.getElem?_eq_getElem (by omega)⟩
 rw [GQ hx,List.take_add_one,hx]
 rfl
theorem NK {n:Nat} (h:MH q l k)(hx:l[k]? =some x)(hy:l[n]? =some y)(hn:n + 1=k)(hq:q x y=false):MH q l (k + 1):=by
 obtain⟨h1,h2,h3⟩:=h
 have:=(List.getElem?_eq_some_iff.1 hx).1
 subst hn
 refine⟨by omega,by omega,?_⟩
 rw [aV hx hy hq,h3,List.take_add_one (l:=l) (i:=n + 1),hx]
 rfl
theorem zJ (h:MH q l k)(hk:l.length≤k):l=v5 q l l.length:=by
 obtain⟨h1,h2,h3⟩:=h
 obtain rfl:k=l.length:=by omega
 rw [h3,List.take_length]
theorem JM (h:l.length < 2):l=v5 q l l.length:=by
 match l,h with
 | [],_=>rfl
 | [x],_=>rfl
def GI (q:α→α→Bool) (l r:List α) (k j:Nat):Prop:=1≤k∧k < j∧j≤l.length∧r.length=l.length∧r.take k=v5 q l j∧∀n,k≤n→r[n]? =l[n]?
theorem TN {n:Nat} (h:MH q l k)(hx:l[k]? =some x)(hy:l[n]? =some y)(hn:n + 1=k)(hq:q x y=true):GI q l l k (k + 1):=by
 obtain⟨h1,h2,h3⟩:=h
 have:=(List.getElem?_eq_some_iff.1 hx).1
 subst hn
 refine⟨h1,by omega,by omega,rfl,?_,fun _ _=>rfl⟩
 rw [IU hx hy hq,h3]
theorem iK {n:Nat} (h:GI q l r k j)(hx:r[j]? =some x)(hy:r[n]? =some y)(hn:n + 1=j)(hq:q x y=false):GI q l (r.set k x) (k + 1) (j + 1):=by
 obtain⟨h0,h1,h2,h3,h4,h5⟩:=h
 subst hn
 rw [h5 _ (by omega)] at hx hy
 have hlt:=(List.getElem?_eq_some_iff.1 hx).1
 refine⟨by omega,by omega,by omega,by rw [List.length_set];exact h3,?_,fun i hi=>?_⟩
 ·rw [aV hx hy hq,← h4]
  rw [List.take_add_one,List.getElem?_set_self (by omega),List.take_set_of_le (Nat.le_refl _)]
  rfl
 ·rw [List.getElem?_set_ne (by omega)]
  exact h5 i (by omega)
theorem EL {n:Nat} (h:GI q l r k j)(hx:r[j]? =some x)(hy:r[n]? =some y)(hn:n + 1=j)(hq:q x y=true):GI q l r k (j + 1):=by
 obtain⟨h0,h1,h2,h3,h4,h5⟩:=h
 subst hn
 rw [h5 _ (by omega)] at hx hy
 have hlt:=(List.getElem?_eq_some_iff.1 hx).1
 exact⟨h0,by omega,by omega,h3,by rw [IU hx hy hq,h4],h5⟩
theorem PM {n:Nat} (h:GI q l r k j)(hz:r[n]? =some z)(hn:k≤n):l[n]? =some z:=by rw [← h.2.2.2.2.2 n hn];exact hz
theorem vJ (h:GI q l r k j)(hj:l.length≤j)(t:List α):(r.take k++t).take k=v5 q l l.length:=by
 obtain⟨h0,h1,h2,h3,h4,h5⟩:=h
 obtain rfl:j=l.length:=by omega
 rw [List.take_append_of_le_length (by rw [List.length_take];omega),List.take_take,Nat.min_self,h4]
end
def aR (x y:Int × List Int):Bool:=decide (S8 x y=0)
theorem kT {l:p9} (hs:KH l):∀n,kR (v5 aR l n)∧∀z,z∈v5 aR l n↔z∈l.take n
 | 0=>by simp [v5,kR]
 | n + 1=>by
  obtain⟨h1,h2⟩:=kT hs n
  cases hx:l[n]? with
  | none=>
   have e:v5 aR l (n + 1)=v5 aR l n:=by rw [v5,hx];simp
   have:=List.getElem?_eq_none_iff.1 hx
   rw [e,List.take_of_length_le (by omega)]
   rw [List.take_of_length_le (by omega)] at h2
   exact⟨h1,h2⟩
  | some x=>
   cases n with
   | zero=>
    rw [GQ hx,List.take_add_one,hx]
    simp [kR]
   | succ k=>
    have hlt:=(List.getElem?_eq_some_iff.1 hx).1
    obtain⟨y,hy⟩:∃y,l[k]? =some y:=⟨_,List.getElem?_eq_getElem (by omega)⟩
    have hall:∀z∈l.take (k + 1),S8 z y≤0:=fun z hz=>by
     rw [List.take_add_one,hy,List.mem_append] at hz
     rcases hz with hz | hz
     ·obtain⟨i,hi⟩:=List.getElem?_of_mem hz
      have hi2:=(List.getElem?_eq_some_iff.1 hi).1
      rw [List.length_take] at hi2
      rw [List.getElem?_take,if_pos (by omega)] at hi
      obtain⟨e1,rfl⟩:=List.getElem?_eq_some_iff.1 hi
      obtain⟨e2,rfl⟩:=List.getElem?_eq_some_iff.1 hy
      exact List.pairwise_iff_getElem.1 hs i k e1 e2 (by omega)
     ·simp at hz;subst hz;rw [f0];omega
    have hyx:S8 y x≤0:=by
     obtain⟨e1,rfl⟩:=List.getElem?_eq_some_iff.1 hx
     obtain⟨e2,rfl⟩:=List.getElem?_eq_some_iff.1 hy
     exact List.pairwise_iff_getElem.1 hs k (k + 1) e2 e1 (by omega)
    have hmem:∀z,z∈l.take (k + 1 + 1)↔z∈l.take (k + 1)∨z=x:=fun z=>by
     rw [List.take_add_one (l:=l) (i:=k + 1),hx,List.mem_append];simp
    cases hq:aR x y with
    | true=>
     rw [IU hx hy hq]
     have hxy:x=y:=I4.1 (of_decide_eq_true hq)
     refine⟨h1,fun z=>?_⟩
     rw [hmem,h2]
     constructor
     ·exact .inl
     ·rintro(h | rfl)
      ·exact h
      ·rw [hxy,List.take_add_one,hy];simp
    | false=>
     rw [aV hx hy hq]
     have hne:S8 y x < 0:=by
      have:¬S8 x y=0:=of_decide_eq_false hq
      have:=R6 x y
      omega
     refine⟨List.pairwise_append.2 ⟨h1,by simp,fun z hz w hw=>?_⟩,fun z=>?_⟩
     ·simp at hw;subst hw
      exact RL (hall z ((h2 z).1 hz)) hne
     ·rw [hmem,List.mem_append,h2];simp
theorem BM {fs:p9} {f x:Int × List Int}:x∈c4 fs f↔x∈fs∨x=f:=by
 constructor
 ·exact RQ
 ·intro h
  unfold c4
  split
  ·rename_i h0
   rcases h with h | rfl
   ·exact h
   ·have h1:=eZ (p:=fun y=>decide (S8 y x=0)) (l:=fs)
    unfold eI at h0
    rw [decide_eq_true h0] at h1
    obtain⟨y,hy,hq⟩:=List.any_eq_true.1 h1.symm
    rw [← I4.1 (of_decide_eq_true hq)]
    exact hy
  ·rw [List.mem_append,List.mem_cons]
   rcases h with h | rfl
   ·rw [← List.takeWhile_append_dropWhile (p:=pP f) (l:=fs),List.mem_append] at h
    rcases h with h | h
    ·exact .inl h
    ·exact .inr (.inr h)
   ·exact .inr (.inl rfl)
theorem jJ {fs:p9} {f:Int × List Int} (h:kR fs):kR (c4 fs f):=by
 unfold c4
 split
 ·exact h
 ·rename_i h0
  have hnot:¬f∈fs:=fun hf=>by
   have h1:=eZ (p:=fun y=>decide (S8 y f=0)) (l:=fs)
   have h2:fs.any (fun y=>decide (S8 y f=0))=true:=List.any_eq_true.2 ⟨f,hf,decide_eq_true (f0 f)⟩
   rw [h2] at h1
   exact h0 (of_decide_eq_true h1)
  have hsp:=List.takeWhile_append_dropWhile (p:=pP f) (l:=fs)
  have hp:kR (fs.takeWhile (pP f)++fs.dropWhile (pP f)):=by rw [hsp];exact h
  obtain⟨p1,p2,p3⟩:=List.pairwise_append.1 hp
  have ht:∀y∈fs.takeWhile (pP f),S8 y f < 0:=fun y hy=>by
   have:=List.all_eq_true.1 (List.all_takeWhile (l:=fs) (p:=pP f)) y hy
   exact of_decide_eq_true this
  have hd:∀y∈fs.dropWhile (pP f),S8 f y < 0:=fun y hy=>by
   have hyf:y∈fs:=(List.dropWhile_suffix _).subset hy
   have hne:y≠f:=fun e=>hnot (e ▸ hyf)
   cases hdw:fs.dropWhile (pP f) with
   | nil=>rw [hdw] at hy;simp at hy
   | cons a t=>
    have ha:pP f a=false:=by
     have:=List.head?_dropWhile_not (pP f) fs
     rw [hdw] at this
     simpa using this
    have ha2:¬S8 a f < 0:=of_decide_eq_false ha
    have haf:a∈fs:=(List.dropWhile_suffix _).subset (by rw [hdw];exact List.mem_cons_self)
    have hane:¬S8 a f=0:=fun e=>hnot (I4.1 e ▸ haf)
    have hfa:S8 f a < 0:=by have:=R6 a f;omega
    rw [hdw] at hy p2
    rcases List.mem_cons.1 hy with rfl | hy
    ·exact hfa
    ·have:=(List.pairwise_cons.1 p2).1 y hy
     exact aU hfa (by omega)
  refine List.pairwise_append.2 ⟨p1,List.pairwise_cons.2 ⟨hd,p2⟩,fun a ha b hb=>?_⟩
  rcases List.mem_cons.1 hb with rfl | hb
  ·exact ht a ha
  ·exact aU (ht a ha) (by have:=hd b hb;omega)
def G5 (fs l:p9):p9:=l.foldl c4 fs
def nZ (l:p9):p9:=G5 [] l
theorem fO (fs l:p9)(x:Int × List Int):G5 fs (l++[x])=c4 (G5 fs l) x:=by simp [G5]
theorem TU:∀(l:p9) {fs:p9},kR fs→kR (G5 fs l)
 | [],_,h=>h
 | x::l,_,h=>TU l (jJ h)
theorem lV:∀(l fs:p9) (z:Int × List Int),z∈G5 fs l↔z∈fs∨z∈l
 | [],fs,z=>by simp [G5]
 | x::l,fs,z=>by
  show z∈G5 (c4 fs x) l↔_
  rw [lV l,BM,List.mem_cons]
  constructor
  ·rintro((h | h) | h) <;> simp [h]
  ·rintro(h | h | h) <;> simp [h]
theorem fW (l:p9):kR (nZ l):=TU l (by simp [kR])
theorem U2 (l:p9)(z:Int × List Int):z∈nZ l↔z∈l:=by simp [nZ,lV]
theorem tS:∀(l fs:p9),(G5 fs l).length≤fs.length + l.length
 | [],fs=>by simp [G5]
 | x::l,fs=>by
  have h1:=tS l (c4 fs x)
  have h2:=BY fs x
  show(G5 (c4 fs x) l).length≤_
  simp only [List.length_cons]
  omega
theorem GM (l:p9):(nZ l).length≤l.length:=by have:=tS l [];simpa [nZ] using this
theorem iM {fs l:p9} (h:kR fs):nZ (fs++l)=G5 fs l:=
 lU _ _ (fW _) (TU l h) fun z=>by rw [U2,lV,List.mem_append]
def sortF (l:p9):p9:=l.mergeSort fun x y=>!decide (S8 y x < 0)
theorem I0 (l:p9):(sortF l).Perm l:=List.mergeSort_perm l _
theorem uP (l:p9):KH (sortF l):=by
 have h:=List.pairwise_mergeSort (le:=fun x y=>!decide (S8 y x < 0)) (fun a b c h1 h2=>by
  have e1:=R6 a b;have e2:=R6 b c;have e3:=R6 a c
  simp only [Bool.not_eq_true',decide_eq_false_iff_not] at h1 h2 ⊢
  have:=cU (a:=a) (b:=b) (c:=c) (by omega) (by omega)
  omega) (fun a b=>by
  have e1:=R6 a b
  rcases Int.lt_or_le (S8 a b) 0 with h | h
  ·rw [decide_eq_false (by omega:¬S8 b a < 0)];rfl
  ·rw [decide_eq_false (by omega:¬S8 a b < 0),Bool.or_comm];rfl) l
 refine List.Pairwise.imp (fun {a b} h=>?_) h
 have e1:=R6 a b
 simp only [Bool.not_eq_true',decide_eq_false_iff_not] at h
 omega
theorem cK {a l:p9} (hs:KH a)(hp:a.Perm l):a=sortF l:=MO _ _ hs (uP l) (hp.trans (I0 l).symm)
theorem dM (l:p9):(sortF l).length=l.length:=(I0 l).length_eq
theorem LS (l:p9):v5 aR (sortF l) (sortF l).length=nZ l:=by
 obtain⟨h1,h2⟩:=kT (uP l) (sortF l).length
 refine lU _ _ h1 (fW l) fun z=>?_
 rw [h2,List.take_length,U2]
 exact(I0 l).mem_iff
theorem eP {α:Type} {f:α→Nat} {a b:List α} (h:a.Perm b):l7 f a=l7 f b:=by
 unfold l7
 rw [h.length_eq,(h.map f).sum_nat]
theorem kN {f:Int × List Int→Nat} (l:p9):l7 f (nZ l)≤l7 f l:=by
 rw [← LS,← eP (I0 l)]
 refine tN ?_
 have:=LU (q:=aR) (sortF l) (sortF l).length
 rwa [List.take_length] at this
end Go.Eng
