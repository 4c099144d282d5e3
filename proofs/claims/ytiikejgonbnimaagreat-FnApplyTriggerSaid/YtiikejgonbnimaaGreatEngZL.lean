import Derived.Test.YtiikejgonbnimaaGreatEngZK
import Derived.Shelf.SlSortCmp.NoneTotal
import Derived.Ground.SlsfProg
import Derived.Lib.Small
import Derived.WalkKit
import Derived.Deep.LoopGhost
import Derived.Lib.Walk
import Derived.StillTailTactics
set_option linter.unusedVariables false
set_option linter.unusedSimpArgs false
namespace Go.Eng
open Go Go.RowKit
section open_
variable {w:World} {e:Nat} {l:p9} {u:Value} {F:Nat→Prop}
theorem lP (h:AP w e 2 (E9 f9 (B9 1 f9)) l u F):
  ∃(cells:List Value) (V:Nat→Value) (G:Nat→Nat→Prop),w.ownsRow 0 e 2 u l.length cells∧(∀g,u.ownBlock=some g→F g)∧(∀a k,G a k→F k∧u.ownBlock≠some k)∧(∀a a' k,G a k→G a' k→a=a')∧
   ∀a x,l[a]? =some x→cells[a * 2]? =some (.int .i64 x.1)∧cells[a * 2 + 1]? =some (V a)∧Ow w (.sl 1 f9 x.2) (V a) (G a):=by
 obtain⟨cells,G,ho,hF,hG,hd,hx⟩:=h
 refine⟨cells,fun a=>cells.getD (a * 2 + 1) undef,fun a=>G a 1,ho,hF,fun a k hk=>hG a 1 k hk,fun a a' k h1 h2=>(hd a 1 a' 1 k h1 h2).1,fun a x ha=>?_⟩
 obtain⟨u0,h1,h2⟩:=hx a x ha 0 (by omega)
 obtain⟨u1,h3,h4⟩:=hx a x ha 1 (by omega)
 have e0:u0= .int .i64 x.1:=h2.1
 subst e0
 rw [Nat.add_zero] at h1
 refine⟨h1,?_,?_⟩
 ·show cells[a * 2 + 1]? =some (cells.getD (a * 2 + 1) undef)
  rw [List.getD_eq_getElem?_getD,h3];rfl
 ·show Ow w _ (cells.getD (a * 2 + 1) undef) _
  rw [List.getD_eq_getElem?_getD,h3];exact h4
theorem EQ {V:Nat→Value} {G:Nat→Nat→Prop} {σ:List Nat} {cells:List Value}
  (ho:w.ownsRow 0 e 2 u σ.length cells) (hF:∀g,u.ownBlock=some g→F g) (hG:∀a k,a < l.length→G a k→F k∧u.ownBlock≠some k) (hd:∀a a' k,G a k→G a' k→a=a') (hn:σ.Nodup)
  (hc:∀i a,σ[i]? =some a→∃x,l[a]? =some x∧cells[i * 2]? =some (.int .i64 x.1)∧cells[i * 2 + 1]? =some (V a)∧Ow w (.sl 1 f9 x.2) (V a) (G a)):
  AP w e 2 (E9 f9 (B9 1 f9)) (σ.map fun a=>l.getD a (0,[])) u F:=by
 refine⟨cells,fun i j k=>j=1∧∃a,σ[i]? =some a∧a < l.length∧G a k,by rw [List.length_map];exact ho,hF,fun i j k ⟨_,a,_,h2,h3⟩=>hG a k h2 h3,?_,fun i x hx j hj=>?_⟩
 ·rintro i j i' j' k ⟨rfl,a,h1,_,h3⟩ ⟨rfl,a',h1',_,h3'⟩
  obtain rfl:=hd a a' k h3 h3'
  exact⟨(List.getElem?_inj (List.getElem?_eq_some_iff.1 h1).1 hn).1 (h1.trans h1'.symm),rfl⟩
 ·rw [List.getElem?_map] at hx
  obtain⟨a,ha,rfl⟩:=Option.map_eq_some_iff.mp hx
  obtain⟨x,h1,h2,h3,h4⟩:=hc i a ha
  have e:l.getD a (0,[])=x:=by rw [List.getD_eq_getElem?_getD,h1];rfl
  simp only [e]
  match j,hj with
  | 0,_=>exact⟨_,h2,rfl,rfl⟩
  | 1,_=>exact⟨_,h3,Ow.move _ _ (fun k hk=>⟨rfl,a,ha,(List.getElem?_eq_some_iff.1 h1).1,hk⟩) (fun _ _=>rfl) h4⟩
end open_
section put_
theorem KP (w:World)(k g:Nat)(d:Array Value)(os:Array Obj)(cur:Array Value)(e:Nat)(h:w.heap[g]? =some (.cells cur e (0,0))):
  (Go.Sort.grow (Go.Sort.putRow id (Go.Sort.ahead w k) g 0 d) os).heap[g]? =some (.cells (Go.Sort.putCells id 0 d cur) e (0,0)):=by
 have hg:g < w.heap.size:=(Array.getElem?_eq_some_iff.1 h).1
 rw [Go.Sort.heap_grow_old _ _ (by simpa using hg)]
 show((Go.Sort.ahead w k).heap.modify g _)[g]? =_
 rw [Array.getElem?_modify,if_pos rfl]
 show Option.map _ (w.heap[g]?)=_
 rw [h]
 rfl
theorem WY (w:World)(k g:Nat)(d:Array Value)(os:Array Obj) {b:Nat} (hb:b < w.heap.size)(hne:b≠g):
  (Go.Sort.grow (Go.Sort.putRow id (Go.Sort.ahead w k) g 0 d) os).heap[b]? =w.heap[b]? :=by
 rw [Go.Sort.heap_grow_old _ _ (by simpa using hb)]
 show((Go.Sort.ahead w k).heap.modify g _)[b]? =_
 rw [Array.getElem?_modify,if_neg (Ne.symm hne)]
 rfl
theorem aO (d:Array Value)(cur:Array Value)(h:d.size≤cur.size):(Go.Sort.putCells id 0 d cur).toList.take d.size=d.toList:=by
 apply List.ext_getElem?
 intro j
 rw [List.getElem?_take]
 by_cases hj:j < d.size
 ·rw [if_pos hj,Array.getElem?_toList,Array.getElem?_toList]
  unfold Go.Sort.putCells
  rw [Array.getElem?_mapIdx,Array.getElem?_eq_getElem (by omega),Option.map_some,if_pos ⟨Nat.zero_le _,by omega⟩,Array.getElem?_eq_getElem hj]
  congr 1
  rw [Nat.sub_zero,getElem!_pos d _ hj]
  rfl
 ·rw [if_neg hj,Array.getElem?_toList,Array.getElem?_eq_none (by omega)]
end put_
def BK (w:World) (A:Option Addr) (xs:List Int):Prop:=∀j x,xs[j]? =some x→∃b:Nat,A=some ⟨b,0,none⟩∧w.cell? ⟨b,j,none⟩=some (.int .i64 x)
theorem EI {w:World} {xs:List Int} {u:Value} {F:Nat→Prop} (h:Ow w (.sl 1 f9 xs) u F):∃A cap,u= .slice A xs.length cap∧BK w A xs:=by
 obtain⟨e,cells,G,ho,_,_,_,hx⟩:=h
 obtain⟨A,cap,hu,_,hr⟩:=LY ho
 refine⟨A,cap,hu,fun j x hj=>?_⟩
 obtain⟨u',h1,h2⟩:=hx j x hj 0 (by omega)
 have e2:u'= .int .i64 x:=h2.1
 subst e2
 rw [Nat.mul_one,Nat.add_zero] at h1
 obtain⟨g,hA,_,hc⟩:=hr j _ h1
 refine⟨g,hA,?_⟩
 have h5:(⟨g,0,none⟩:Addr).add j=⟨g,j,none⟩:=by simp [Addr.add];exact fun h=>h.symm
 rw [h5] at hc
 exact hc
theorem cT (W:World)(vs:Array Value)(e:Nat)(fz:Nat × Nat)(b k:Nat)(hb:b=W.heap.size):(W.alloc (.cells vs e fz)).cell? ⟨b,k,none⟩=vs[k]? :=by
 subst hb
 unfold World.cell?
 rw [show(W.alloc (.cells vs e fz)).heap=W.heap.push (.cells vs e fz) from rfl]
 simp
def yG (P:Program) (g:Nat):Prop:=
 ∀(r1 r2:Int) (A1 A2:Option Addr) (n m c d:Nat) (xs ys:List Int) (w:World),xs.length=n→ys.length=m→n≤4611686018427387904→m≤4611686018427387904→BK w A1 xs→BK w A2 ys→
  Calls P g #[.agg #[.int .i64 r1,.slice A1 n c],.agg #[.int .i64 r2,.slice A2 m d]] w fun e w'=>e= .returned (.int .i64 (S8 (r1,xs) (r2,ys)))∧∃q os,w'=Go.Sort.grow (w.drewN q) os
theorem aL {n:Nat} {l:p9} (hl:l.length=n)(d:Array (Fin n))(hp:d.toList.Perm (List.finRange n)):(d.toList.map (·.val)).Nodup∧((d.toList.map (·.val)).map fun a=>l.getD a (0,[])).Perm l:=by
 have hr:(List.finRange n).map (·.val)=List.range n:=by
  apply List.ext_getElem
  ·simp
  ·intro i h1 h2
   simp
 have h1:=hp.map (fun a:Fin n=>a.val)
 rw [hr] at h1
 refine⟨(h1.nodup_iff).2 List.nodup_range,?_⟩
 have h2:=h1.map (fun a=>l.getD a (0,[]))
 have h3:(List.range n).map (fun a=>l.getD a (0,[]))=l:=by
  subst hl
  apply List.ext_getElem?
  intro i
  rw [List.getElem?_map]
  by_cases hi:i < l.length
  ·rw [List.getElem?_range hi,Option.map_some,List.getD_eq_getElem?_getD,List.getElem?_eq_getElem hi];rfl
  ·rw [List.getElem?_eq_none (by simpa using hi),List.getElem?_eq_none (by omega)];rfl
 rwa [h3] at h2
theorem YN {n:Nat} (f:Fin n→Int × List Int):Go.Sort.SWO (Go.Proofs.ltOf fun a b:Fin n=>S8 (f a) (f b)) where
 irrefl x:=decide_eq_false (show¬S8 (f x) (f x) < 0 by rw [f0];omega)
 trans x y z h1 h2:=by
  have h1:S8 (f x) (f y) < 0:=of_decide_eq_true h1
  have h2:S8 (f y) (f z) < 0:=of_decide_eq_true h2
  exact decide_eq_true (aU h1 (by omega))
 ntrans x y z h1 h2:=by
  have h1:¬S8 (f x) (f y) < 0:=of_decide_eq_false h1
  have h2:¬S8 (f y) (f z) < 0:=of_decide_eq_false h2
  have e1:=R6 (f x) (f y);have e2:=R6 (f y) (f z);have e3:=R6 (f x) (f z)
  have:=cU (a:=f z) (b:=f y) (c:=f x) (by omega) (by omega)
  exact decide_eq_false (show¬S8 (f x) (f z) < 0 by omega)
set_option maxHeartbeats 1000000 in
theorem tK {P:Program} {ρ:Go.Shelf.Ren} (Ly:Go.Proofs.SlLaysF0.n6 P ρ) {g:Nat} (aE:∀w,(isAgg (ρ.t 24)).run P w= .ok true w)(zE:∀w,(Go.sizeOf (ρ.t 24)).run P w= .ok 2 w)(hE:Go.Proofs.Enters P g)(hcmp:yG P g)
  (U:Nat→Value) (e0:Nat) (l:p9) (hl:l.length < 4611686018427387904) (hb:∀x∈l,x.2.length≤4611686018427387904):
  Mu P (ρ.f 6) [.c (.own 0),.c (.clo g [])] [(0,some (.row (some (U 0)) e0 true 2 (E9 f9 (B9 1 f9)) l))] 1 [(0,some (.row (some (U 0)) e0 true 2 (E9 f9 (B9 1 f9)) (sortF l)))] 1 (.tup []):=by
 intro n w E S vs hI hA
 obtain⟨hl0,hrd,hpn,ho⟩:=hI.obs 0 _ rfl
 obtain⟨v,hv,hdv⟩:=hA.2 0 _ rfl
 obtain⟨v2,hv2,us,hu2,hus,_⟩:=hA.2 1 _ rfl
 obtain rfl:us=[]:=List.eq_nil_of_length_eq_zero hus
 have hvs:vs=[(E 0).u,.func (.func g) #[] #[]]:=by
  have h1:=hA.1
  match vs,h1,hv,hv2 with
  | [x,y],_,hv,hv2=>cases hv;cases hv2;rw [hdv.2.1,hu2]
 subst hvs
 simp only [if_true] at ho
 obtain⟨cells,V,G,hown,hF,hG,hd,hx⟩:=lP ho
 have hdone:∀w':World,M6 E S w' (.tup []) (.tuple #[]):=fun w'=>⟨[],rfl,rfl,fun j b cs h=>by simp at h⟩
 have hown0:=hown
 obtain⟨hlen,hor⟩:=hown
 by_cases h0:l=[]
 ·subst h0
  have hEu:∃A cap,(E 0).u= .slice A 0 cap:=by
   rcases hor with⟨h,_⟩ | ⟨g',cap,cur,h,_⟩
   ·exact⟨_,_,h⟩
   ·exact⟨_,_,h⟩
  obtain⟨A,cap,hu⟩:=hEu
  rw [hu]
  refine(Go.Proofs.AnyF.slices_SortFunc_none Ly A cap _ w).mono ?_
  rintro e w' ⟨rfl,rfl⟩
  have hs:sortF []=[]:=List.eq_nil_of_length_eq_zero (dM [])
  rw [hs]
  exact⟨_,E,S,rfl,hI,hdone _⟩
 ·rcases hor with⟨_,hn⟩ | ⟨b,cap,cur,hu,_,hh,hcap,hmax,hsz,htk⟩
  ·exact absurd (List.eq_nil_of_length_eq_zero hn) h0
  ·have hg:b < w.heap.size:=(Array.getElem?_eq_some_iff.1 hh).1
   have hblk:(E 0).F b:=hF b (by rw [hu];rfl)
   have hpos:0 < l.length:=List.length_pos_iff.2 h0
   generalize hnl:l.length=N at *
   haveI:Inhabited (Fin N):=⟨⟨0,hpos⟩⟩
   have hat:∀a:Fin N,l[a.val]? =some (l.getD a.val (0,[])):=fun a=>by
    rw [List.getD_eq_getElem?_getD,List.getElem?_eq_getElem (by rw [hnl];exact a.2)];rfl
   let f:Fin N→Int × List Int:=fun a=>l.getD a.val (0,[])
   let enc:Fin N→List Value:=fun a=>[.int .i64 (f a).1,V a.val]
   let d:Array (Fin N):=(List.finRange N).toArray
   have hds:d.size=N:=by simp [d]
   have hGne:∀a k,G a k→k≠b∧k < w.heap.size:=fun a k hk=>by
    obtain⟨h1,h2⟩:=hG a k hk
    exact⟨fun e=>by subst e;exact h2 (by rw [hu];rfl),(hI.fp 0 hl0 k h1).1⟩
   have hone:∀x:Fin N,∀v∈enc x,v.oneCell'=true:=fun x v hv=>by
    simp only [enc,List.mem_cons,List.not_mem_nil,or_false] at hv
    rcases hv with rfl | rfl
    ·rfl
    ·exact Rd.one (Ow.rd _ _ (hx x.val _ (hat x)).2.2)
   have hH:Go.Sort.HoldsK enc 2 w b 0 d:=by
    intro j hj
    have hj':j < N * 2:=by rw [Go.Sort.size_flatK,hds] at hj;exact hj
    have hq:j / 2 < N:=by omega
    obtain⟨c1,c2,_⟩:=hx (j / 2) _ (hat ⟨j / 2,hq⟩)
    have hdj:d[j / 2]! =⟨j / 2,hq⟩:=by
     rw [getElem!_pos d _ (by rw [hds];exact hq)]
     simp [d]
    rw [Go.Sort.get_flatK _ _ _ _ (by rw [hds];exact hj'),hdj]
    refine⟨?_,by simp [World.frozen?,hh]⟩
    have hcell:cells[j]? =some ((enc ⟨j / 2,hq⟩)[j % 2]!):=by
     rcases Nat.mod_two_eq_zero_or_one j with e | e
     ·have hj2:j / 2 * 2=j:=by omega
      rw [hj2] at c1
      rw [e,c1];rfl
     ·have hj2:j / 2 * 2 + 1=j:=by omega
      rw [hj2] at c2
      rw [e,c2];rfl
    have h4:=World.ownsRow.cells hown0 (g:=b) (by rw [hu];rfl) j _ hcell
    rw [Nat.zero_add]
    have h5:(⟨b,0,none⟩:Addr).add j=⟨b,j,none⟩:=by simp [Addr.add];exact fun h=>h.symm
    rw [h5] at h4
    exact h4
   have hcl:Go.Proofs.CmpLays P g #[] enc 2 (fun a c=>S8 (f a) (f c)) b 0 d.size w:=by
    intro m os dk hs x y
    have hheap:∀a k,G a k→(Go.Proofs.sortWorldK enc 2 w b 0 m dk os).heap[k]? =w.heap[k]? :=fun a k hk=>WY w m b _ os (hGne a k hk).2 (hGne a k hk).1
    have hr:∀a:Fin N,Ow (Go.Proofs.sortWorldK enc 2 w b 0 m dk os) (.sl 1 f9 (f a).2) (V a.val) (G a.val):=fun a=>
     Ow.move _ _ (fun k hk=>hk) (fun k hk=>hheap _ k hk) (hx a.val _ (hat a)).2.2
    obtain⟨A1,c1,u1,d1⟩:=EI (hr x)
    obtain⟨A2,c2,u2,d2⟩:=EI (hr y)
    have hcc:=hcmp (f x).1 (f y).1 A1 A2 _ _ c1 c2 (f x).2 (f y).2 (Go.Proofs.sortWorldK enc 2 w b 0 m dk os) rfl rfl (hb _ (List.mem_of_getElem? (hat x))) (hb _ (List.mem_of_getElem? (hat y))) d1 d2
    show Calls P g #[.agg #[.int .i64 (f x).1,V x.val],.agg #[.int .i64 (f y).1,V y.val]] _ _
    rw [u1,u2]
    exact hcc
   rw [hu]
   have hcall:=Go.Proofs.AnyQ.slices_SortFunc Ly 2 aE zE enc (fun _=>rfl) hone (fun a c=>S8 (f a) (f c)) (YN f) g #[] b 0 cap d w hE hcl hH hg (by rw [hds];exact hl)
   rw [hds] at hcall
   refine hcall.mono ?_
   rintro e w' ⟨rfl,d',k,os,hperm,hsorted,rfl⟩
   obtain⟨p1,p2,p3⟩:=hperm
   have hd's:d'.size=N:=by rw [p1,hds]
   have hpl:d'.toList.Perm (List.finRange N):=by
    have q1:(d'.extract 0 N).toList=d'.toList:=by simp [← hd's]
    have q2:(d.extract 0 N).toList=List.finRange N:=by simp only [d,List.extract_toArray,List.extract_eq_take_drop,List.drop_zero,Nat.sub_zero];exact List.take_of_length_le (by simp)
    rw [q1,q2] at p3
    exact p3
   obtain⟨hnod,hperm2⟩:=aL hnl d' hpl
   generalize hσ:d'.toList.map (fun a:Fin N=>a.val)=σ at *
   have hσl:σ.length=N:=by rw [← hσ];simp [hd's]
   have hσa:∀i a,σ[i]? =some a→∃h:a < N,d'[i]? =some (⟨a,h⟩:Fin N):=fun i a h=>by
    rw [← hσ,List.getElem?_map] at h
    obtain⟨c,h1,rfl⟩:=Option.map_eq_some_iff.mp h
    rw [Array.getElem?_toList] at h1
    exact⟨c.2,h1⟩
   have hso:KH (σ.map fun a=>l.getD a (0,[])):=by
    refine List.pairwise_iff_getElem.2 fun i j hi hj hij=>?_
    have hi':i < d'.size:=by rw [List.length_map,hσl] at hi;omega
    have hj':j < d'.size:=by rw [List.length_map,hσl] at hj;omega
    have h1:=hsorted i j (Nat.zero_le _) hij (by omega)
    rw [getElem!_pos d' i hi',getElem!_pos d' j hj'] at h1
    have h2:¬S8 (f d'[j]) (f d'[i]) < 0:=of_decide_eq_false h1
    have e1:(σ.map fun a=>l.getD a (0,[]))[i]=f d'[i]:=by simp [← hσ,f]
    have e2:(σ.map fun a=>l.getD a (0,[]))[j]=f d'[j]:=by simp [← hσ,f]
    rw [e1,e2]
    have:=R6 (f d'[i]) (f d'[j])
    omega
   have hsf:(σ.map fun a=>l.getD a (0,[]))=sortF l:=cK hso hperm2
   have hgr:w.heap.size≤(Go.Proofs.sortWorldK enc 2 w b 0 k d' os).heap.size:=by
    unfold Go.Proofs.sortWorldK Go.Sort.putRowK Go.Sort.grow Go.Sort.putRow Go.Sort.mapBlock Go.Sort.ahead
    simp
   have hfs:(Go.Sort.flatK enc 2 d').size=N * 2:=by rw [Go.Sort.size_flatK,hd's]
   refine⟨_,E,S,rfl,⟨fun q hq=>Nat.lt_of_lt_of_le (hI.slt q hq) hgr,hI.snew,fun j o hj=>?_,hI.dis,fun i hi q hq=>?_,hI.nxt,?_⟩,hdone _⟩
   ·rw [D9] at hj
    split at hj
    ·rename_i hj0
     subst hj0
     cases hj
     refine⟨hl0,hrd,hpn,?_⟩
     simp only [if_true]
     rw [← hsf]
     refine EQ (V:=V) (G:=G) (cells:=(Go.Sort.flatK enc 2 d').toList) ⟨by simp [hfs,hσl],.inr ⟨b,cap,_,by rw [hu,hσl],Nat.zero_le _,KP w k b _ os cur e0 hh,by omega,hmax,?_,?_⟩⟩ hF (fun a q _ h=>hG a q h) hd hnod fun i a ha=>?_
     ·simp [Go.Sort.putCells]
      omega
     ·rw [hσl,← hfs]
      exact aO _ _ (by rw [hfs,hsz];exact Nat.mul_le_mul_right _ hcap)
     ·obtain⟨hlt,hda⟩:=hσa i a ha
      obtain⟨hi',hdi⟩:=Array.getElem?_eq_some_iff.1 hda
      have hcells:∀j,j < 2→(Go.Sort.flatK enc 2 d').toList[i * 2 + j]? =some ((enc ⟨a,hlt⟩)[j]!):=fun j hj=>by
       have hb2:i * 2 + j < d'.size * 2:=by omega
       rw [Array.getElem?_toList,Array.getElem?_eq_getElem (by rw [Go.Sort.size_flatK];exact hb2),← getElem!_pos (Go.Sort.flatK enc 2 d') _ (by rw [Go.Sort.size_flatK];exact hb2),Go.Sort.get_flatK _ _ _ _ hb2]
       rw [show(i * 2 + j) / 2=i by omega,show(i * 2 + j) % 2=j by omega,getElem!_pos d' i hi',hdi]
      have c0:=hcells 0 (by omega)
      have c1:=hcells 1 (by omega)
      exact⟨_,hat ⟨a,hlt⟩,c0,c1,Ow.move _ _ (fun _ h=>h) (fun q hq=>WY w k b _ os (hGne a q hq).2 (hGne a q hq).1) (hx a _ (hat ⟨a,hlt⟩)).2.2⟩
    ·simp [y9] at hj
   ·obtain⟨h1,h2,h3⟩:=hI.fp i hi q hq
    exact⟨Nat.lt_of_lt_of_le h1 hgr,h2,h3⟩
   ·refine⟨rfl,rfl,rfl,hgr,fun q hq hM=>WY w k b _ os hq fun h=>?_⟩
    subst h
    exact hM ⟨0,hl0,hblk⟩
end Go.Eng
