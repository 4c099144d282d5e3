import Derived.Test.YtiikejgonbnimaaGreatEngE
import Derived.Shelf.SortM.Plain
import Derived.Shelf.SortM.SortNone
import Derived.Shelf.SlGeneric
import Derived.Ground.SlgmProg
import Derived.Laws.CopyRow
set_option linter.unusedVariables false
set_option linter.unusedSimpArgs false
namespace Go.Eng
open Go Go.RowKit

theorem rK (w:World)(k g:Nat)(d:Array Int)(os:Array Obj)(cur:Array Value)(e:Nat)(h:w.heap[g]? =some (.cells cur e (0,0))):
  (Go.Sort.grow (Go.Sort.putRow (Value.int .i64) (Go.Sort.ahead w k) g 0 d) os).heap[g]? =some (.cells (Go.Sort.putCells (Value.int .i64) 0 d cur) e (0,0)):=by
 have hg:g < w.heap.size:=(Array.getElem?_eq_some_iff.1 h).1
 rw [Go.Sort.heap_grow_old _ _ (by simpa using hg)]
 show((Go.Sort.ahead w k).heap.modify g _)[g]? =_
 rw [Array.getElem?_modify,if_pos rfl]
 show Option.map _ (w.heap[g]?)=_
 rw [h]
 rfl
theorem aM (w:World)(k g:Nat)(d:Array Int)(os:Array Obj) {b:Nat} (hb:b < w.heap.size)(hne:b≠g):
  (Go.Sort.grow (Go.Sort.putRow (Value.int .i64) (Go.Sort.ahead w k) g 0 d) os).heap[b]? =w.heap[b]? :=by
 rw [Go.Sort.heap_grow_old _ _ (by simpa using hb)]
 show((Go.Sort.ahead w k).heap.modify g _)[b]? =_
 rw [Array.getElem?_modify,if_neg (Ne.symm hne)]
 rfl
theorem CL (l:List Int)(cur:Array Value)(h:l.length≤cur.size):(Go.Sort.putCells (Value.int .i64) 0 l.toArray cur).toList.take l.length=l.map (Value.int .i64):=by
 apply List.ext_getElem?
 intro j
 rw [List.getElem?_take,List.getElem?_map]
 by_cases hj:j < l.length
 ·rw [if_pos hj,Array.getElem?_toList]
  unfold Go.Sort.putCells
  rw [Array.getElem?_mapIdx,Array.getElem?_eq_getElem (by omega),Option.map_some,if_pos ⟨Nat.zero_le _,by simpa using hj⟩,List.getElem?_eq_getElem hj,Option.map_some]
  congr 1
  rw [getElem!_pos l.toArray _ (by simpa using hj)]
  simp
 ·rw [if_neg hj,List.getElem?_eq_none (by omega)]
  rfl
theorem hJ {P:Program} {ρ:Go.Shelf.Ren} (Ly:Go.Proofs.SlLaysM.n5 P ρ)(U:Nat→Value)(e0:Nat)(l:List Int)(hl:l.length < 4611686018427387904):
  Mu P (ρ.f 5) [.c (.own 0)] [(0,some (.row (some (U 0)) e0 true 1 f9 l))] 1 [(0,some (.row (some (U 0)) e0 true 1 f9 (G1 l)))] 1 (.tup []):=by
 intro n w E S vs hI hA
 obtain⟨hl0,hrd,hpn,ho⟩:=hI.obs 0 _ rfl
 obtain⟨v,hv,hdv⟩:=hA.2 0 _ rfl
 have hvs:vs=[(E 0).u]:=by
  have h1:=hA.1
  match vs,h1,hv with
  | [x],_,hv=>cases hv;rw [hdv.2.1]
 subst hvs
 simp only [if_true] at ho
 obtain⟨cells,G,hown,hF,hG,hd,hx⟩:=ho
 have hdone:∀w':World,M6 E S w' (.tup []) (.tuple #[]):=fun w'=>⟨[],rfl,rfl,fun j b cs h=>by simp at h⟩
 have hown0:=hown
 obtain⟨hlen,hor⟩:=hown
 by_cases h0:l=[]
 ·subst h0
  have hE:∃A cap,(E 0).u= .slice A 0 cap:=by
   rcases hor with⟨h,_⟩ | ⟨g,cap,cur,h,_⟩
   ·exact⟨_,_,h⟩
   ·exact⟨_,_,h⟩
  obtain⟨A,cap,hu⟩:=hE
  rw [hu]
  refine(Go.Proofs.AnyM.slices_Sort_int_none Ly A cap w).mono ?_
  rintro e w' ⟨rfl,rfl⟩
  have hs:G1 []=[]:=List.eq_nil_of_length_eq_zero (lX [])
  rw [hs]
  exact⟨_,E,S,rfl,hI,hdone _⟩
 ·rcases hor with⟨_,hn⟩ | ⟨g,cap,cur,hu,_,hh,hcap,hmax,hsz,htk⟩
  ·exact absurd (List.eq_nil_of_length_eq_zero hn) h0
  ·have hg:g < w.heap.size:=(Array.getElem?_eq_some_iff.1 hh).1
   have hblk:(E 0).F g:=hF g (by rw [hu];rfl)
   have hH:Go.Sort.Holds (Value.int .i64) w g 0 l.toArray:=by
    intro j hj
    have hj':j < l.length:=by simpa using hj
    obtain⟨u',h1,h2⟩:=hx j l[j] (List.getElem?_eq_getElem hj') 0 Nat.one_pos
    have h3:u'= .int .i64 l[j]:=h2.1
    subst h3
    rw [Nat.mul_one,Nat.add_zero] at h1
    refine⟨?_,?_⟩
    ·have h4:=World.ownsRow.cells hown0 (g:=g) (by rw [hu];rfl) j _ h1
     rw [getElem!_pos l.toArray j hj,Nat.zero_add]
     have h5:(⟨g,0,none⟩:Addr).add j=⟨g,j,none⟩:=by simp [Addr.add];exact fun h=>h.symm
     rw [h5] at h4
     simpa using h4
    ·simp [World.frozen?,hh]
   rw [hu]
   refine(Go.Proofs.AnyM.slices_Sort_int Ly g 0 cap l w hH hg hl).mono ?_
   rintro e w' ⟨rfl,k,os,rfl⟩
   have hs:(l.mergeSort fun x y=>decide (x≤y))=G1 l:=rfl
   rw [hs]
   have hsl:=lX l
   have hgr:w.heap.size≤(Go.Sort.grow (Go.Sort.putRow (Value.int .i64) (Go.Sort.ahead w k) g 0 (G1 l).toArray) os).heap.size:=by simp
   refine⟨_,E,S,rfl,⟨fun b hb=>Nat.lt_of_lt_of_le (hI.slt b hb) hgr,hI.snew,fun j o hj=>?_,hI.dis,fun i hi b hb=>?_,hI.nxt,?_⟩,hdone _⟩
   ·rw [D9] at hj
    split at hj
    ·rename_i hj0
     subst hj0
     cases hj
     refine⟨hl0,hrd,hpn,?_⟩
     simp only [if_true]
     refine⟨(G1 l).map (Value.int .i64),fun _ _ _=>False,⟨by simp,.inr ⟨g,cap,_,by rw [hu,hsl],Nat.zero_le _,rK w k g _ os cur e0 hh,by omega,hmax,?_,?_⟩⟩,hF,fun _ _ _ h=>h.elim,fun _ _ _ _ _ h=>h.elim,fun i x hi j hj=>?_⟩
     ·simp [Go.Sort.putCells]
      omega
     ·rw [Nat.mul_one]
      exact CL _ _ (by omega)
     ·have:j=0:=by omega
      subst this
      refine⟨.int .i64 x,?_,rfl,rfl⟩
      rw [Nat.mul_one,Nat.add_zero,List.getElem?_map,hi]
      rfl
    ·simp [y9] at hj
   ·obtain⟨h1,h2,h3⟩:=hI.fp i hi b hb
    exact⟨Nat.lt_of_lt_of_le h1 hgr,h2,h3⟩
   ·refine⟨rfl,rfl,rfl,hgr,fun b hb hM=>aM w k g _ os hb fun h=>?_⟩
    subst h
    exact hM ⟨0,hl0,hblk⟩
end Go.Eng

set_option linter.unusedVariables false
set_option linter.unusedSimpArgs false
namespace Go.Eng
open Go Go.RowKit
section
variable {α:Type} {p:α→Bool} {l:List α} {m:Nat} {z:α}
theorem TW (h:l[m]? =some z)(hp:p z=true):(l.take (m + 1)).filter p=(l.take m).filter p++[z]:=by
 rw [List.take_add_one,h,List.filter_append]
 simp [hp]
theorem oV (h:l[m]? =some z)(hp:p z=false):(l.take (m + 1)).filter p=(l.take m).filter p:=by
 rw [List.take_add_one,h,List.filter_append]
 simp [hp]
theorem AQ (h:l.length≤m):(l.take m).filter p=l.filter p:=by rw [List.take_of_length_le h]
theorem bP:((l.take m).filter p).length≤l.length:=Nat.le_trans (List.length_filter_le _ _) (by rw [List.length_take];omega)
end
def Y5 (q:Bool) (B H:List Int):List Int:=H.filter fun x=>kZ B x == q
theorem xQ (q:Bool)(B H:List Int):(Y5 q B H).length≤H.length:=List.length_filter_le _ _
end Go.Eng

set_option linter.unusedVariables false
set_option linter.unusedSimpArgs false
namespace Go.Eng
open Go Go.RowKit
def DG (v:Int):Bool:=decide (-40≤v∧v≤ -1)
def nK (v:Int):Int:=if -40≤v∧v≤ -1 then -1 - v else 0
def m8 (l:List Int):List Int:=(l.filter DG).map nK
theorem EY (l:List Int):(m8 l).length≤l.length:=by unfold m8;rw [List.length_map];exact List.length_filter_le _ _
theorem sS {l:List Int} {n:Nat} {z:Int} (h:l[n]? =some z)(hz:decide (-40≤z∧z≤ -1)=true):m8 (l.take (n + 1))=m8 (l.take n)++[if -40≤z∧z≤ -1 then -1 - z else 0]:=by
 unfold m8
 rw [TW h hz,List.map_append]
 rfl
theorem dS {l:List Int} {n:Nat} {z:Int} (h:l[n]? =some z)(hz:decide (-40≤z∧z≤ -1)=false):m8 (l.take (n + 1))=m8 (l.take n):=by
 unfold m8
 rw [oV h hz]
theorem jP {l:List Int} {n:Nat} (h:l.length≤n):m8 (l.take n)=m8 l:=by rw [List.take_of_length_le h]
theorem XT (l:List Int)(n:Nat):(m8 (l.take n)).length≤l.length:=Nat.le_trans (EY _) (by rw [List.length_take];omega)
theorem EM (a b:List Int):m8 (a++b)=m8 a++m8 b:=by simp [m8]
def U9 (l:List (Int × List Int)):List Int:=l.flatMap fun a=>a.2
theorem JX {l:List (Int × List Int)} {m:Nat} {z:Int × List Int} (h:l[m]? =some z):U9 (l.take (m + 1))=U9 (l.take m)++z.2:=by
 rw [List.take_add_one,h]
 simp [U9]
theorem oX {l:List (Int × List Int)} {m:Nat} (h:l.length≤m):U9 (l.take m)=U9 l:=by rw [List.take_of_length_le h]
theorem KZ (l:List (Int × List Int)):(U9 l).length≤l7 (fun x=>x.2.length) l:=by
 unfold l7 U9
 induction l with
 | nil=>simp
 | cons a l ih=>
  simp only [List.flatMap_cons,List.length_append,List.map_cons,List.sum_cons,List.length_cons]
  omega
theorem aW {l:List (Int × List Int)} {m:Nat} {z:Int × List Int} (h:l[m]? =some z):(U9 (l.take m)).length + z.2.length≤(U9 l).length:=by
 have h1:=JX h
 have h2:U9 l=U9 (l.take (m + 1))++U9 (l.drop (m + 1)):=by
  unfold U9
  rw [← List.flatMap_append,List.take_append_drop]
 rw [h2,h1]
 simp only [List.length_append]
 omega
theorem kL {l:List (Int × List Int)} (h:∀z∈l,∀x∈z.2,s7 x):∀x∈U9 l,s7 x:=fun x hx=>by
 obtain⟨z,h1,h2⟩:=List.mem_flatMap.1 hx
 exact h z h1 x h2
theorem GK (a b:List Int):G9 (a++G9 b)=G9 (a++b):=
 EZ _ _ (K6 _) (K6 _) fun z=>by simp only [Z6,List.mem_append]
theorem YJ {α:Type} (a:List α) {s:List α} {n:Nat} {z:α} (h:s[n]? =some z):a++s.take (n + 1)=(a++s.take n)++[z]:=by
 rw [List.take_add_one,h,List.append_assoc]
 rfl
def W6 (s:List Int):Int:=if s.length=0 then 0 else IntKind.i64.wrap (s.getD (s.length - 1) 0 + 1)
theorem MQ {s:List Int} {n:Nat} {z:Int} (hz:s[n]? =some z)(h:n=s.length - 1):W6 s=IntKind.i64.wrap (z + 1):=by
 have hn:=(List.getElem?_eq_some_iff.1 hz).1
 unfold W6
 rw [if_neg (by omega),← h,List.getD_eq_getElem?_getD,hz]
 rfl
theorem qU {s:List Int} (h:s.length=0):W6 s=0:=by unfold W6;rw [if_pos h]
def ZZ (v:Int):Bool:=decide (-40≤v∧v≤9)
def v6 (rs:V9) (r:Int) (ts:List Int):Bool:=
 S5 rs&&(decide (0≤r∧r≤(rs.length:Int) - 1)&&((match rs[r.toNat]? with | some x=>decide (((ts.length:Nat):Int)=x.2.1) | none=>false)&&!ts.any fun t=>!ZZ t))
section
variable {rs:V9} {r:Int} {ts:List Int}
theorem tP (h:S5 rs=false):v6 rs r ts=false:=by unfold v6;rw [h];rfl
theorem fP (h:¬(0≤r∧r≤(rs.length:Int) - 1)):v6 rs r ts=false:=by unfold v6;rw [decide_eq_false h];simp
theorem YQ {z:List UInt8 × Int × Bool} (hz:rs[r.toNat]? =some z)(h:((ts.length:Nat):Int)≠z.2.1):v6 rs r ts=false:=by unfold v6;rw [hz];simp [h]
theorem fT {z:List UInt8 × Int × Bool} (h:S5 rs=true)(h2:0≤r∧r≤(rs.length:Int) - 1)(hz:rs[r.toNat]? =some z)(h3:((ts.length:Nat):Int)=z.2.1):v6 rs r ts=!ts.any fun t=>!ZZ t:=by
 unfold v6;rw [h,decide_eq_true h2,hz];simp [h3]
theorem V2 (h:v6 rs r ts=true):0≤r∧r < rs.length:=by
 unfold v6 at h
 simp only [Bool.and_eq_true,decide_eq_true_eq] at h
 omega
end
def RV (x y:Int):Int:=if x < y then -1 else if y < x then 1 else 0
theorem mJ {x y:Int} (h:RV x y=0):x=y:=by
 unfold RV at h
 split at h
 ·omega
 ·split at h
  ·omega
  ·omega
theorem HN {a b:List Int} {m:Nat} {x y:Int} (h:a.take m=b.take m)(hx:a[m]? =some x)(hy:b[m]? =some y)(hne:RV x y≠0):RV x y=T6 a b:=by
 obtain⟨h1,h2⟩:=XV h hx hy
 unfold RV at hne ⊢
 by_cases q:x < y
 ·rw [if_pos q,h1 q]
 ·by_cases q2:y < x
  ·rw [if_neg q,if_pos q2,h2 q2]
  ·rw [if_neg q,if_neg q2] at hne
   exact absurd rfl hne
def OL:List Int→Int
 | []=>0
 | x::l=>if x≠0 then x else OL l
theorem UK:∀ {l:List Int} {m:Nat} {z:Int},(∀j y,j < m→l[j]? =some y→y=0)→l[m]? =some z→z≠0→OL l=z
 | [],m,z,h,hz,hn=>by simp at hz
 | x::l,0,z,h,hz,hn=>by
  have:x=z:=by simpa using hz
  subst this
  rw [OL,if_pos hn]
 | x::l,m + 1,z,h,hz,hn=>by
  rw [OL,if_neg (by rw [h 0 x (by omega) rfl];simp)]
  exact UK (m:=m) (fun j y hj hy=>h (j + 1) y (by omega) (by simpa using hy)) (by simpa using hz) hn
theorem kQ:∀ {l:List Int},(∀j y,j < l.length→l[j]? =some y→y=0)→OL l=0
 | [],h=>rfl
 | x::l,h=>by
  rw [OL,if_neg (by rw [h 0 x (by simp) rfl];simp)]
  exact kQ fun j y hj hy=>h (j + 1) y (by simp;omega) (by simpa using hy)
theorem mM {l:List Int} {m n:Nat} {z:Int} (h:∀j y,j < m→l[j]? =some y→y=0)(hz:l[n]? =some z)(e:n=m)(hx:z=0):∀j y,j < m + 1→l[j]? =some y→y=0:=by
 subst e
 intro j y hj hy
 by_cases hjn:j < n
 ·exact h j y hjn hy
 ·obtain rfl:j=n:=by omega
  rw [hz] at hy
  cases hy
  exact hx
def S8 (f g:Int × List Int):Int:=if f.1 < g.1 then -1 else if g.1 < f.1 then 1 else T6 f.2 g.2
theorem oJ (f g:Int × List Int):OL [RV f.1 g.1,T6 f.2 g.2]=S8 f g:=by
 unfold OL OL OL RV S8
 by_cases h1:f.1 < g.1
 ·simp [h1]
 ·by_cases h2:g.1 < f.1
  ·simp [h1,h2]
  ·by_cases h3:T6 f.2 g.2=0 <;> simp [h1,h2,h3]
def S4 (rs:V9) (l:p9) (j:Nat):Bool:=match l[j]? with
 | some z=>v6 rs z.1 z.2&&((decide (j=0) ||match l[j - 1]? with | some y=>decide (S8 y z < 0) | none=>false)&&!(I2 rs z&&decide (0 < (G9 (m8 z.2)).length)))
 | none=>true
def M8 (rs:V9) (l:p9):Bool:=decide (∀j,j < l.length→S4 rs l j=true)&&(S5 rs&&decide (l.length≤30))
section
variable {rs:V9} {l:p9} {m:Nat}
theorem B4 (hm:m < l.length)(h:S4 rs l m=false):M8 rs l=false:=by
 unfold M8
 rw [decide_eq_false (fun q=>by rw [q m hm] at h;cases h)]
 rfl
theorem RZ (h:∀j,j < m→S4 rs l j=true)(hm:l.length≤m):M8 rs l=(S5 rs&&decide (l.length≤30)):=by
 unfold M8
 rw [decide_eq_true (fun j hj=>h j (by omega))]
 rfl
theorem WT (h:(S5 rs&&decide (l.length≤30))=false):M8 rs l=false:=by
 unfold M8
 rw [h,Bool.and_false]
theorem A4 {z:Int × List Int} (hz:l[m]? =some z):S4 rs l m=(v6 rs z.1 z.2&&((decide (m=0) ||match l[m - 1]? with | some y=>decide (S8 y z < 0) | none=>false)&&!(I2 rs z&&decide (0 < (G9 (m8 z.2)).length)))):=by
 unfold S4;rw [hz]
theorem U8 {z:Int × List Int} (hz:l[m]? =some z)(h:v6 rs z.1 z.2=false):S4 rs l m=false:=by
 rw [A4 hz,h];rfl
theorem V8 {z y:Int × List Int} {n:Nat} (hz:l[m]? =some z)(h0:m≠0)(hy:l[n]? =some y)(hn:n=m - 1):S4 rs l m=(v6 rs z.1 z.2&&(decide (S8 y z < 0)&&!(I2 rs z&&decide (0 < (G9 (m8 z.2)).length)))):=by
 subst hn
 rw [A4 hz,hy,decide_eq_false h0]
 simp
theorem N8 {z:Int × List Int} (hz:l[m]? =some z)(h0:m=0):S4 rs l m=(v6 rs z.1 z.2&&!(I2 rs z&&decide (0 < (G9 (m8 z.2)).length))):=by
 rw [A4 hz,decide_eq_true h0]
 simp
end
end Go.Eng

set_option linter.unusedVariables false
set_option linter.unusedSimpArgs false
namespace Go.Eng
open Go Go.RowKit
section rules
variable {cx:Cx} {s:St} {dst:Option Nat} {ty:TypeId} {pos:String} {aft:Array Edge}
theorem HS (i:Nat) {pn pn2:Option Value} {t e e2 q0:TypeId} {sz by':Nat} {x y:Operand} {α:Type} {enc:α→Nat→T} {xs ys:List α} (hd:Q6 dst cx.n=true)(he:CV cx.P t=some (e,sz,by'))(hpos:Nat.blt 0 sz=true)
  (hx:s.ev x=some (.c (.own i))) (hb:y9 s.ob i=some (.row pn e true sz enc xs)) (hy:s.ev y=some (.c (.own q0))) (hq0:y9 s.ob q0=some (.row pn2 e2 true sz enc ys)) (hqi:Nat.beq q0 i=false) (hlen:(xs.length + ys.length) * by'≤140737488355328) (hl63:xs.length + ys.length≤9223372036854775807):
  Os cx s ⟨dst,.call {callee:=.builtin .append,args:=#[x,y],argTypes:=#[t,t]},ty,pos,aft,none⟩ ((⟨I5 (c7 i [q0]) s.tm,(i,some (.row none e true sz enc (xs++ys)))::T4 [q0] (Y6 (c7 i [q0]) s.ob),s.nx⟩:St).sets dst (some (.c (.own i)))) false:=by
 refine Z3 fun a w hg=>?_
 obtain⟨E,S,hI,hT,hn,hdf⟩:=hg
 have hpos:0 < sz:=by simpa using hpos
 obtain⟨ti,tz,t1,t2,t3,t4,t5,t6⟩:=ZY he
 obtain⟨hli,hux,_⟩:=J9 hT hx
 have hqi:q0≠i:=fun h=>by subst h;simp at hqi
 obtain⟨hlq,huq,_⟩:=J9 hT hy
 obtain⟨_,_,_,ho2⟩:=hI.obs _ _ hq0
 simp only [if_true] at ho2
 obtain⟨cells2,G2,k1,k2,k3,k4,k5⟩:=ho2
 obtain⟨A,cap,hu2,hcap⟩:=N5 k1
 have huy:a.eval y= .slice A ys.length cap:=by rw [huq,hu2]
 have hdd:∀k,(E i).F k→¬(E q0).F k:=hI.dis i q0 (Ne.symm hqi) hli hlq
 obtain⟨_,hrd,_,ho⟩:=hI.obs _ _ hb
 simp only [if_true] at ho
 obtain⟨cells,G,h1,h2,h3,h4,h5⟩:=ho
 have hexec:∀(v1:Value) (w1:World),(Builtin.append_ #[t,t] ty #[(E i).u,.slice A ys.length cap]).run cx.P w= .ok v1 w1→(execOp a.eval ⟨dst,.call {callee:=.builtin .append,args:=#[x,y],argTypes:=#[t,t]},ty,pos,aft,none⟩).run cx.P w= .ok (.value v1) w1:=fun v1 w1 hr=>by
  have hm:Array.map a.eval #[x,y]=#[(E i).u,.slice A ys.length cap]:=by simp [hux,huy]
  simp only [execOp,resolve,invoke,builtin,hm,Sem.run_bind,Sem.run_pure,Result.andThen_ok]
  rw [hr]
  rfl
 have fin:∀(v1:Value) (w1:World) (news:List Value),w1.ownsRow 0 e sz v1 (xs.length + ys.length) (cells++news)→(∀b y',ys[b]? =some y'→∀c,c < sz→∃u',news[b * sz + c]? =some u'∧Ow w (enc y' c) u' (G2 b c))→w.heap.size≤w1.heap.size→w1.os=w.os→w1.tape=w.tape→w1.output=w.output→(∀q,q < w.heap.size→some q≠(E i).u.ownBlock→w1.heap[q]? =w.heap[q]?)→(v1.ownBlock=(E i).u.ownBlock∨v1.ownBlock=some w.heap.size)→v1.oneCell'=true→
   Gm cx ((⟨I5 (c7 i [q0]) s.tm,(i,some (.row none e true sz enc (xs++ys)))::T4 [q0] (Y6 (c7 i [q0]) s.ob),s.nx⟩:St).sets dst (some (.c (.own i)))) (a.put dst v1) w1:=fun v1 w1 news r2 hnw r3 ros rt rop rb r5 hone=>by
  have hkeep:∀q,q < w.heap.size→¬(E i).F q→w1.heap[q]? =w.heap[q]? :=fun q hq hf=>rb q hq fun hb'=>hf (h2 q hb'.symm)
  have hne1:∀q,q < w.heap.size→some q≠(E i).u.ownBlock→v1.ownBlock≠some q:=fun q hq hn' hv=>by
   rcases r5 with h5 | h5
   ·rw [h5] at hv;exact hn' hv.symm
   ·rw [h5] at hv;cases hv;omega
  have hfresh:v1.ownBlock=some w.heap.size→w.heap.size < w1.heap.size:=fun hv=>by
   rcases r2.2 with⟨e1,_⟩ | ⟨g,cap,cur,e1,_,e2,_⟩
   ·rw [e1] at hv;simp [Value.ownBlock] at hv
   ·rw [e1] at hv
    simp [Value.ownBlock] at hv
    subst hv
    exact(Array.getElem?_eq_some_iff.1 e2).1
  have hlen':(xs++ys).length=xs.length + ys.length:=by simp
  have hobj:x6 (o6 E i [q0] ⟨v1,fun k=>(E i).F k∨v1.ownBlock=some k∨∃b c,G2 b c k,True,True⟩) S w1 i (.row none e true sz enc (xs++ys)):=by
   refine⟨by rw [Q9];trivial,fun v hv=>(by cases hv),?_⟩
   rw [Q9]
   simp only [if_true]
   refine⟨cells++news,fun b c k=>if b < xs.length then G b c k else G2 (b - xs.length) c k,by rw [hlen'];exact r2,fun g hg=> .inr (.inl hg),fun b c k hk=>?_,fun b c b' c' k hk hk'=>?_,fun b x' hx' c hc=>?_⟩
   ·dsimp only at hk
    split at hk
    ·obtain⟨e1,e2⟩:=h3 b c k hk
     exact⟨.inl e1,hne1 k (hI.fp i hli k e1).1 (fun e=>e2 e.symm)⟩
    ·have e1:=(k3 _ c k hk).1
     exact⟨.inr (.inr ⟨_,_,hk⟩),hne1 k (hI.fp q0 hlq k e1).1 (fun e=>hdd k (h2 k e.symm) e1)⟩
   ·dsimp only at hk hk'
    split at hk <;> split at hk'
    ·exact h4 b c b' c' k hk hk'
    ·exact absurd (k3 _ _ _ hk').1 (hdd k (h3 _ _ _ hk).1)
    ·exact absurd (k3 _ _ _ hk).1 (hdd k (h3 _ _ _ hk').1)
    ·obtain⟨e1,e2⟩:=k4 _ _ _ _ k hk hk'
     exact⟨by omega,e2⟩
   ·by_cases hb1:b < xs.length
    ·rw [List.getElem?_append_left hb1] at hx'
     obtain⟨u',e1,e2⟩:=h5 b x' hx' c hc
     refine⟨u',?_,Ow.move _ _ (fun k hk=>by dsimp only;rw [if_pos hb1];exact hk) (fun k hk=>?_) e2⟩
     ·rw [List.getElem?_append_left (by rw [h1.1];exact FX hb1 hc)]
      exact e1
     ·obtain⟨e3,e4⟩:=h3 b c k hk
      exact rb k (hI.fp i hli k e3).1 (fun e=>e4 e.symm)
    ·rw [List.getElem?_append_right (by omega)] at hx'
     obtain⟨u',e1,e2⟩:=hnw _ x' hx' c hc
     refine⟨u',?_,Ow.move _ _ (fun k hk=>by dsimp only;rw [if_neg hb1];exact hk) (fun k hk=>?_) e2⟩
     rotate_left
     ·have e3:=(k3 _ _ k hk).1
      exact hkeep k (hI.fp q0 hlq k e3).1 (fun e4=>hdd k e4 e3)
     have hle:xs.length * sz≤b * sz:=Nat.mul_le_mul_right _ (by omega)
     rw [List.getElem?_append_right (by rw [h1.1];omega),h1.1,show b * sz + c - xs.length * sz=(b - xs.length) * sz + c by rw [Nat.sub_mul];omega]
     exact e1
  have hW:=hI.write (w':=w1) (i:=i) (is:=[q0]) (x:=⟨v1,fun k=>(E i).F k∨v1.ownBlock=some k∨∃b c,G2 b c k,True,True⟩) (c7 i [q0]) hli (fun q hq=>by rw [List.mem_singleton] at hq;subst hq;exact hlq) trivial (fun a' ha'=>by
    simp only [c7,List.any_cons,List.any_nil,Bool.or_false,Bool.or_eq_false_iff] at ha'
    exact⟨fun q hq=>by rw [List.mem_singleton] at hq;subst hq;exact ha'.2,fun hn'=>(by rw [ha'.1] at hn';cases hn'),fun hr _=>by(have:=ha'.1;rw [r7 hr] at this;cases this)⟩)
   (fun k hk=>by
    rcases hk with hk | hk | ⟨b,c,hk⟩
    ·exact .inl hk
    ·rcases r5 with h5 | h5
     ·rw [h5] at hk;exact .inl (h2 k hk)
     ·have h6:=hfresh h5
      rw [h5] at hk
      cases hk
      exact .inr (.inr ⟨Nat.le_refl _,h6⟩)
    ·exact .inr (.inl ⟨q0,by simp,(k3 _ _ _ hk).1⟩))
   r3 ros rt rop hkeep hobj
  refine⟨_,S,?_,I8 (s:=⟨I5 (c7 i [q0]) s.tm,(i,some (.row none e true sz enc (xs++ys)))::T4 [q0] (Y6 (c7 i [q0]) s.ob),s.nx⟩) hd hn (O7.cut hW.2 hT) (fun v' e'=>?_),by rw [P8];exact hn,by rw [put_defers];exact hdf⟩
  ·rw [B7,A7];exact hW.1
  ·cases e'
   exact⟨by rw [Q9];trivial,by rw [Q9],hone⟩
 cases A with
 | none=>
  have hy0:ys=[]:=by
   rcases k1.2 with⟨_,hn0⟩ | ⟨g,cap',cur,e1,_⟩
   ·exact List.eq_nil_of_length_eq_zero hn0
   ·rw [hu2] at e1;cases e1
  subst hy0
  obtain⟨A',c',hu,hc⟩:=N5 h1
  refine⟨.value (E i).u,w,hexec _ _ ?_,.inl ⟨_,rfl,?_⟩,fun h=>by(cases h)⟩
  ·rw [hu]
   exact n1 t1 t2 A' _ c' cap hc w
  ·exact fin _ w [] (by simpa using h1) (fun b y' hb'=>by simp at hb') (Nat.le_refl _) rfl rfl rfl (fun _ _ _=>rfl) (.inl rfl) (by rw [hu];rfl)
 | some ad=>
  have had:∃g,ad=⟨g,0,none⟩:=by
   rcases k1.2 with⟨e1,_⟩ | ⟨g,cap',cur,e1,_⟩
   ·rw [hu2] at e1;cases e1
   ·rw [hu2] at e1;cases e1;exact⟨g,rfl⟩
  obtain⟨g0,rfl⟩:=had
  have hone2:∀u∈cells2,u.oneCell'=true:=fun u hu=>by
   obtain⟨j,hj⟩:=List.getElem?_of_mem hu
   have hjl:=(List.getElem?_eq_some_iff.1 hj).1
   rw [k1.1] at hjl
   have hqs:j / sz < ys.length:=by rw [Nat.div_lt_iff_lt_mul hpos];exact hjl
   obtain⟨u',e1,e2⟩:=k5 (j / sz) _ (List.getElem?_eq_getElem hqs) (j % sz) (Nat.mod_lt _ hpos)
   rw [show j / sz * sz + j % sz=j by rw [Nat.mul_comm];exact Nat.div_add_mod j sz,hj] at e1
   cases e1
   exact Rd.one (Ow.rd _ _ e2)
  obtain⟨v1,w1,r1,r2,r3,_,r5⟩:=run_append_own_at (P:=cx.P) w 0 t ty e ti tz sz by' t1 t2 t3 t4 t5 t6 hpos (E i).u xs.length cells h1 ⟨g0,0,none⟩ ys.length cap cells2 k1.1 (fun j u hu=>World.ownsRow.cells k1 (g:=g0) (by rw [hu2];rfl) j u hu) hone2 (by simp only [maxLen];omega) hlen (Nat.zero_le _)
  refine⟨.value v1,w1,hexec _ _ r1,.inl ⟨_,rfl,?_⟩,fun h=>by(cases h)⟩
  refine fin v1 w1 cells2 r2 (fun b y' hb' c hc=>k5 b y' hb' c hc) r3.size r3.os r3.tape r3.output r3.block r5 ?_
  obtain⟨A',c',hu,_⟩:=N5 r2
  rw [hu];rfl
theorem Gm.nil0 {a:Act} {w:World} (hg:Gm cx s a w)(i:Nat) {et sz:Nat} (deep:Bool) {α:Type} (enc:α→Nat→T)(hi:s.nx=i):
  Gm cx ⟨s.tm,(i,some (.row none et deep sz enc []))::s.ob,i + 1⟩ a w:=by
 subst hi
 obtain⟨E,S,hI,hT,hn,hdf⟩:=hg
 let E':=c5 E s.nx ⟨.slice none 0 0,fun _=>False,True,True⟩
 have hC:Carry E E' S S w w no:= {
  sub:=fun _ h=>h
  keep:=fun _ _=>rfl
  place:=fun a _ i _ hl=>by
   have:=hI.nxt i hl
   show(c5 E s.nx _ i).live∧(c5 E s.nx _ i).u=_
   rw [A8 (by omega)]
   exact⟨hl,rfl⟩
  reads:=fun a _ i _ hl=>by
   have:=hI.nxt i hl.1
   show((c5 E s.nx _ i).live∧(c5 E s.nx _ i).rd)∧(∀k,_→(c5 E s.nx _ i).F k)∧_
   rw [A8 (by omega)]
   exact⟨hl,fun _ q=>q,fun _ _=>rfl⟩}
 refine⟨E',S,⟨hI.slt,hI.snew,fun j o hj=>?_,fun j j' hij hj hj' k h1 h2=>?_,fun j hj k hk=>?_,fun j hj=>?_,hI.kept⟩,fun t' v hv'=>?_,hn,hdf⟩
 ·rw [D9] at hj
  by_cases e:j=s.nx
  ·subst e
   rw [if_pos rfl] at hj
   cases hj
   refine⟨by show(c5 E s.nx _ s.nx).live;rw [W8];trivial,by show(c5 E s.nx _ s.nx).rd;rw [W8];trivial,fun v hv=>(by cases hv),?_⟩
   show if deep=true then AP w et sz enc [] (c5 E s.nx _ s.nx).u (c5 E s.nx _ s.nx).F else Ro w S et sz enc [] (c5 E s.nx _ s.nx).u (c5 E s.nx _ s.nx).F
   rw [W8]
   cases deep
   ·exact⟨[],World.ownsRow_nil _ _ _ _,fun g h=>by simp [Value.ownBlock] at h,fun i x h=>by simp at h⟩
   ·exact⟨[],fun _ _ _=>False,World.ownsRow_nil _ _ _ _,fun g h=>by simp [Value.ownBlock] at h,fun _ _ _ h=>h.elim,fun _ _ _ _ _ h=>h.elim,fun i x h=>by simp at h⟩
  ·rw [if_neg e] at hj
   obtain⟨h1,h2⟩:=hI.obs j o hj
   refine⟨by show(c5 E s.nx _ j).live;rw [A8 e];exact h1,?_⟩
   have:=x6.carry hC (i:=j) (by show(c5 E s.nx _ j).u=_;rw [A8 e]) (fun k=>by show(c5 E s.nx _ j).F k↔_;rw [A8 e]) (by show(c5 E s.nx _ j).rd↔_;rw [A8 e]) (fun _ _=>rfl) h2
   rwa [Ob.cut_none] at this
 ·have h1':(c5 E s.nx ⟨.slice none 0 0,fun _=>False,True,True⟩ j).F k:=h1
  have h2':(c5 E s.nx ⟨.slice none 0 0,fun _=>False,True,True⟩ j').F k:=h2
  have hj1:(c5 E s.nx ⟨.slice none 0 0,fun _=>False,True,True⟩ j).live:=hj
  have hj2:(c5 E s.nx ⟨.slice none 0 0,fun _=>False,True,True⟩ j').live:=hj'
  by_cases e1:j=s.nx
  ·subst e1;rw [W8] at h1';exact h1'
  ·by_cases e2:j'=s.nx
   ·subst e2;rw [W8] at h2';exact h2'
   ·rw [A8 e1] at h1' hj1;rw [A8 e2] at h2' hj2
    exact hI.dis j j' hij hj1 hj2 k h1' h2'
 ·have hk':(c5 E s.nx ⟨.slice none 0 0,fun _=>False,True,True⟩ j).F k:=hk
  have hj1:(c5 E s.nx ⟨.slice none 0 0,fun _=>False,True,True⟩ j).live:=hj
  by_cases e1:j=s.nx
  ·subst e1;rw [W8] at hk';exact hk'.elim
  ·rw [A8 e1] at hk' hj1;exact hI.fp j hj1 k hk'
 ·have hj1:(c5 E s.nx ⟨.slice none 0 0,fun _=>False,True,True⟩ j).live:=hj
  by_cases e1:j=s.nx
  ·show j < s.nx + 1;omega
  ·rw [A8 e1] at hj1
   have:=hI.nxt j hj1
   show j < s.nx + 1
   omega
 ·exact O7.carry hC hT t' v hv'

theorem wK (i:Nat) {t e sz:Nat} {zs:List Value} {parts:Array (Nat × Operand)} {vs:List (Nat × AV)} {us:List AC} {α:Type} {enc:α→Nat→T} (z:α) {is:List Nat} (hi:s.nx=i)(hd:Q6 dst cx.n=true)(he:PZ cx.P t=some (e,sz,zs))(hz:Nat.beq zs.length sz=true)(h1:zs.all (·.oneCell')=true)(hsmall:Nat.ble (1 * sz) 16777216=true)(hv:mL (s.obj i (.row none e true sz enc [])) parts.toList=some vs)(hc:MY (fun i=>some (i * sz,sz)) (List.replicate (1 * sz) .top) vs=some us)(hul:Nat.beq us.length sz=true)
  (hm:xM (s.obj i (.row none e true sz enc [])) true us (enc z) 0 is) (hii:is.all (fun k=>!Nat.beq k i)=true):
  Os cx s ⟨dst,.buildSlice t 1 parts,ty,pos,aft,none⟩ ((⟨I5 (c7 i is) s.tm,(i,some (.row none e true sz enc [z]))::T4 is (Y6 (c7 i is) (s.obj i (.row none e true sz enc [])).ob),i + 1⟩:St).sets dst (some (.c (.own i)))) false:=by
 refine Z3 fun a w hg=>?_
 have hg0:Gm cx (s.obj i (.row none e true sz enc [])) a w:=Gm.nil0 (et:=e) (sz:=sz) hg i true enc hi
 obtain⟨E,S,hI,hT,hn,hdf⟩:=hg0
 have hz:=Nat.eq_of_beq_eq_true hz
 have hul:=Nat.eq_of_beq_eq_true hul
 have htop:r6 E S w (List.replicate (1 * sz) .top) ((Array.range (1 * sz)).map (zs.toArray[· % zs.length]!)).toList:=by
  refine⟨by simp,fun j c hj=>?_⟩
  rw [List.getElem?_replicate] at hj
  split at hj
  ·rename_i hlt
   cases hj
   have hpos:0 < zs.length:=by
    rcases Nat.eq_zero_or_pos zs.length with h0 | h0
    ·rw [h0] at hz;subst hz;simp at hlt
    ·exact h0
   have hm:j % zs.length < zs.length:=Nat.mod_lt _ hpos
   rw [Nat.one_mul] at hlt
   refine⟨zs[j % zs.length],by simp [hlt,hm],?_⟩
   exact(List.all_eq_true.1 h1) _ (List.getElem_mem hm)
  ·cases hj
 obtain⟨us',h4,h5⟩:=CZ hT parts.toList vs _ us _ hv hc htop
 have hr:=PY (P:=cx.P) he hz 1 (parts.map fun(i,x)=>(i,a.eval x)) us' (by simpa using hsmall) w (by rw [Array.toList_map];exact h4)
 have hob:y9 (s.obj i (.row none e true sz enc [])).ob i=some (.row none e true sz enc []):=by
  show y9 ((i,_)::s.ob) i=_
  rw [D9,if_pos rfl]
 obtain⟨hli,hrd,_,_⟩:=hI.obs _ _ hob
 obtain⟨m1,_,m3⟩:=hm.den hI h5
 obtain⟨Gz,g1,g2,g3⟩:=m3 rfl
 have hlen:us'.toList.length=sz:=h5.1.trans hul
 have his:∀q∈is,q≠i:=fun q hq e=>by
  have:=(List.all_eq_true.1 hii) q hq
  subst e
  simp at this
 have hGlt:∀c k,Gz c k→k < w.heap.size:=fun c k hk=>by
  obtain⟨q,hq,hf⟩:=g1 c k hk
  exact(hI.fp q (m1 q hq) k hf).1
 let w1:=w.alloc (.cells us'.toList.toArray e (0,0))
 have hkeep:∀k,k < w.heap.size→w1.heap[k]? =w.heap[k]? :=fun k hk=>heap_alloc_old w _ hk
 refine⟨.value (.slice (some ⟨w.heap.size,0,none⟩) 1 1),w1,?_,.inl ⟨_,rfl,?_⟩,fun h=>by(cases h)⟩
 ·simp only [execOp]
  rw [Sem.run_bind,hr]
  rfl
 ·let x:EE:=⟨.slice (some ⟨w.heap.size,0,none⟩) 1 1,fun k=>k=w.heap.size∨∃q∈is,(E q).F k,True,True⟩
  have hobj:x6 (o6 E i is x) S w1 i (.row none e true sz enc [z]):=by
   refine⟨by rw [Q9];trivial,fun v hv=>(by cases hv),?_⟩
   rw [Q9]
   simp only [if_true]
   refine⟨us'.toList,fun b c k=>b=0∧Gz c k,⟨by simp [hlen],.inr ⟨w.heap.size,1,_,rfl,Nat.zero_le _,heap_alloc_new w _,Nat.le_refl _,by simp [maxLen],by rw [Nat.one_mul];simpa using hlen,by rw [List.length_singleton,Nat.one_mul];exact List.take_of_length_le (Nat.le_of_eq hlen)⟩⟩,fun g hg=> .inl (by simp only [Value.ownBlock,x,Option.some.injEq] at hg;exact hg.symm),fun b c k hk=>⟨?_,?_⟩,fun b c b' c' k hk hk'=>⟨by rw [hk.1,hk'.1],g2 c c' k hk.2 hk'.2⟩,fun b y hb c hc=>?_⟩
   ·obtain⟨q,hq,hf⟩:=g1 c k hk.2
    exact .inr ⟨q,hq,hf⟩
   ·have:=hGlt c k hk.2
    simp only [Value.ownBlock,x,ne_eq,Option.some.injEq]
    omega
   ·match b,hb with
    | 0,hb=>
     cases hb
     obtain⟨u',e1,e2⟩:=g3 c (by omega)
     refine⟨u',by simpa using e1,?_⟩
     rw [Nat.zero_add] at e2
     exact Ow.move _ _ (fun k hk=>⟨rfl,hk⟩) (fun k hk=>hkeep k (hGlt c k hk)) e2
  have hW:=hI.write (w':=w1) (i:=i) (is:=is) (x:=x) (c7 i is) hli m1 trivial (fun a' ha'=>by
    simp only [c7,Bool.or_eq_false_iff] at ha'
    exact⟨fun q hq=>by
     have:=ha'.2
     rw [List.any_eq_false] at this
     simpa using this q hq,fun hn'=>(by rw [ha'.1] at hn';cases hn'),fun hr _=>(by have:=ha'.1;rw [r7 hr] at this;cases this)⟩)
   (fun k hk=>by
    rcases hk with hk | ⟨q,hq,hk⟩
    ·exact .inr (.inr ⟨by omega,by subst hk;simp [w1]⟩)
    ·exact .inr (.inl ⟨q,hq,hk⟩))
   (by simp [w1]) rfl rfl rfl (fun k hk _=>hkeep k hk) hobj
  refine⟨_,S,?_,I8 (s:=⟨I5 (c7 i is) s.tm,(i,some (.row none e true sz enc [z]))::T4 is (Y6 (c7 i is) (s.obj i (.row none e true sz enc [])).ob),i + 1⟩) hd hn (O7.cut hW.2 hT) (fun v' e'=>?_),by rw [P8];exact hn,by rw [put_defers];exact hdf⟩
  ·rw [B7,A7];exact hW.1
  ·cases e'
   exact⟨by rw [Q9];trivial,by rw [Q9],rfl⟩
end rules
end Go.Eng

set_option linter.unusedVariables false
set_option linter.unusedSimpArgs false
namespace Go.Eng
open Go Go.RowKit
theorem bO {motive:Nat→Prop} (h:∀n,(∀m,m < n→motive m)→motive n):∀n,motive n:=fun n=>Nat.strongRecOn n h
section rules
variable {cx:Cx} {s:St} {dst:Option Nat} {ty:TypeId} {pos:String} {aft:Array Edge}
theorem tO (i:Nat) {g:FuncId} {xs:Array Operand} {ats:Array TypeId} {cargs:List AV} {pn:Option Value} {e sz:Nat} {α:Type} {enc:α→Nat→T} {l:List α} {e2 sz2:Nat} {β:Type} {enc2:β→Nat→T} (l':List β) {nx':Nat} (hE:Go.Proofs.Enters cx.P g)
  (hC:∀U:Nat→Value,Mu cx.P g cargs [(0,some (.row (some (U 0)) e true sz enc l))] 1 [(0,some (.row none e2 true sz2 enc2 l'))] nx' (.c (.own 0))) (hd:Q6 dst cx.n=true) (hb:y9 s.ob i=some (.row pn e true sz enc l)) (ha:GX s [⟨i,pn,e,sz,α,enc,l,l⟩] xs.toList cargs):
  Os cx s ⟨dst,.call {callee:=.value (.func g),args:=xs,argTypes:=ats},ty,pos,aft,none⟩ ((⟨I5 (c7 i []) s.tm,(i,some (.row none e2 true sz2 enc2 l'))::T4 [] (Y6 (c7 i []) s.ob),s.nx⟩:St).sets dst (some (.c (.own i)))) false:=by
 intro Q a w hg
 obtain⟨E,S,hI,hT,hn,hdf⟩:=hg
 obtain⟨hl,hrd,hpn,ho⟩:=hI.obs _ _ hb
 unfold Oper.wp
 rw [execOp_call_go,hE]
 have hargs:#[]++Array.map a.eval xs++#[]=(xs.toList.map a.eval).toArray:=by
  apply Array.ext'
  simp
 rw [hargs,Oper.upon_enter]
 let hs:List Hd:=[⟨i,pn,e,sz,α,enc,l,l⟩]
 let S':Nat→Prop:=fun k=>k < w.heap.size∧¬(E i).F k
 have e0:W3 E hs 0=E i:=rfl
 have hlive:∀j,(W3 E hs j).live→j=0:=fun j h=>by
  match j with
  | 0=>rfl
  | j + 1=>exact h.elim
 have hI0:G6 ⟨cx.P,g,0,w,S',K7 (W3 E hs)⟩ [(0,some (.row (some (E i).u) e true sz enc l))] 1 (W3 E hs) S' w:=by
  refine⟨fun k h=>h.1,fun k h=> .inl h,fun j o hj=>?_,fun j j' hij hj hj'=>absurd ((hlive j hj).trans (hlive j' hj').symm) hij,fun j hj k hk=>?_,fun j hj=>by rw [hlive j hj];exact Nat.one_pos,xZ.refl _ _⟩
  ·rw [D9] at hj
   split at hj
   ·rename_i hj0
    subst hj0
    cases hj
    rw [e0]
    refine⟨hl,by rw [e0];exact hrd,fun v hv=>by rw [e0];exact Option.some.inj hv,?_⟩
    rw [e0]
    exact ho
   ·simp [y9] at hj
  ·have hj0:=hlive j hj
   subst hj0
   rw [e0] at hk
   exact⟨(hI.fp i hl k hk).1,fun h=>h.2 hk,.inr ⟨0,by rw [e0];exact hl,by rw [e0];exact hk⟩⟩
 have hSS:∀k,S k→S' k:=fun k h=>⟨hI.slt k h,fun hf=>(hI.fp i hl k hf).2.1 h⟩
 refine(hC (fun _=>(E i).u) 0 w (W3 E hs) S' (xs.toList.map a.eval) hI0 (ha.den hSS hT)).mono ?_
 rintro en w' ⟨u,E',S2,rfl,hI',hu⟩
 obtain⟨hl',hrd',_,ho'⟩:=hI'.obs 0 _ rfl
 obtain⟨_,hu0,hu1⟩:=hu
 have hM:∀k,K7 (W3 E hs) k→(E i).F k:=fun k ⟨j,h1,h2⟩=>by
  have:=hlive j h1
  subst this
  rwa [e0] at h2
 have hobj:x6 (o6 E i [] ⟨u,(E' 0).F,True,True⟩) S w' i (.row none e2 true sz2 enc2 l'):=by
  refine⟨by rw [Q9];trivial,fun v hv=>(by cases hv),?_⟩
  rw [Q9]
  simp only [if_true] at ho' ⊢
  rw [← hu0] at ho'
  exact ho'
 have hW:=hI.write (w':=w') (i:=i) (is:=[]) (x:=⟨u,(E' 0).F,True,True⟩) (c7 i []) hl (fun q hq=>by simp at hq) trivial (fun a' ha'=>by
   simp only [c7,List.any_nil,Bool.or_false] at ha'
   exact⟨fun q hq=>by simp at hq,fun hn'=>(by rw [ha'] at hn';cases hn'),fun hr _=>by(rw [r7 hr] at ha';cases ha')⟩)
  (fun k hk=>by
   obtain⟨h1,_,h3⟩:=hI'.fp 0 hl' k hk
   rcases h3 with h3 | h3
   ·exact .inr (.inr ⟨h3,h1⟩)
   ·exact .inl (hM k h3))
  hI'.kept.size hI'.kept.os hI'.kept.tape hI'.kept.output (fun k hk hf=>hI'.kept.block k hk fun h=>hf (hM k h)) hobj
 refine⟨⟨o6 E i [] ⟨u,(E' 0).F,True,True⟩,S,?_,I8 (s:=⟨I5 (c7 i []) s.tm,(i,some (.row none e2 true sz2 enc2 l'))::T4 [] (Y6 (c7 i []) s.ob),s.nx⟩) hd hn (O7.cut hW.2 hT) (fun v' e'=>?_),by rw [P8];exact hn,by rw [put_defers];exact hdf⟩,fun h=>by(cases h)⟩
 ·rw [B7,A7]
  exact hW.1
 ·cases e'
  exact⟨by rw [Q9];trivial,by rw [Q9],hu1⟩
theorem Q1 {R:Ending→World→Prop} {todo:List Item} (t i t2:Nat) {v2:Value} {pn:Option Value} {e sz:Nat} {deep:Bool} {α:Type} {enc:α→Nat→T} {xs:List α} (ht:y9 s.tm t=some (.c (.own i)))(ht2:y9 s.tm t2=some (sc v2))(hb:y9 s.ob i=some (.row pn e deep sz enc xs))(hne:Nat.beq t2 t=false)
  (h:Wt cx ⟨[(t,some (.c (.own 0))),(t2,some (sc v2))],[(0,some (.row none e deep sz enc xs))],1⟩ todo R):Wt cx s todo R:=by
 intro a w hg
 refine h a w ?_
 obtain⟨E,S,hI,hT,hsz,hdf⟩:=hg
 obtain⟨h1,h2,h3,h4⟩:=hI.obs _ _ hb
 let X:Nat→EE:=fun j=>if j=0 then E i else A5
 have e0:X 0=E i:=rfl
 have hl:∀j,(X j).live→j=0:=fun j hj=>by
  match j,hj with
  | 0,_=>rfl
  | j + 1,hj=>exact hj.elim
 refine⟨X,S,⟨hI.slt,hI.snew,fun j o hj=>?_,fun j j' hij hj hj'=>absurd ((hl j hj).trans (hl j' hj').symm) hij,fun j hj k hk=>?_,fun j hj=>by rw [hl j hj];exact Nat.one_pos,hI.kept⟩,fun t' v' ht'=>?_,hsz,hdf⟩
 ·rw [D9] at hj
  split at hj
  ·rename_i ej
   subst ej
   cases hj
   refine⟨by rw [e0];exact h1,by rw [e0];exact h2,fun v hv=>(by cases hv),?_⟩
   rw [e0]
   exact h4
  ·simp [y9] at hj
 ·have ej:=hl j hj
  subst ej
  rw [e0] at hk
  exact hI.fp i h1 k hk
 ·rw [D9] at ht'
  split at ht'
  ·rename_i ej
   subst ej
   cases ht'
   obtain⟨q1,q2,q3⟩:=hT _ _ ht
   exact⟨by rw [e0];exact q1,by rw [e0];exact q2,q3⟩
  ·rw [D9] at ht'
   split at ht'
   ·rename_i ej2
    subst ej2
    cases ht'
    have:=hT _ _ ht2
    exact⟨trivial,this.2⟩
   ·simp [y9] at ht'
end rules
def y6 (b:List Int) (p:Int × Int):Option (List Int):=
 if p.1 < 0 then(if -1 - p.1=p.2 then some b else none)
 else match b[p.1.toNat]? with
  | some y=>if y=10∨y=p.2 then some (b.set p.1.toNat p.2) else none
  | none=>none
def B1:List Int→List (Int × Int)→List Int × Bool
 | b,[]=>(b,true)
 | b,p::ps=>match y6 b p with
  | some b'=>B1 b' ps
  | none=>(b,false)
theorem gQ {b b':List Int} {p:Int × Int} (h:y6 b p=some b'):b'.length=b.length:=by
 unfold y6 at h
 split at h
 ·split at h
  ·cases h;rfl
  ·cases h
 ·split at h
  ·split at h
   ·cases h;simp
   ·cases h
  ·cases h
theorem KR:∀(ps:List (Int × Int)) (b:List Int),(B1 b ps).1.length=b.length
 | [],b=>rfl
 | p::ps,b=>by
  unfold B1
  split
  ·rename_i b' h
   rw [KR ps b',gQ h]
  ·rfl
theorem WU:∀(ps qs:List (Int × Int)) (b q:List Int),B1 b ps=(q,true)→B1 b (ps++qs)=B1 q qs
 | [],qs,b,q,h=>by
  simp only [B1,Prod.mk.injEq,and_true] at h
  subst h
  rfl
 | p::ps,qs,b,q,h=>by
  simp only [List.cons_append,B1] at h ⊢
  cases hs:y6 b p with
  | some b'=>
   simp only [hs] at h ⊢
   exact WU ps qs b' q h
  | none=>
   simp only [hs] at h
   cases h
section
variable {ts vs b q:List Int} {m n n':Nat} {t v y:Int}
theorem hZ (ht:ts[n]? =some t)(hv:vs[n']? =some v)(e:n=m)(e':n'=m):(ts.zip vs)[m]? =some (t,v):=by
 subst e e'
 rw [List.getElem?_zip_eq_some]
 exact⟨ht,hv⟩
theorem AZ {q':List Int} (h:B1 b ((ts.zip vs).take m)=(q,true))(hz:(ts.zip vs)[m]? =some (t,v))(hs:y6 q (t,v)=some q'):B1 b ((ts.zip vs).take (m + 1))=(q',true):=by
 rw [List.take_add_one,hz,WU _ _ _ _ h]
 simp only [Option.toList_some,B1,hs]
theorem mU (h:B1 b ((ts.zip vs).take m)=(q,true))(hz:(ts.zip vs)[m]? =some (t,v))(hs:y6 q (t,v)=none):B1 b (ts.zip vs)=(q,false):=by
 have hm:=(List.getElem?_eq_some_iff.1 hz).1
 have hz2:=(List.getElem?_eq_some_iff.1 hz).2
 rw [← List.take_append_drop m (ts.zip vs),WU _ _ _ _ h,List.drop_eq_getElem_cons hm,hz2]
 simp only [B1,hs]
theorem AO (h:B1 b ((ts.zip vs).take m)=(q,true))(hm:ts.length≤m):B1 b (ts.zip vs)=(q,true):=by
 rw [← h,List.take_of_length_le]
 rw [List.length_zip]
 omega
theorem LP (ht:t < 0)(hv: -1 - t=v):y6 q (t,v)=some q:=by unfold y6;rw [if_pos ht,if_pos hv]
theorem BU (ht:t < 0)(hv: -1 - t≠v):y6 q (t,v)=none:=by unfold y6;rw [if_pos ht,if_neg hv]
theorem yR (ht:¬t < 0)(hy:q[t.toNat]? =some y)(hv:y=10∨y=v):y6 q (t,v)=some (q.set t.toNat v):=by
 unfold y6;rw [if_neg ht];simp only [hy];rw [if_pos hv]
theorem xK (ht:¬t < 0)(hy:q[t.toNat]? =some y)(h1:y≠10)(h2:y≠v):y6 q (t,v)=none:=by
 unfold y6;rw [if_neg ht];simp only [hy];rw [if_neg (fun h=>h.elim h1 h2)]
theorem gI (ht:¬t < 0)(hy:q[t.toNat]? =some y)(hv:y=v):y6 q (t,v)=some q:=by
 rw [yR ht hy (.inr hv)]
 subst hv
 obtain⟨h1,h2⟩:=List.getElem?_eq_some_iff.1 hy
 rw [← h2,List.set_getElem_self]
end
def w5 (a f:Int × List Int) (b:List Int):List Int × Bool:=if a.1=f.1 then B1 b (a.2.zip f.2) else(b,false)
theorem AU (a f:Int × List Int)(b:List Int):(w5 a f b).1.length=b.length:=by
 unfold w5
 split
 ·exact KR _ _
 ·rfl
theorem vZ {r r2:Int} {ts vs b:List Int} {x:List Int × Bool} (h:r=r2)(e:B1 b (ts.zip vs)=x):w5 (r,ts) (r2,vs) b=x:=(if_pos h).trans e
theorem sO {r r2:Int} {ts vs b:List Int} (h:¬r=r2):w5 (r,ts) (r2,vs) b=(b,false):=if_neg h
def v8 (fs:List (Int × List Int)):List (Int × List Int)→List Int→List (List Int)
 | [],b=>[b]
 | a::al,b=>fs.flatMap fun f=>if (w5 a f b).2=true then v8 fs al (w5 a f b).1 else []
theorem dW (fs:List (Int × List Int)):∀(l:List (Int × List Int)) (b:List Int),(v8 fs l b).length≤fs.length ^ l.length
 | [],b=>by simp [v8]
 | a::al,b=>by
  unfold v8
  have h:∀gs:List (Int × List Int),(gs.flatMap fun f=>if (w5 a f b).2=true then v8 fs al (w5 a f b).1 else []).length≤gs.length * fs.length ^ al.length:=by
   intro gs
   induction gs with
   | nil=>simp
   | cons g gs ih=>
    rw [List.flatMap_cons,List.length_append,List.length_cons,Nat.succ_mul]
    have h1:(if (w5 a g b).2=true then v8 fs al (w5 a g b).1 else []).length≤fs.length ^ al.length:=by
     split
     ·exact dW fs al _
     ·simp
    omega
  have:=h fs
  rw [List.length_cons,Nat.pow_succ,Nat.mul_comm]
  exact this
theorem Y2 {fs l:List (Int × List Int)} (hf:fs.length≤30)(hl:l.length≤3)(b:List Int):(v8 fs l b).length≤27000:=by
 refine Nat.le_trans (dW fs l b) ?_
 calc fs.length ^ l.length≤30 ^ l.length:=Nat.pow_le_pow_left hf _
  _≤30 ^ 3:=Nat.pow_le_pow_right (by decide) hl
def P6 (fs:List (Int × List Int)) (l:List (Int × List Int)) (b:List Int) (m:Nat):List (List Int):=match l with
 | []=>[b]
 | a::al=>(fs.take m).flatMap fun f=>if (w5 a f b).2=true then v8 fs al (w5 a f b).1 else []
section
variable {fs l:List (Int × List Int)} {b:List Int} {m n n':Nat} {a f:Int × List Int}
theorem GV (ha:l[n]? =some a)(e:n=0)(hf:fs[n']? =some f)(e':n'=m):P6 fs l b (m + 1)=P6 fs l b m++(if (w5 a f b).2=true then v8 fs (l.drop 1) (w5 a f b).1 else []):=by
 subst e e'
 cases l with
 | nil=>simp at ha
 | cons a' l=>
  cases ha
  simp only [P6]
  rw [List.take_add_one,hf,List.flatMap_append]
  simp
theorem RU (ha:l[n]? =some a)(e:n=0)(hf:fs[n']? =some f)(e':n'=m)(h:(w5 a f b).2=true):P6 fs l b (m + 1)=P6 fs l b m++v8 fs (l.drop 1) (w5 a f b).1:=by
 rw [GV ha e hf e',if_pos h]
theorem DS (ha:l[n]? =some a)(e:n=0)(hf:fs[n']? =some f)(e':n'=m)(h:(w5 a f b).2=false):P6 fs l b (m + 1)=P6 fs l b m:=by
 rw [GV ha e hf e',h]
 simp
theorem pT (hl:l≠ [])(hm:fs.length≤m):P6 fs l b m=v8 fs l b:=by
 cases l with
 | nil=>exact absurd rfl hl
 | cons a l=>
  simp only [P6,v8]
  rw [List.take_of_length_le hm]
theorem wM (hl:l≠ []):(P6 fs l b m).length≤(v8 fs l b).length:=by
 cases l with
 | nil=>exact absurd rfl hl
 | cons a l=>
  simp only [P6,v8]
  have key:∀g:Int × List Int→List (List Int),((fs.take m).flatMap g).length≤(fs.flatMap g).length:=fun g=>by
   conv=>rhs;rw [← List.take_append_drop m fs]
   rw [List.flatMap_append,List.length_append]
   omega
  exact key _
theorem dV {l:List (Int × List Int)} (h:¬((l.length:Nat):Int)=0):l≠ []:=fun e=>by subst e;exact h rfl
theorem yL (h:¬((l.length:Nat):Int)=0):P6 fs l b 0=[]:=by
 cases l with
 | nil=>exact absurd rfl h
 | cons a l=>simp [P6]
theorem FP (h:((l.length:Nat):Int)=0):v8 fs l b=[b]:=by
 cases l with
 | nil=>simp [v8]
 | cons a l=>simp at h;omega
theorem VP {l2:List (Int × List Int)} {b2:List Int} (hf:fs.length≤30)(hl:l.length≤3)(hne:l≠ [])(hl2:l2.length≤3):(P6 fs l b m).length +(v8 fs l2 b2).length≤54000:=by
 have e8:=Y2 hf hl b
 have e9:=wM (fs:=fs) (b:=b) (m:=m) hne
 have e10:=Y2 hf hl2 b2
 omega
theorem oQ {x:Int × List Int} {k:Nat} (h:x∈(l.take k).drop 1):x∈l:=List.mem_of_mem_take (List.mem_of_mem_drop h)
theorem BR {k:Int} (h:¬k=((l.length:Nat):Int))(hk:0≤k∧k≤l.length):l.drop k.toNat≠ []:=fun e=>by
 have:=congrArg List.length e
 rw [List.length_drop,List.length_nil] at this
 omega
theorem jQ {n:Nat} {z:Int × List Int} (h:l[n]? =some z):(l.drop n)[0]? =some z:=by rw [List.getElem?_drop];exact h
theorem DL {k:Int} {l2:List (Int × List Int)} {b2:List Int} (hf:fs.length≤30)(hl:l.length≤3)(h:¬k=((l.length:Nat):Int))(hk:0≤k∧k≤l.length)(hl2:l2.length≤3):(P6 fs (l.drop k.toNat) b m).length +(v8 fs l2 b2).length≤54000:=VP hf (by rw [List.length_drop];omega) (BR h hk) hl2
theorem SM {k k2:Int} {b':List Int} (ha:l[k.toNat]? =some a)(hf:fs[n']? =some f)(e':n'=m)(h:(w5 a f b).2=true)(hk:k2.toNat=k.toNat + 1)(hb':(w5 a f b).1=b'):P6 fs (l.drop k.toNat) b m++v8 fs (l.drop k2.toNat) b'=P6 fs (l.drop k.toNat) b (m + 1):=by
 rw [RU (jQ ha) rfl hf e' h,List.drop_drop,hk,hb']
theorem kJ {k:Int} (ha:l[k.toNat]? =some a)(hf:fs[n']? =some f)(e':n'=m)(h:(w5 a f b).2=false):P6 fs (l.drop k.toNat) b m=P6 fs (l.drop k.toNat) b (m + 1):=(DS (jQ ha) rfl hf e' h).symm
theorem jH {k:Int} (h:¬k=((l.length:Nat):Int))(hk:0≤k∧k≤l.length):P6 fs (l.drop k.toNat) b 0=[]:=by
 have:=BR h hk
 cases hd:l.drop k.toNat with
 | nil=>exact absurd hd this
 | cons a l=>simp [P6]
theorem lK {k:Int} (h:k=((l.length:Nat):Int)):v8 fs (l.drop k.toNat) b=[b]:=by
 rw [h,show((l.length:Nat):Int).toNat=l.length from rfl,List.drop_length]
 simp [v8]
end
def xX (rs:V9) (fs l:p9):Bool:=M8 rs fs&&(decide (l.length≤3)&&!l.any (G7 rs))
def wU (rs:V9) (fs l:p9) (b:List Int):Bool:=xX rs fs l&&(decide (b.length=5)&&decide (0 < (v8 fs l b).length))
theorem lO {rs:V9} {r:Int} {ts:List Int} (h:v6 rs r ts=true):∃x,rs[r.toNat]? =some x∧((ts.length:Nat):Int)=x.2.1:=by
 unfold v6 at h
 simp only [Bool.and_eq_true] at h
 have h4:=h.2.2.1
 cases hx:rs[r.toNat]? with
 | none=>rw [hx] at h4;cases h4
 | some x=>
  rw [hx] at h4
  exact⟨x,rfl,by simpa using h4⟩
theorem mV {rs:V9} {fs:p9} (h:M8 rs fs=true) {f:Int × List Int} (hf:f∈fs):v6 rs f.1 f.2=true:=by
 unfold M8 at h
 simp only [Bool.and_eq_true,decide_eq_true_eq] at h
 obtain⟨j,hj⟩:=List.getElem?_of_mem hf
 have h1:=h.1 j (List.getElem?_eq_some_iff.1 hj).1
 rw [A4 hj] at h1
 simp only [Bool.and_eq_true] at h1
 exact h1.1
theorem ZK {rs:V9} {fs:p9} (h:M8 rs fs=true):fs.length≤30:=by
 unfold M8 at h
 simp only [Bool.and_eq_true,decide_eq_true_eq] at h
 exact h.2.2
theorem M3 {rs:V9} {fs l:p9} (h:xX rs fs l=true):fs.length≤30∧l.length≤3∧(∀a∈l,∀f∈fs,a.1=f.1→a.2.length=f.2.length)∧(∀a∈l,(∀t∈a.2, -10≤t∧t≤4)∧a.2.length≤4611686018427387904):=by
 unfold xX at h
 simp only [Bool.and_eq_true,decide_eq_true_eq,Bool.not_eq_true',List.any_eq_false] at h
 obtain⟨h1,h2,h3⟩:=h
 have ha:∀a∈l,F5 rs a.1 a.2=true:=fun a ha=>by
  have:=h3 a ha
  simpa [G7] using this
 refine⟨ZK h1,h2,fun a haa f hf e=>?_,fun a haa=>⟨fun t ht=>?_,?_⟩⟩
 ·obtain⟨_,_,_,_,x,e1,e2⟩:=B3 (ha a haa)
  obtain⟨y,e3,e4⟩:=lO (mV h1 hf)
  rw [e,e3] at e1
  cases e1
  omega
 ·have h4:=ha a haa
  unfold F5 at h4
  simp only [Bool.and_eq_true,Bool.not_eq_true',List.any_eq_false] at h4
  have h5:=h4.2.2.2 t ht
  have h6:X4 t=true:=by simpa using h5
  unfold X4 at h6
  exact of_decide_eq_true h6
 ·have:=(B3 (ha a haa)).2.2.2.1
  omega
end Go.Eng

set_option linter.unusedVariables false
set_option linter.unusedSimpArgs false
namespace Go.Eng
open Go Go.RowKit
def sU (fs:p9) (f:Int × List Int):Bool:=fs.any fun x=>decide (S8 x f=0)
def TZ (V b:List Int) (j:Nat):Bool:=match b[j]? with
 | some z=>decide (z=10) != kZ V (j:Int)
 | none=>true
def YX (V b:List Int):Bool:=decide (∀j,j < b.length→TZ V b j=true)
def U4 (fs:p9) (b:List Int) (a:Int × List Int):Bool:=match Y8 b a.2 with
 | some v=>sU fs (a.1,v)
 | none=>false
def J5 (rs:V9) (fs a0 a1:p9) (a2:Bool) (a3 a4:Int) (b:List Int):Bool:=
 (M8 rs fs&&(D6 rs a0 a1 a2 a3 a4&&decide (b.length=5)))&&(YX (G9 (F9 a0)) b&&a0.all (U4 fs b))
theorem GJ {z:Int} {q:Bool} (h:(decide (z≠10) != q)=true):(decide (z=10) != q)=false:=by by_cases e:z=10 <;> cases q <;> simp_all
theorem UJ {z:Int} {q:Bool} (h:(q == decide (z=10))=true):(decide (z=10) != q)=false:=by by_cases e:z=10 <;> cases q <;> simp_all
theorem mH {z:Int} {q:Bool} (h:(decide (z≠10) != q)=false):(decide (z=10) != q)=true:=by by_cases e:z=10 <;> cases q <;> simp_all
theorem ZI {z:Int} {q:Bool} (h:(q == decide (z=10))=false):(decide (z=10) != q)=true:=by by_cases e:z=10 <;> cases q <;> simp_all
section
variable {V b:List Int} {m:Nat} {z:Int} {fs:p9} {a:Int × List Int}
theorem B0 (hz:b[m]? =some z):TZ V b m=(decide (z=10) != kZ V (m:Int)):=by unfold TZ;rw [hz]
theorem OU (hm:m < b.length)(h:TZ V b m=false):YX V b=false:=by
 unfold YX
 exact decide_eq_false fun q=>by rw [q m hm] at h;cases h
theorem sT (h:∀j,j < m→TZ V b j=true)(hm:b.length≤m):YX V b=true:=decide_eq_true fun j hj=>h j (by omega)
theorem rP (h:Y8 b a.2=none):U4 fs b a=false:=by unfold U4;rw [h]
theorem sY {v:List Int} (h:Y8 b a.2=some v):U4 fs b a=sU fs (a.1,v):=by unfold U4;rw [h]
theorem WV {α:Type} {p:α→Bool} {l:List α} {x:α} {n:Nat} (hx:l[n]? =some x)(h:p x=false):l.all p=false:=by
 rw [List.all_eq_false]
 exact⟨x,List.mem_of_getElem? hx,by simp [h]⟩
theorem WO {α:Type} {p:α→Bool} {l:List α} {n:Nat} (h:∀(j:Nat) z,j < n→l[j]? =some z→p z=true)(hn:l.length≤n):l.all p=true:=by
 rw [List.all_eq_true]
 intro x hx
 obtain⟨j,hj⟩:=List.getElem?_of_mem hx
 exact h j x (by have:=(List.getElem?_eq_some_iff.1 hj).1;omega) hj
theorem LR {α:Type} {p:α→Bool} {l:List α} {m n:Nat} {x:α} (h:∀(j:Nat) z,j < m→l[j]? =some z→p z=true)(hx:l[n]? =some x)(e:n=m)(hp:p x=true):∀(j:Nat) z,j < m + 1→l[j]? =some z→p z=true:=by
 subst e
 intro j z hj hz
 by_cases e:j < n
 ·exact h j z e hz
 ·obtain rfl:j=n:=by omega
  rw [hx] at hz
  cases hz
  exact hp
end
end Go.Eng

set_option linter.unusedVariables false
set_option linter.unusedSimpArgs false
namespace Go.Eng
open Go Go.RowKit
def R8 (rs:V9) (fs a0 a1:p9) (a2:Bool) (a3 a4:Int) (b:List Int):Bool:=
 J5 rs fs a0 a1 a2 a3 a4 b&&(if a2=true then decide (b.getD a3.toNat 0≠b.getD a4.toNat 0) else !wU rs fs a1 b)
theorem UW {rs:V9} {a0:p9} {most x:Int} (h:I7 rs a0 most=true)(hx:kZ (G9 (F9 a0)) x=true):0≤x∧x < 5:=by
 unfold kZ at hx
 rw [List.any_eq_true] at hx
 obtain⟨y,hy,e⟩:=hx
 have e:y=x:=of_decide_eq_true e
 subst e
 rw [Z6] at hy
 obtain⟨a,ha,hy⟩:=List.mem_flatMap.1 hy
 unfold C6 at hy
 rw [List.mem_filter] at hy
 have h0:0≤y:=of_decide_eq_true hy.2
 have h1:=(bZ h).2.2 a ha
 unfold F5 at h1
 simp only [Bool.and_eq_true,Bool.not_eq_true',List.any_eq_false] at h1
 have h2:=h1.2.2.2 y hy.1
 have h3:X4 y=true:=by simpa using h2
 unfold X4 at h3
 have:=of_decide_eq_true h3
 omega
theorem B5 {rs:V9} {fs a0 a1:p9} {a2:Bool} {a3 a4:Int} {b:List Int} (h:J5 rs fs a0 a1 a2 a3 a4 b=true)(h2:a2=true):(0≤a3∧a3 < b.length)∧(0≤a4∧a4 < b.length):=by
 unfold J5 at h
 simp only [Bool.and_eq_true,decide_eq_true_eq] at h
 obtain⟨⟨_,hd,hb⟩,_⟩:=h
 unfold D6 at hd
 rw [if_pos h2] at hd
 simp only [Bool.and_eq_true] at hd
 obtain⟨h3,_,_,h4,h5⟩:=hd
 have h6:=UW h3 h4
 have h7:=UW h3 h5
 omega
theorem gX {b:List Int} {n:Nat} {z:Int} (h:b[n]? =some z):b.getD n 0=z:=by rw [List.getD_eq_getElem?_getD,h];rfl
end Go.Eng

set_option linter.unusedVariables false
set_option linter.unusedSimpArgs false
namespace Go.Eng
open Go Go.RowKit
def fQ {α:Type} (enc:α→Nat→T):Value ⊕ α→Nat→T
 | .inl v,_=> .v v
 | .inr x,j=>enc x j
def dP {α:Type} (vs:List Value) (L:List α):List (Value ⊕ α):=vs.map .inl++(L.drop vs.length).map .inr
section
variable {α:Type} {vs:List Value} {L:List α} {m:Nat} {l:α} {v:Value}
theorem PS (h:vs.length≤L.length):(dP vs L).length=L.length:=by unfold dP;simp;omega
theorem WK (h:vs.length=m)(hl:L[m]? =some l):(dP vs L)[m]? =some (.inr l):=by
 unfold dP
 rw [List.getElem?_append_right (by simp;omega)]
 simp [h,hl]
theorem eU (h:vs.length=m)(hm:m < L.length):(dP vs L).set m (.inl v)=dP (vs++[v]) L:=by
 subst h
 unfold dP
 rw [List.set_append_right _ _ (by simp),List.length_map,Nat.sub_self,List.drop_eq_getElem_cons hm,List.map_cons,List.set_cons_zero]
 simp only [List.map_append,List.map_cons,List.map_nil,List.length_append,List.length_cons,List.length_nil,List.append_assoc,List.singleton_append,Nat.zero_add]
theorem QS (h:vs.length=m)(hm:m < L.length):((dP vs L).set m (.inl v))[m]? =some (.inl v):=by
 rw [List.getElem?_set_self]
 rw [PS (by omega)]
 exact hm
end
section rules
variable {cx:Cx} {s:St} {dst:Option Nat} {ty:TypeId} {pos:String} {aft:Array Edge} {R:Ending→World→Prop} {todo:List Item}
theorem NL (i:Nat) {pn:Option Value} {e sz:Nat} {α:Type} {enc:α→Nat→T} {xs:List α} (hb:y9 s.ob i=some (.row pn e true sz enc xs))
  (h:Wt cx ⟨s.tm,(i,some (.row pn e true sz (fQ enc) (dP [] xs)))::s.ob,s.nx⟩ todo R):Wt cx s todo R:=by
 intro a w hg
 refine h a w ?_
 obtain⟨E,S,hI,hT,hsz,hdf⟩:=hg
 refine⟨E,S,⟨hI.slt,hI.snew,fun j o hj=>?_,hI.dis,hI.fp,hI.nxt,hI.kept⟩,hT,hsz,hdf⟩
 rw [D9] at hj
 split at hj
 ·rename_i ej
  subst ej
  cases hj
  obtain⟨h1,h2,h3,h4⟩:=hI.obs _ _ hb
  refine⟨h1,h2,h3,?_⟩
  simp only [if_true] at h4 ⊢
  obtain⟨cells,G,q1,q2,q3,q4,q5⟩:=h4
  have e0:dP [] xs=xs.map .inr:=by simp [dP]
  rw [e0]
  refine⟨cells,G,by rw [List.length_map];exact q1,q2,q3,q4,fun b x hx c hc=>?_⟩
  rw [List.getElem?_map] at hx
  obtain⟨y,hy,rfl⟩:=Option.map_eq_some_iff.mp hx
  exact q5 b y hy c hc
 ·exact hI.obs _ _ hj
theorem UQ (k i:Nat) {a:Nat} {pn:Option Value} {e szi:Nat} {α:Type} {enci:α→Nat→T} {xs:List (Value ⊕ List α)} {l:List α} (hk:s.nx=k)(hb:y9 s.ob i=some (.row pn e true 1 (fQ (B9 szi enci)) xs))(hz:xs[a]? =some (.inr l))
  (h:∀(e':Nat) (v:Value),Wt cx ⟨I5 (X3 i []) s.tm,(k,some (.row (some v) e' true szi enci l))::(i,some (.row pn e true 1 (fQ (B9 szi enci)) (xs.set a (.inl v))))::Y6 (X3 i []) s.ob,k + 1⟩ todo R):Wt cx s todo R:=by
 intro ac w hg
 obtain⟨E,S,hI,hT,hsz,hdf⟩:=hg
 subst hk
 obtain⟨h1,h2,h3,h4⟩:=hI.obs _ _ hb
 simp only [if_true] at h4
 obtain⟨cells,G,q1,q2,q3,q4,q5⟩:=h4
 obtain⟨v,c1,c2⟩:=q5 a _ hz 0 Nat.one_pos
 rw [Nat.mul_one,Nat.add_zero] at c1
 have c2':Ow w (.sl szi enci l) v (G a 0):=c2
 obtain⟨e',c3⟩:=c2'
 have hone:v.oneCell'=true:=Rd.one (Ow.rd _ _ c2)
 have hik:i≠s.nx:=fun e=>by have:=hI.nxt i h1;omega
 refine h e' v ac w ?_
 let X:Nat→EE:=fun j=>if j=s.nx then⟨v,G a 0,True,True⟩ else if j=i then⟨(E i).u,fun g=>(E i).F g∧¬G a 0 g,True,True⟩ else E j
 have xk:X s.nx=⟨v,G a 0,True,True⟩:=if_pos rfl
 have xi:X i=⟨(E i).u,fun g=>(E i).F g∧¬G a 0 g,True,True⟩:=by
  show(if i=s.nx then _ else if i=i then _ else _)=_
  rw [if_neg hik,if_pos rfl]
 have xo:∀j,j≠s.nx→j≠i→X j=E j:=fun j a1 a2=>by
  show(if j=s.nx then _ else if j=i then _ else _)=_
  rw [if_neg a1,if_neg a2]
 have hlt:∀j,(E j).live→j≠s.nx:=fun j hj e=>by have:=hI.nxt j hj;omega
 have hC:Carry E X S S w w (X3 i []):= {
  sub:=fun _ h=>h
  keep:=fun _ _=>rfl
  place:=fun b hb' j hn hl=>by
   have a1:=hlt j hl
   by_cases a2:j=i
   ·subst a2;rw [xi];exact⟨trivial,rfl⟩
   ·rw [xo j a1 a2];exact⟨hl,rfl⟩
  reads:=fun b hb' j hn hl=>by
   have a1:=hlt j hl.1
   have a2:j≠i:=fun e=>by
    subst e
    simp only [X3,List.any_nil,Bool.or_false] at hb'
    rw [hn] at hb'
    cases hb'
   rw [xo j a1 a2]
   exact⟨hl,fun _ q=>q,fun _ _=>rfl⟩}
 refine⟨X,S,⟨hI.slt,hI.snew,fun j o hj=>?_,fun j j' hij hj hj' g hg hg'=>?_,fun j hj g hg=>?_,fun j hj=>?_,hI.kept⟩,O7.cut hC hT,hsz,hdf⟩
 ·rw [D9] at hj
  by_cases ek:j=s.nx
  ·subst ek
   rw [if_pos rfl] at hj
   cases hj
   refine⟨by rw [xk];trivial,by rw [xk];trivial,fun v' hv'=>by rw [xk];exact Option.some.inj hv',?_⟩
   rw [xk]
   exact c3
  ·rw [if_neg ek,D9] at hj
   by_cases ei:j=i
   ·subst ei
    rw [if_pos rfl] at hj
    cases hj
    refine⟨by rw [xi];trivial,by rw [xi];trivial,fun v' hv'=>by rw [xi];exact h3 v' hv',?_⟩
    rw [xi]
    simp only [if_true]
    refine⟨cells,fun b c g=>if b=a then False else G b c g,by rw [List.length_set];exact q1,fun g hg=>⟨q2 g hg,fun hg'=>(q3 a 0 g hg').2 hg⟩,fun b c g hg=>?_,fun b c b' c' g hg hg'=>?_,fun b x hx c hc=>?_⟩
    ·dsimp only at hg
     split at hg
     ·exact hg.elim
     ·rename_i hne
      obtain⟨r1,r2⟩:=q3 b c g hg
      exact⟨⟨r1,fun hg'=>hne (q4 b c a 0 g hg hg').1⟩,r2⟩
    ·dsimp only at hg hg'
     split at hg
     ·exact hg.elim
     ·split at hg'
      ·exact hg'.elim
      ·exact q4 b c b' c' g hg hg'
    ·by_cases eb:b=a
     ·subst eb
      have hlt':=(List.getElem?_eq_some_iff.1 hz).1
      rw [List.getElem?_set_self hlt'] at hx
      cases hx
      obtain rfl:c=0:=by omega
      exact⟨v,by rw [Nat.mul_one,Nat.add_zero];exact c1,rfl,hone⟩
     ·rw [List.getElem?_set_ne (Ne.symm eb)] at hx
      obtain⟨u',r1,r2⟩:=q5 b x hx c hc
      exact⟨u',r1,Ow.move _ _ (fun g hg=>by dsimp only;rw [if_neg eb];exact hg) (fun _ _=>rfl) r2⟩
   ·rw [if_neg ei,Z4] at hj
    obtain⟨o0,h0,rfl⟩:=Option.map_eq_some_iff.mp hj
    obtain⟨r1,r2⟩:=hI.obs j o0 h0
    refine⟨by rw [xo j ek ei];exact r1,?_⟩
    exact x6.carry hC (i:=j) (by rw [xo j ek ei]) (fun g=>by rw [xo j ek ei]) (by rw [xo j ek ei]) (fun _ _=>rfl) r2
 ·by_cases a1:j=s.nx
  ·subst a1
   rw [xk] at hg
   by_cases b2:j'=i
   ·subst b2
    rw [xi] at hg'
    exact hg'.2 hg
   ·have b1:j'≠s.nx:=fun e=>hij e.symm
    rw [xo j' b1 b2] at hg' hj'
    exact hI.dis i j' (Ne.symm b2) h1 hj' g (q3 a 0 g hg).1 hg'
  ·by_cases a2:j=i
   ·subst a2
    rw [xi] at hg
    by_cases b1:j'=s.nx
    ·subst b1
     rw [xk] at hg'
     exact hg.2 hg'
    ·rw [xo j' b1 (Ne.symm hij)] at hg' hj'
     exact hI.dis _ j' hij h1 hj' g hg.1 hg'
   ·rw [xo j a1 a2] at hg hj
    by_cases b1:j'=s.nx
    ·subst b1
     rw [xk] at hg'
     exact hI.dis i j (Ne.symm a2) h1 hj g (q3 a 0 g hg').1 hg
    ·by_cases b2:j'=i
     ·subst b2
      rw [xi] at hg'
      exact hI.dis j _ hij hj h1 g hg hg'.1
     ·rw [xo j' b1 b2] at hg' hj'
      exact hI.dis j j' hij hj hj' g hg hg'
 ·by_cases a1:j=s.nx
  ·subst a1
   rw [xk] at hg
   exact hI.fp i h1 g (q3 a 0 g hg).1
  ·by_cases a2:j=i
   ·subst a2
    rw [xi] at hg
    exact hI.fp _ h1 g hg.1
   ·rw [xo j a1 a2] at hg hj
    exact hI.fp j hj g hg
 ·by_cases a1:j=s.nx
  ·show j < s.nx + 1;omega
  ·have:(E j).live:=by
    by_cases a2:j=i
    ·subst a2;exact h1
    ·rw [xo j a1 a2] at hj;exact hj
   have:=hI.nxt j this
   show j < s.nx + 1
   omega
theorem qV {t:TypeId} {x:Operand} {i e o k e0 e1 sz1:Nat} {pn:Option Value} {v:Value} {α β:Type} {enc:α→Nat→T} {enc1:β→Nat→T} {xs:List (Value ⊕ α)} {l:List β} (ha:d5 cx.P t=some false)(hx:s.ev x=some (.c (.poe i e 1 0)))(hb:y9 s.ob i=some (.row pn e0 true 1 (fQ enc) xs))(hy:xs[e]? =some (.inl v))(hk:y9 s.ob k=some (.row (some v) e1 true sz1 enc1 l)):
  Ps cx s (.load t x) (.c (.own k)):=
 fun A w E S hI hT=>by
  obtain⟨hlv,g,n,cap,h1,h2⟩:=J9 hT hx
  obtain⟨hl,hb⟩:=hI.obs _ _ hb
  obtain⟨A',cap',h3,_,_,h5⟩:=s0 hl hb
  obtain⟨hlk,_,hpk,_⟩:=hI.obs _ _ hk
  rw [h1] at h3
  cases h3
  obtain⟨u,h6,h7⟩:=h5 g rfl e _ hy 0 Nat.one_pos
  have h8:u=v∧v.oneCell'=true:=h7.2
  refine⟨u,fun w' hW _ _ _ _ _=>?_,hlk,by rw [h8.1,hpk v rfl],by rw [h8.1];exact h8.2⟩
  simp only [execOp,h2]
  rw [Sem.run_bind,W1 ha (hW.cell h6)]
  rfl
theorem ES {t:TypeId} {x:Operand} {i e o k e0 e1 sz1:Nat} {pn:Option Value} {v:Value} {α β:Type} {enc:α→Nat→T} {enc1:β→Nat→T} {xs:List (Value ⊕ α)} {l:List β} (hd:Q6 dst cx.n=true)(ha:d5 cx.P t=some false)(hx:s.ev x=some (.c (.poe i e 1 0)))(hb:y9 s.ob i=some (.row pn e0 true 1 (fQ enc) xs))(hy:xs[e]? =some (.inl v))(hk:y9 s.ob k=some (.row (some v) e1 true sz1 enc1 l)):
  Os cx s ⟨dst,.load t x,ty,pos,aft,none⟩ (s.sets dst (some (.c (.own k)))) true:=C8 hd (qV (o:=o) ha hx hb hy hk)
end rules
end Go.Eng

set_option linter.unusedVariables false
set_option linter.unusedSimpArgs false
namespace Go.Eng
open Go Go.RowKit
def iY (out:List (List Int)) (x:List Int):Bool:=out.any fun y=>decide (y=x)
def Y3 (l:List (List Int)):List (List Int):=l.foldl (fun out x=>if iY out x=true then out else out++[x]) []
section
variable {l:List (List Int)} {m n:Nat} {z:List Int}
theorem IS:Y3 (l++[z])=if iY (Y3 l) z=true then Y3 l else Y3 l++[z]:=by
 unfold Y3
 rw [List.foldl_append]
 rfl
theorem EK (hz:l[n]? =some z)(e:n=m)(h:iY (Y3 (l.take m)) z=true):Y3 (l.take (m + 1))=Y3 (l.take m):=by
 subst e
 rw [List.take_add_one,hz]
 show Y3 (l.take n++[z])=_
 rw [IS,if_pos h]
theorem LL (hz:l[n]? =some z)(e:n=m)(h:iY (Y3 (l.take m)) z=false):Y3 (l.take (m + 1))=Y3 (l.take m)++[z]:=by
 subst e
 rw [List.take_add_one,hz]
 show Y3 (l.take n++[z])=_
 rw [IS,h]
 rfl
theorem GU (l:List (List Int)):(Y3 l).length≤l.length:=by
 unfold Y3
 have:∀(l out:List (List Int)),(l.foldl (fun out x=>if iY out x=true then out else out++[x]) out).length≤out.length + l.length:=by
  intro l
  induction l with
  | nil=>intro out;simp
  | cons x l ih=>
   intro out
   rw [List.foldl_cons]
   refine Nat.le_trans (ih _) ?_
   split
   ·simp only [List.length_cons];omega
   ·simp only [List.length_append,List.length_cons,List.length_nil];omega
 simpa using this l []
theorem WR:∀(l:List (List Int)) (x:List Int),x∈Y3 l→x∈l:=by
 have:∀(l out:List (List Int)) (x:List Int),x∈(l.foldl (fun out x=>if iY out x=true then out else out++[x]) out)→x∈out∨x∈l:=by
  intro l
  induction l with
  | nil=>intro out x h;exact .inl h
  | cons y l ih=>
   intro out x h
   rw [List.foldl_cons] at h
   rcases ih _ x h with h | h
   ·split at h
    ·exact .inl h
    ·rcases List.mem_append.1 h with h | h
     ·exact .inl h
     ·rw [List.mem_singleton] at h
      exact .inr (by rw [h];simp)
   ·exact .inr (List.mem_cons_of_mem _ h)
 intro l x h
 rcases this l [] x h with h | h
 ·simp at h
 ·exact h
theorem XN {q:List (List Int)} {y x:List Int} {k n:Nat} (hy:q[n]? =some y)(e:n=k):iY (q.take (k + 1)) x=(iY (q.take k) x||decide (y=x)):=by
 subst e
 unfold iY
 rw [List.take_add_one,hy]
 simp
theorem PR {q:List (List Int)} {x:List Int} {k:Nat} (h:q.length≤k):iY (q.take k) x=iY q x:=by rw [List.take_of_length_le h]
end
def l6:List Int:=[10,10,10,10,10]
def V6 (rs:V9) (fs l:p9):List (List Int):=if xX rs fs l=true then Y3 (v8 fs l l6) else []
theorem CN (rs:V9)(fs l:p9):(V6 rs fs l).length≤27000:=by
 unfold V6
 split
 ·rename_i h
  obtain⟨h1,h2,_⟩:=M3 h
  exact Nat.le_trans (GU _) (Y2 h1 h2 _)
 ·simp
theorem iO {b b':List Int} {p:Int × Int} {Q:Int→Prop} (hb:∀x∈b,Q x)(hp:Q p.2)(h:y6 b p=some b'):∀x∈b',Q x:=by
 unfold y6 at h
 split at h
 ·split at h
  ·cases h;exact hb
  ·cases h
 ·split at h
  ·split at h
   ·cases h
    intro x hx
    rcases List.mem_or_eq_of_mem_set hx with hx | rfl
    ·exact hb x hx
    ·exact hp
   ·cases h
  ·cases h
theorem oO {Q:Int→Prop}:∀(ps:List (Int × Int)) (b:List Int),(∀x∈b,Q x)→(∀p∈ps,Q p.2)→∀x∈(B1 b ps).1,Q x
 | [],b,hb,hp=>hb
 | p::ps,b,hb,hp=>by
  unfold B1
  cases hs:y6 b p with
  | some b'=>
   exact oO ps b' (iO hb (hp p (by simp)) hs) (fun q hq=>hp q (List.mem_cons_of_mem _ hq))
  | none=>exact hb
theorem pS {Q:Int→Prop} (fs:p9)(hf:∀f∈fs,∀x∈f.2,Q x):∀(l:p9) (b:List Int),(∀x∈b,Q x)→∀r∈v8 fs l b,∀x∈r,Q x
 | [],b,hb,r,hr=>by
  simp only [v8,List.mem_singleton] at hr
  subst hr
  exact hb
 | a::al,b,hb,r,hr=>by
  simp only [v8,List.mem_flatMap] at hr
  obtain⟨f,hff,hr⟩:=hr
  split at hr
  ·refine pS fs hf al _ ?_ r hr
   unfold w5
   split
   ·refine oO _ _ hb fun p hp=>?_
    exact hf f hff _ (List.of_mem_zip hp).2
   ·exact hb
  ·simp at hr
theorem dZ (fs:p9):∀(l:p9) (b:List Int),∀r∈v8 fs l b,r.length=b.length
 | [],b,r,hr=>by
  simp only [v8,List.mem_singleton] at hr
  rw [hr]
 | a::al,b,r,hr=>by
  simp only [v8,List.mem_flatMap] at hr
  obtain⟨f,hff,hr⟩:=hr
  split at hr
  ·rw [dZ fs al _ r hr,AU]
  ·simp at hr
theorem TT {rs:V9} {fs l:p9} {r:List Int} (h:r∈V6 rs fs l):r∈v8 fs l l6:=by
 unfold V6 at h
 split at h
 ·exact WR _ _ h
 ·simp at h
theorem NX {rs:V9} {fs l:p9} {r:List Int} (h:r∈V6 rs fs l):r.length=5:=dZ fs l l6 r (TT h)
theorem nT {rs:V9} {fs l:p9} (hf:∀f∈fs,∀x∈f.2,s7 x) {r:List Int} (h:r∈V6 rs fs l):∀x∈r,s7 x:=pS fs hf l l6 (fun x hx=>by
 unfold l6 at hx
 simp at hx
 subst hx
 unfold s7
 omega) r (TT h)
def v4 (rs:V9) (fs a0 a1:p9) (a2:Bool) (a3 a4:Int):List (List Int):=
 if D6 rs a0 a1 a2 a3 a4=true then(V6 rs fs a0).filter (R8 rs fs a0 a1 a2 a3 a4) else []
end Go.Eng

set_option linter.unusedVariables false
set_option linter.unusedSimpArgs false
namespace Go.Eng
open Go Go.RowKit
section rules
variable {cx:Cx} {s:St} {dst:Option Nat} {ty:TypeId} {pos:String} {aft:Array Edge}
def KV (op:BinOp) (k:IntKind) (a b:Int):Option Value:=
 match op with
 | .quo=>if b=0 then none else some (.int k (k.wrap (a.tdiv b)))
 | .rem=>if b=0 then none else some (.int k (a.tmod b))
 | .and=>some (.int k (k.wrap (BitVec.ofInt k.bits a&&& BitVec.ofInt k.bits b).toNat))
 | .xor=>some (.int k (k.wrap (BitVec.ofInt k.bits a ^^^ BitVec.ofInt k.bits b).toNat))
 | _=>none
theorem iP {P:Program} {op:BinOp} {k:IntKind} {a b:Int} {v:Value} (h:KV op k a b=some v)(t:TypeId)(x y:Operand)(w:World):(do eqGuard op t x y (.int k a) (.int k b);binOp op t (.int k a) (.int k b):Sem Value).run P w= .ok v w∧v.oneCell'=true:=by
 cases op <;> simp only [KV] at h <;> first
  | (cases h;done)
  | (split at h <;> first | (cases h;done) | (cases h;constructor <;> simp_all [eqGuard,binOp,Op.intDiv,Value.oneCell']))
  | (cases h;constructor <;> simp [eqGuard,binOp,Op.intBits,Value.oneCell'])
theorem oR {op:BinOp} {t yt:TypeId} {x y:Operand} {kk:IntKind} {a b:Int} {v:Value} (hx:s.ev x=some (sc (.int kk a)))(hy:s.ev y=some (sc (.int kk b)))(hv:KV op kk a b=some v):
  Ps cx s (.binOp op t x y yt) ((sc v)):=
 fun A w E S hI hT=>by
  have h1:=Z8 (J9 hT hx)
  have h2:=Z8 (J9 hT hy)
  have h3:=fun w'=>(iP (P:=cx.P) hv t x y w').1
  have h4:=(iP (P:=cx.P) hv t x y w).2
  refine⟨v,fun w' hW _ _ _ _ _=>?_,D2 h4⟩
  simp only [execOp,h1,h2]
  rw [Sem.run_bind,h3]
  rfl
theorem RS {op:BinOp} {t yt:TypeId} {x y:Operand} {kk:IntKind} {a b:Int} {v:Value} (hd:Q6 dst cx.n=true)(hx:s.ev x=some (sc (.int kk a)))(hy:s.ev y=some (sc (.int kk b)))(hv:KV op kk a b=some v):
  Os cx s ⟨dst,.binOp op t x y yt,ty,pos,aft,none⟩ (s.sets dst (some (sc v))) true:=C8 hd (oR hx hy hv)
end rules
end Go.Eng
