import Derived.Test.YtiikejgonbnimaaGreatEngC
import Derived.Laws.Slices
import Derived.Lib.SliceRun
set_option linter.unusedVariables false
set_option linter.unusedSimpArgs false
namespace Go.Eng
open Go Go.RowKit
def l7 {α:Type} (f:α→Nat) (l:List α):Nat:=l.length +(l.map f).sum
def PH {α:Type} (f:α→Nat) (l:List α) (m:Nat):Nat:=((l.take m).map f).sum
section
variable {α:Type} {f:α→Nat} {l:List α}
theorem DM {m:Nat} {z:α} (h:l[m]? =some z):PH f l (m + 1)=PH f l m + f z:=by
 unfold PH
 rw [List.take_add_one,h]
 simp
theorem GH (m:Nat):PH f l m + l.length≤l7 f l:=by
 unfold PH l7
 have:(l.map f).sum=((l.take m).map f).sum +((l.drop m).map f).sum:=by rw [← List.sum_append,← List.map_append,List.take_append_drop]
 omega
theorem PX {z:α} (h:z∈l):f z + l.length≤l7 f l:=by
 obtain⟨m,hm⟩:=List.getElem?_of_mem h
 have h1:=DM (f:=f) hm
 have h2:=GH (f:=f) (l:=l) (m + 1)
 omega
theorem j6 {m:Nat} {z:α} (h:l[m]? =some z):f z + l.length≤l7 f l:=PX (List.mem_of_getElem? h)
theorem FW {a b:List α} {n:Nat} {x y:α} (h1:a[n]? =some x)(h2:b[n]? =some y)(h:x=y):a[n]? =b[n]? :=by rw [h1,h2,h]
theorem iH {a b:Bool} (h:a=b):some (sc (.bool a))=some (sc (.bool b)):=by rw [h]
theorem CR {xs:List α} {n:Nat} (h:n < xs.length):∃z,xs[n]? =some z:=⟨_,List.getElem?_eq_getElem h⟩
theorem L8:l.length≤l7 f l:=by unfold l7;omega
theorem A3 {p:α→Bool} {m:Nat} (h:∀j z,j < m→l[j]? =some z→p z=false)(hm:l.length≤m):l.any p=false:=by
 rw [List.any_eq_false]
 intro x hx
 obtain⟨j,hj⟩:=List.getElem?_of_mem hx
 have:=(List.getElem?_eq_some_iff.1 hj).1
 simp [h j x (by omega) hj]
theorem y8 {p:α→Bool} {m:Nat} {z:α} (h:l[m]? =some z)(hp:p z=true):l.any p=true:=List.any_eq_true.2 ⟨z,List.mem_of_getElem? h,hp⟩
end
def aZ {α:Type} (p:α→Bool):List α→Nat→Int
 | [],_=> -1
 | x::l,n=>if p x=true then(n:Int) else aZ p l (n + 1)
def V1 {α:Type} (p:α→Bool) (l:List α):Int:=aZ p l 0
theorem XZ {α:Type} {p:α→Bool}:∀(l:List α) (n m:Nat),(∀j z,j < m→l[j]? =some z→p z=false)→m≤l.length→aZ p l n=aZ p (l.drop m) (n + m)
 | l,n,0,_,_=>rfl
 | [],n,m + 1,_,h=>by simp at h
 | x::l,n,m + 1,h,hm=>by
  have h0:=h 0 x (by omega) rfl
  rw [aZ,if_neg (by rw [h0];exact Bool.false_ne_true),List.drop_succ_cons,XZ l (n + 1) m (fun j z hj hz=>h (j + 1) z (by omega) hz) (by simpa using hm)]
  congr 1
  omega
theorem SZ {α:Type} {p:α→Bool} {l:List α} {m:Nat} {z:α} (h:∀j z,j < m→l[j]? =some z→p z=false)(hz:l[m]? =some z)(hp:p z=true):V1 p l=m:=by
 have hm:=(List.getElem?_eq_some_iff.1 hz).1
 unfold V1
 rw [XZ l 0 m h (by omega),List.drop_eq_getElem_cons hm,aZ,if_pos]
 ·simp
 ·have:=(List.getElem?_eq_some_iff.1 hz).2
  rw [this];exact hp
theorem C0 {α:Type} {p:α→Bool} {l:List α} {m:Nat} (h:∀j z,j < m→l[j]? =some z→p z=false)(hm:l.length=m):V1 p l= -1:=by
 unfold V1
 rw [XZ l 0 m h (by omega),← hm,List.drop_length]
 rfl
theorem eZ {α:Type} {p:α→Bool} {l:List α}:decide (0≤V1 p l)=l.any p:=by
 have key:∀(l:List α) (n:Nat),decide (0≤aZ p l n)=l.any p:=by
  intro l
  induction l with
  | nil=>intro n;rfl
  | cons x l ih=>
   intro n
   rw [aZ,List.any_cons]
   cases hx:p x
   ·rw [if_neg (by simp),ih];rfl
   ·rw [if_pos rfl];simp
 exact key l 0
theorem W4 {α:Type} {p:α→Bool} {l:List α} {m n:Nat} {z:α} (h:∀j z,j < m→l[j]? =some z→p z=false)(hz:l[n]? =some z)(e:n=m)(hp:p z=false):∀j z,j < m + 1→l[j]? =some z→p z=false:=by
 intro j x hj hx
 by_cases q:j < m
 ·exact h j x q hx
 ·obtain rfl:j=m:=by omega
  subst e
  rw [hz] at hx
  cases hx
  exact hp
end Go.Eng

set_option linter.unusedVariables false
set_option linter.unusedSimpArgs false
namespace Go.Eng
open Go Go.RowKit
def OY (n:List UInt8):Bool:=match n with
 | [c]=>decide (97≤(c.toNat:Int)∧(c.toNat:Int)≤122)
 | _=>false
def I1 (x:List UInt8 × Int × Bool):Bool:=OY x.1&&decide (1≤x.2.1∧x.2.1≤3)
theorem OW {n:List UInt8} (h:((n.length:Nat):Int)=1):∃c,n=[c]:=by
 match n,h with
 | [c],_=>exact⟨c,rfl⟩
 | [],h=>simp at h
 | _::_::_,h=>simp at h;omega
theorem mT {n:List UInt8} (h:¬((n.length:Nat):Int)=1):OY n=false:=by
 match n,h with
 | [c],h=>exact absurd rfl h
 | [],h=>rfl
 | _::_::_,h=>rfl
theorem cR {c:UInt8}:Op.bytesLess [c] [97]=decide ((c.toNat:Int) < 97):=by
 simp only [Op.bytesLess,Bool.and_false,Bool.or_false,UInt8.lt_iff_toNat_lt]
 rw [show(97:UInt8).toNat=97 from rfl]
 exact decide_eq_decide.2 (by omega)
theorem gR {c:UInt8}:Op.bytesLess [122] [c]=decide (122 < (c.toNat:Int)):=by
 simp only [Op.bytesLess,Bool.and_false,Bool.or_false,UInt8.lt_iff_toNat_lt]
 rw [show(122:UInt8).toNat=122 from rfl]
 exact decide_eq_decide.2 (by omega)
def R3 (l:List (List UInt8 × Int × Bool)) (j:Nat):Bool:=match l[j]? with
 | some z=>I1 z&&(decide (j=0) ||match l[j - 1]? with | some y=>Op.bytesLess y.1 z.1 | none=>false)
 | none=>true
def S5 (l:List (List UInt8 × Int × Bool)):Bool:=decide (∀j,j < l.length→R3 l j=true)&&decide (l.length≤6)
section
variable {l:List (List UInt8 × Int × Bool)} {m:Nat}
theorem QZ (hm:m < l.length)(h:R3 l m=false):S5 l=false:=by
 unfold S5
 rw [decide_eq_false (fun q=>by rw [q m hm] at h;cases h)]
 rfl
theorem FU (h:∀j,j < m→R3 l j=true)(hm:l.length≤m):S5 l=decide (l.length≤6):=by
 unfold S5
 rw [decide_eq_true (fun j hj=>h j (by omega))]
 rfl
theorem UX {z:List UInt8 × Int × Bool} (hz:l[m]? =some z):R3 l m=(I1 z&&(decide (m=0) ||match l[m - 1]? with | some y=>Op.bytesLess y.1 z.1 | none=>false)):=by
 unfold R3;rw [hz]
theorem wV {z:List UInt8 × Int × Bool} (hz:l[m]? =some z)(h:I1 z=false):R3 l m=false:=by
 rw [UX hz,h];rfl
theorem zW {z:List UInt8 × Int × Bool} (hz:l[m]? =some z)(h:I1 z=true)(h0:m=0):R3 l m=true:=by
 rw [UX hz,h,decide_eq_true h0];rfl
theorem cZ {z y:List UInt8 × Int × Bool} {n:Nat} {b:Bool} (hz:l[m]? =some z)(h:I1 z=true)(h0:m≠0)(hn:n=m - 1)(hy:l[n]? =some y)(hb:Op.bytesLess y.1 z.1=b):R3 l m=b:=by
 subst hn
 rw [UX hz,h,decide_eq_false h0,hy]
 simpa using hb
theorem d6 {P:Nat→Prop} (h:∀j,j < m→P j)(hm:P m):∀j,j < m + 1→P j:=fun j hj=>by
 by_cases e:j < m
 ·exact h j e
 ·obtain rfl:j=m:=by omega
  exact hm
end
def X4 (t:Int):Bool:=decide (-10≤t∧t≤4)
def F5 (rs:List (List UInt8 × Int × Bool)) (r:Int) (ts:List Int):Bool:=
 S5 rs&&(decide (0≤r∧r≤(rs.length:Int) - 1)&&((match rs[r.toNat]? with | some x=>decide (((ts.length:Nat):Int)=x.2.1) | none=>false)&&!ts.any fun t=>!X4 t))
section
variable {rs:List (List UInt8 × Int × Bool)} {r:Int} {ts:List Int}
theorem IQ (h:S5 rs=false):F5 rs r ts=false:=by unfold F5;rw [h];rfl
theorem FQ (h:¬(0≤r∧r≤(rs.length:Int) - 1)):F5 rs r ts=false:=by unfold F5;rw [decide_eq_false h];simp
theorem hP {z:List UInt8 × Int × Bool} (hz:rs[r.toNat]? =some z)(h:((ts.length:Nat):Int)≠z.2.1):F5 rs r ts=false:=by unfold F5;rw [hz];simp [h]
theorem xU {z:List UInt8 × Int × Bool} (h:S5 rs=true)(h2:0≤r∧r≤(rs.length:Int) - 1)(hz:rs[r.toNat]? =some z)(h3:((ts.length:Nat):Int)=z.2.1):F5 rs r ts=!ts.any fun t=>!X4 t:=by
 unfold F5;rw [h,decide_eq_true h2,hz];simp [h3]
end
end Go.Eng

set_option linter.unusedVariables false
set_option linter.unusedSimpArgs false
namespace Go.Eng
open Go Go.RowKit

section
variable {cx:Cx} {ob:List (Nat × Option Ob)} {nx:Nat} {E:Nat→EE} {S:Nat→Prop} {w w':World}
theorem G6.writes (hI:G6 cx ob nx E S w) {im:List Nat} {X:Nat→EE} {ob':List (Nat × Option Ob)} (p:AC→Bool)
  (hi:∀i,i∈im→(E i).live) (hx:∀i,i∈im→(X i).live∧(X i).u=(E i).u) (hout:∀i,i ∉ im→X i=E i)
  (hp:∀a,p a=false→∀i,i∈im→a.reads i=true→False)
  (hF:∀i,i∈im→∀k,(X i).F k→(∃q,q∈im∧(E q).F k)∨(w.heap.size≤k∧k < w'.heap.size))
  (hX:∀i,i∈im→∀j,j∈im→i≠j→∀k,(X i).F k→¬(X j).F k)
  (hsz:w.heap.size≤w'.heap.size) (hos:w'.os=w.os) (htp:w'.tape=w.tape) (hop:w'.output=w.output)
  (hw:∀k,k < w.heap.size→(∀i,i∈im→¬(E i).F k)→w'.heap[k]? =w.heap[k]?)
  (ho:∀i o,y9 ob' i=some o→(i∈im∧x6 X S w' i o)∨(i ∉ im∧y9 (Y6 p ob) i=some o)):
  G6 cx ob' nx X S w'∧Carry E X S S w w' p:=by
 have hfr:∀j,(E j).live→j ∉ im→∀k,(E j).F k→w'.heap[k]? =w.heap[k]? :=fun j hj hn k hk=>
  hw k (hI.fp j hj k hk).1 fun i him h=>hI.dis j i (fun e=>hn (e ▸ him)) hj (hi i him) k hk h
 have hC:Carry E X S S w w' p:= {
  sub:=fun _ h=>h
  keep:=fun k hk=>hw k (hI.slt k hk) fun i him h=>(hI.fp i (hi i him) k h).2.1 hk
  place:=fun a ha j hn hl=>by
   by_cases e:j∈im
   ·exact hx j e
   ·rw [hout j e];exact⟨hl,rfl⟩
  reads:=fun a ha j hn hl=>by
   have e:j ∉ im:=fun e=>hp a ha j e hn
   rw [hout j e]
   exact⟨hl,fun _ q=>q,hfr j hl.1 e⟩}
 have hlv:∀j,(X j).live→(E j).live:=fun j hj=>by
  by_cases e:j∈im
  ·exact hi j e
  ·rwa [hout j e] at hj
 refine⟨⟨fun k hk=>Nat.lt_of_lt_of_le (hI.slt k hk) hsz,hI.snew,fun j o hj=>?_,fun j j' hij hj hj' k h1 h2=>?_,fun j hj k hk=>?_,fun j hj=>hI.nxt j (hlv j hj),?_⟩,hC⟩
 ·rcases ho j o hj with⟨e,h⟩ | ⟨e,h⟩
  ·exact⟨(hx j e).1,h⟩
  ·rw [Z4] at h
   obtain⟨o0,h0,rfl⟩:=Option.map_eq_some_iff.mp h
   obtain⟨h1,h2⟩:=hI.obs j o0 h0
   refine⟨by rw [hout j e];exact h1,?_⟩
   exact x6.carry hC (by rw [hout j e]) (fun k=>by rw [hout j e]) (by rw [hout j e]) (hfr j h1 e) h2
 ·by_cases e1:j∈im <;> by_cases e2:j'∈im
  ·exact hX j e1 j' e2 hij k h1 h2
  ·rw [hout j' e2] at hj' h2
   rcases hF j e1 k h1 with⟨q,hq,h⟩ | ⟨h,_⟩
   ·exact hI.dis j' q (fun e=>e2 (e ▸ hq)) hj' (hi q hq) k h2 h
   ·have:=(hI.fp j' hj' k h2).1;omega
  ·rw [hout j e1] at hj h1
   rcases hF j' e2 k h2 with⟨q,hq,h⟩ | ⟨h,_⟩
   ·exact hI.dis j q (fun e=>e1 (e ▸ hq)) hj (hi q hq) k h1 h
   ·have:=(hI.fp j hj k h1).1;omega
  ·rw [hout j e1] at hj h1
   rw [hout j' e2] at hj' h2
   exact hI.dis j j' hij hj hj' k h1 h2
 ·by_cases e:j∈im
  ·rcases hF j e k hk with⟨q,hq,h⟩ | ⟨h,h3⟩
   ·obtain⟨q1,q2,q3⟩:=hI.fp q (hi q hq) k h
    exact⟨by omega,q2,q3⟩
   ·exact⟨h3,fun hs=>by have:=hI.slt k hs;omega,.inl (Nat.le_trans hI.kept.size h)⟩
  ·rw [hout j e] at hj hk
   obtain⟨q1,q2,q3⟩:=hI.fp j hj k hk
   exact⟨by omega,q2,q3⟩
 ·refine⟨hos.trans hI.kept.os,htp.trans hI.kept.tape,hop.trans hI.kept.output,Nat.le_trans hI.kept.size hsz,fun k hk hm=>?_⟩
  have hk2:=Nat.lt_of_lt_of_le hk hI.kept.size
  refine(hw k hk2 fun i him h=>?_).trans (hI.kept.block k hk hm)
  rcases (hI.fp i (hi i him) k h).2.2 with h | h
  ·omega
  ·exact hm h
end

structure Hd:Type 1 where
 i:Nat
 pn:Option Value
 e:Nat
 sz:Nat
 α:Type
 enc:α→Nat→T
 xs:List α
 xs':List α
def HH (U:Nat→Value):Nat→List Hd→List (Nat × Option Ob)
 | _,[]=>[]
 | k,h::hs=>(k,some (.row (some (U k)) h.e true h.sz h.enc h.xs))::HH U (k + 1) hs
def mG (U:Nat→Value):Nat→List Hd→List (Nat × Option Ob)
 | _,[]=>[]
 | k,h::hs=>(k,some (.row (some (U k)) h.e true h.sz h.enc h.xs'))::mG U (k + 1) hs
def RT:List Hd→List (Nat × Option Ob)→List (Nat × Option Ob)
 | [],r=>r
 | h::hs,r=>(h.i,some (.row h.pn h.e true h.sz h.enc h.xs'))::RT hs r
def qJ (s:St):List Hd→Prop
 | []=>True
 | h::hs=>y9 s.ob h.i=some (.row h.pn h.e true h.sz h.enc h.xs)∧qJ s hs
def YW:List Hd→Nat→Option Nat
 | [],_=>none
 | h::hs,j=>if h.i=j then some 0 else(YW hs j).map (· + 1)
def mN:List Hd→Bool
 | []=>true
 | h::hs=>(hs.all fun q=>!Nat.beq q.i h.i)&&mN hs
theorem mS {hs:List Hd} {j k:Nat} (h:YW hs j=some k):∃q,hs[k]? =some q∧q.i=j:=by
 induction hs generalizing k with
 | nil=>simp [YW] at h
 | cons q hs ih=>
  unfold YW at h
  split at h
  ·cases h;exact⟨q,rfl,by assumption⟩
  ·obtain⟨k',h1,rfl⟩:=Option.map_eq_some_iff.mp h
   obtain⟨q',h2,h3⟩:=ih h1
   exact⟨q',h2,h3⟩
theorem YV {hs:List Hd} {k:Nat} {q:Hd} (hd:mN hs=true)(h:hs[k]? =some q):YW hs q.i=some k:=by
 induction hs generalizing k with
 | nil=>simp at h
 | cons q0 hs ih=>
  simp only [mN,Bool.and_eq_true] at hd
  unfold YW
  match k with
  | 0=>cases h;rw [if_pos rfl]
  | k + 1=>
   have h:hs[k]? =some q:=h
   have:=(List.all_eq_true.1 hd.1) q (List.mem_of_getElem? h)
   rw [if_neg (fun e=>by rw [e] at this;simp at this),ih hd.2 h]
   rfl
theorem qJ.at {s:St} {hs:List Hd} (h:qJ s hs) {k:Nat} {q:Hd} (hk:hs[k]? =some q):y9 s.ob q.i=some (.row q.pn q.e true q.sz q.enc q.xs):=by
 induction hs generalizing k with
 | nil=>simp at hk
 | cons q0 hs ih=>
  match k with
  | 0=>cases hk;exact h.1
  | k + 1=>exact ih h.2 hk
theorem SN {U:Nat→Value} {hs:List Hd} {st j:Nat} {o:Ob} (h:y9 (HH U st hs) j=some o):∃(k:Nat) (q:Hd),hs[k]? =some q∧j=st + k∧o= .row (some (U j)) q.e true q.sz q.enc q.xs:=by
 induction hs generalizing st with
 | nil=>simp [HH,y9] at h
 | cons q hs ih=>
  unfold HH at h
  rw [D9] at h
  split at h
  ·rename_i e
   subst e
   cases h
   exact⟨0,q,rfl,rfl,rfl⟩
  ·obtain⟨k,q',h1,h2,h3⟩:=ih h
   exact⟨k + 1,q',h1,by omega,h3⟩
theorem tH {U:Nat→Value} {hs:List Hd} {st k:Nat} {q:Hd} (h:hs[k]? =some q):y9 (mG U st hs) (st + k)=some (.row (some (U (st + k))) q.e true q.sz q.enc q.xs'):=by
 induction hs generalizing st k with
 | nil=>simp at h
 | cons q0 hs ih=>
  unfold mG
  rw [D9]
  match k with
  | 0=>cases h;rw [if_pos (by omega)];rfl
  | k + 1=>
   rw [if_neg (by omega)]
   have:=ih (st:=st + 1) (k:=k) h
   rwa [show st +(k + 1)=st + 1 + k by omega]
theorem bQ {hs:List Hd} {r:List (Nat × Option Ob)} {j:Nat} {o:Ob} (h:y9 (RT hs r) j=some o):(∃k q,YW hs j=some k∧hs[k]? =some q∧o= .row q.pn q.e true q.sz q.enc q.xs')∨(YW hs j=none∧y9 r j=some o):=by
 induction hs with
 | nil=>exact .inr ⟨rfl,h⟩
 | cons q hs ih=>
  unfold RT at h
  rw [D9] at h
  unfold YW
  split at h
  ·rename_i e
   cases h
   exact .inl ⟨0,q,if_pos e.symm,rfl,rfl⟩
  ·rename_i e
   rw [if_neg (fun e'=>e e'.symm)]
   rcases ih h with⟨k,q',h1,h2,h3⟩ | ⟨h1,h2⟩
   ·exact .inl ⟨k + 1,q',by rw [h1];rfl,h2,h3⟩
   ·exact .inr ⟨by rw [h1];rfl,h2⟩
inductive RR (s:St) (hs:List Hd):AC→AC→Prop
 | own {k:Nat} {i:Nat} (h:(hs[k]?).map (·.i)=some i):RR s hs (.own i) (.own k)
 | t0 {x:T}:RR s hs (.t none x) (.t none x)
 | top {a:AC}:RR s hs a .top
 | clo {f:Nat}:RR s hs (.clo f []) (.clo f [])
inductive wS (s:St) (hs:List Hd):List AC→List AC→Prop
 | nil:wS s hs [] []
 | cons {a b:AC} {al bs:List AC} (h:RR s hs a b) (hr:wS s hs al bs):wS s hs (a::al) (b::bs)
inductive GX (s:St) (hs:List Hd):List Operand→List AV→Prop
 | nil:GX s hs [] []
 | agg {x:Operand} {al cs:List AC} {xs:List Operand} {bs:List AV} (hx:s.ev x=some (.agg al)) (h:wS s hs al cs) (hr:GX s hs xs bs):GX s hs (x::xs) (.agg cs::bs)
 | cons {x:Operand} {a b:AC} {xs:List Operand} {bs:List AV} (hx:s.ev x=some (.c a)) (h:RR s hs a b) (hr:GX s hs xs bs):GX s hs (x::xs) (.c b::bs)
def W3 (E:Nat→EE) (hs:List Hd):Nat→EE:=fun k=>match hs[k]? with | some h=>E h.i | none=>A5
theorem P2 {E:Nat→EE} {hs:List Hd} {k:Nat} {q:Hd} (h:hs[k]? =some q):W3 E hs k=E q.i:=by unfold W3;rw [h]
theorem RR.den {s:St} {hs:List Hd} {a b:AC} {E:Nat→EE} {S S':Nat→Prop} {w:World} {u:Value} (h:RR s hs a b)(hS:∀k,S k→S' k)(hd:S6 E S w a u):S6 (W3 E hs) S' w b u:=by
 cases h with
 | own h=>
  obtain⟨q,h1,rfl⟩:=Option.map_eq_some_iff.mp h
  show(W3 E hs _).live∧u=(W3 E hs _).u∧_
  rw [P2 h1]
  exact hd
 | t0=>exact⟨trivial,Rd.move hS (fun _ _=>rfl) _ _ hd.2⟩
 | top=>exact hd.one
 | clo=>obtain⟨us,e1,e2,_⟩:=hd;exact⟨us,e1,e2,fun j p h=>by simp at h⟩
theorem wS.den {s:St} {hs:List Hd} {al bs:List AC} {E:Nat→EE} {S S':Nat→Prop} {w:World} (h:wS s hs al bs)(hS:∀k,S k→S' k) {us:List Value} (hd:r6 E S w al us):r6 (W3 E hs) S' w bs us:=by
 induction h generalizing us with
 | nil=>exact⟨hd.1,fun j c hj=>by simp at hj⟩
 | cons h hr ih=>
  obtain⟨h1,h2⟩:=hd
  cases us with
  | nil=>simp at h1
  | cons u us=>
   have:=ih (us:=us) ⟨by simpa using h1,fun j c hj=>h2 (j + 1) c hj⟩
   refine⟨by simp [this.1],fun j c hj=>?_⟩
   match j with
   | 0=>
    cases hj
    obtain⟨u',e1,e2⟩:=h2 0 _ rfl
    cases e1
    exact⟨u,rfl,h.den hS e2⟩
   | j + 1=>exact this.2 j c hj
theorem GX.den {s:St} {hs:List Hd} {xs:List Operand} {bs:List AV} {a:Act} {E:Nat→EE} {S S':Nat→Prop} {w:World} (h:GX s hs xs bs)(hS:∀k,S k→S' k)(hT:O7 E S w s.tm a.tmps):F2 (W3 E hs) S' w bs (xs.map a.eval):=by
 induction h with
 | nil=>exact⟨rfl,fun j v hj=>by simp at hj⟩
 | agg hx h hr ih=>
  refine⟨by simp [ih.1],fun j v hj=>?_⟩
  match j with
  | 0=>
   cases hj
   obtain⟨us,h1,h2⟩:=J9 hT hx
   exact⟨_,rfl,us,h1,h.den hS h2⟩
  | j + 1=>exact ih.2 j v hj
 | cons hx h hr ih=>
  refine⟨by simp [ih.1],fun j v hj=>?_⟩
  match j with
  | 0=>cases hj;exact⟨_,rfl,h.den hS (J9 hT hx)⟩
  | j + 1=>exact ih.2 j v hj
def MN (hs:List Hd):AC→Bool:=fun a=>hs.any fun q=>a.reads q.i
theorem uI {E E':Nat→EE} {S S':Nat→Prop} {w w':World} {a:AV} {u:Value} (hn:a.all AC.plain=true)(hd:M6 E S w a u):M6 E' S' w' a u:=by
 have L:∀(cs:List AC) (us:List Value),cs.all AC.plain=true→r6 E S w cs us→r6 E' S' w' cs us:=fun cs us h hd=>⟨hd.1,fun j c hj=>by
  obtain⟨u',e1,e2⟩:=hd.2 j c hj
  exact⟨u',e1,XS (List.all_eq_true.1 h c (List.mem_of_getElem? hj)) e2⟩⟩
 cases a with
 | c a=>exact XS hn hd
 | agg cs=>obtain⟨us,rfl,hd⟩:=hd;exact⟨us,rfl,L cs us hn hd⟩
 | tup vs=>
  obtain⟨us,rfl,hl,hd⟩:=hd
  refine⟨us,rfl,hl,fun j b cs hj=>?_⟩
  have hn:cs.all AC.plain=true:=(List.all_eq_true.1 hn) (b,cs) (List.mem_of_getElem? hj)
  obtain⟨u',e2,e3⟩:=hd j b cs hj
  refine⟨u',e2,?_⟩
  unfold KW at *
  split
  ·rename_i hb
   rw [if_pos hb] at e3
   obtain⟨us,rfl,e3⟩:=e3
   exact⟨us,rfl,L cs us hn e3⟩
  ·rename_i hb
   rw [if_neg hb] at e3
   exact L cs _ hn e3
section rules
variable {cx:Cx} {s:St} {dst:Option Nat} {ty:TypeId} {pos:String} {aft:Array Edge}
theorem jR (hs:List Hd) {g:FuncId} {xs:Array Operand} {ats:Array TypeId} {cargs:List AV} {n0:Nat} {r:AV} {nx':Nat} (hE:Go.Proofs.Enters cx.P g)
  (hC:∀U,Mu cx.P g cargs (HH U 0 hs) n0 (mG U 0 hs) nx' r) (hd:Q6 dst cx.n=true) (hb:qJ s hs) (hdis:mN hs=true) (hn0:Nat.beq hs.length n0=true) (ha:GX s hs xs.toList cargs) (hr:r.all AC.plain=true):
  Os cx s ⟨dst,.call {callee:=.value (.func g),args:=xs,argTypes:=ats},ty,pos,aft,none⟩ ((⟨I5 (MN hs) s.tm,RT hs (Y6 (MN hs) s.ob),s.nx⟩:St).sets dst (some r)) false:=by
 intro Q a w hg
 obtain⟨E,S,hI,hT,hn,hdf⟩:=hg
 have hn0:hs.length=n0:=Nat.eq_of_beq_eq_true hn0
 unfold Oper.wp
 rw [execOp_call_go,hE]
 have hargs:#[]++Array.map a.eval xs++#[]=(xs.toList.map a.eval).toArray:=by
  apply Array.ext'
  simp
 rw [hargs,Oper.upon_enter]
 have hob:∀(k:Nat) (q:Hd),hs[k]? =some q→(E q.i).live∧x6 E S w q.i (.row q.pn q.e true q.sz q.enc q.xs):=fun k q hk=>hI.obs _ _ (hb.at hk)
 have hlive:∀k,(W3 E hs k).live→∃q:Hd,hs[k]? =some q:=fun k h=>by
  unfold W3 at h
  split at h
  ·exact⟨_,by assumption⟩
  ·exact h.elim
 let im:List Nat:=hs.map (·.i)
 have him:∀i,i∈im↔∃(k:Nat) (q:Hd),hs[k]? =some q∧q.i=i:=fun i=>by
  simp only [im,List.mem_map]
  constructor
  ·rintro⟨q,h1,h2⟩
   obtain⟨k,hk⟩:=List.getElem?_of_mem h1
   exact⟨k,q,hk,h2⟩
  ·rintro⟨k,q,h1,h2⟩
   exact⟨q,List.mem_of_getElem? h1,h2⟩
 let S':Nat→Prop:=fun k=>k < w.heap.size∧∀i,i∈im→¬(E i).F k
 have hI0:G6 ⟨cx.P,g,0,w,S',K7 (W3 E hs)⟩ (HH (fun k=>(W3 E hs k).u) 0 hs) n0 (W3 E hs) S' w:=by
  refine⟨fun k h=>h.1,fun k h=> .inl h,fun j o hj=>?_,fun j j' hij hj hj' k h1 h2=>?_,fun j hj k hk=>?_,fun j hj=>?_,xZ.refl _ _⟩
  ·obtain⟨k,q,h1,h2,rfl⟩:=SN hj
   obtain rfl:j=k:=by omega
   obtain⟨h3,h4,h5,h6⟩:=hob j q h1
   rw [P2 h1]
   refine⟨h3,by rw [P2 h1];exact h4,fun v hv=>?_,?_⟩
   ·rw [P2 h1];exact Option.some.inj hv
   ·rw [P2 h1]
    simp only [if_true] at h6 ⊢
    exact h6
  ·obtain⟨q,hq⟩:=hlive j hj
   obtain⟨q',hq'⟩:=hlive j' hj'
   rw [P2 hq] at hj h1
   rw [P2 hq'] at hj' h2
   exact hI.dis q.i q'.i (fun e=>hij (by
    have e1:=YV hdis hq
    have e2:=YV hdis hq'
    rw [e,e2] at e1
    exact(Option.some.inj e1).symm)) hj hj' k h1 h2
  ·have hj0:=hj
   obtain⟨q,hq⟩:=hlive j hj
   have hk0:=hk
   rw [P2 hq] at hj hk
   exact⟨(hI.fp q.i hj k hk).1,fun h=>h.2 q.i ((him _).2 ⟨j,q,hq,rfl⟩) hk,.inr ⟨j,hj0,hk0⟩⟩
  ·obtain⟨q,hq⟩:=hlive j hj
   have:=(List.getElem?_eq_some_iff.1 hq).1
   omega
 have hil:∀i,i∈im→(E i).live:=fun i hi=>by
  obtain⟨k,q,h1,rfl⟩:=(him i).1 hi
  exact(hob k q h1).1
 have hSS:∀k,S k→S' k:=fun k h=>⟨hI.slt k h,fun i hi hf=>(hI.fp i (hil i hi) k hf).2.1 h⟩
 refine(hC (fun k=>(W3 E hs k).u) 0 w (W3 E hs) S' (xs.toList.map a.eval) hI0 (ha.den hSS hT)).mono ?_
 rintro en w' ⟨u,E',S2,rfl,hI',hu⟩
 have hM:∀k,K7 (W3 E hs) k→∃i,i∈im∧(E i).F k:=fun k ⟨j,h1,h2⟩=>by
  obtain⟨q,hq⟩:=hlive j h1
  rw [P2 hq] at h2
  exact⟨q.i,(him _).2 ⟨j,q,hq,rfl⟩,h2⟩
 have hob':∀(k:Nat) (q:Hd),hs[k]? =some q→(E' k).live∧(E' k).u=(E q.i).u∧AP w' q.e q.sz q.enc q.xs' (E q.i).u (E' k).F:=fun k q hk=>by
  have h1:=tH (U:=fun k=>(W3 E hs k).u) (st:=0) hk
  rw [Nat.zero_add] at h1
  obtain⟨h2,_,h4,h5⟩:=hI'.obs k _ h1
  have h6:(E' k).u=(E q.i).u:=by rw [h4 _ rfl,P2 hk]
  simp only [if_true] at h5
  rw [h6] at h5
  exact⟨h2,h6,h5⟩
 let X:Nat→EE:=fun j=>match YW hs j with | some k=>⟨(E j).u,(E' k).F,True,True⟩ | none=>E j
 have hXat:∀(k:Nat) (q:Hd),hs[k]? =some q→X q.i=⟨(E q.i).u,(E' k).F,True,True⟩:=fun k q hk=>by
  show(match YW hs q.i with | some k=>_ | none=>_)=_
  rw [YV hdis hk]
 have hXout:∀i,i ∉ im→X i=E i:=fun i hi=>by
  show(match YW hs i with | some k=>_ | none=>_)=_
  cases hp:YW hs i with
  | none=>rfl
  | some k=>
   obtain⟨q,h1,h2⟩:=mS hp
   exact absurd ((him i).2 ⟨k,q,h1,h2⟩) hi
 have hW:=hI.writes (w':=w') (im:=im) (X:=X) (ob':=RT hs (Y6 (MN hs) s.ob)) (MN hs) hil
  (fun i hi=>by
   obtain⟨k,q,h1,rfl⟩:=(him i).1 hi
   rw [hXat k q h1]
   exact⟨trivial,rfl⟩)
  hXout
  (fun a' ha' i hi hr=>by
   obtain⟨k,q,h1,rfl⟩:=(him i).1 hi
   have:=List.any_eq_false.1 ha' q (List.mem_of_getElem? h1)
   exact this hr)
  (fun i hi k hk=>by
   obtain⟨j,q,h1,rfl⟩:=(him i).1 hi
   rw [hXat j q h1] at hk
   obtain⟨g1,_,g3⟩:=hI'.fp j (hob' j q h1).1 k hk
   rcases g3 with g3 | g3
   ·exact .inr ⟨g3,g1⟩
   ·exact .inl (hM k g3))
  (fun i hi j hj hij k h1 h2=>by
   obtain⟨k1,q1,e1,rfl⟩:=(him i).1 hi
   obtain⟨k2,q2,e2,rfl⟩:=(him j).1 hj
   rw [hXat k1 q1 e1] at h1
   rw [hXat k2 q2 e2] at h2
   exact hI'.dis k1 k2 (fun e=>hij (by subst e;rw [e1] at e2;cases e2;rfl)) (hob' k1 q1 e1).1 (hob' k2 q2 e2).1 k h1 h2)
  hI'.kept.size hI'.kept.os hI'.kept.tape hI'.kept.output
  (fun k hk hf=>hI'.kept.block k hk fun h=>by
   obtain⟨i,h1,h2⟩:=hM k h
   exact hf i h1 h2)
  (fun i o hio=>by
   rcases bQ hio with⟨k,q,h1,h2,rfl⟩ | ⟨h1,h2⟩
   ·obtain⟨q',h3,rfl⟩:=mS h1
    rw [h2] at h3
    cases h3
    refine .inl ⟨(him _).2 ⟨k,q,h2,rfl⟩,?_⟩
    refine⟨by rw [hXat k q h2];trivial,by rw [hXat k q h2];exact(hob k q h2).2.2.1,?_⟩
    rw [hXat k q h2]
    exact(hob' k q h2).2.2
   ·refine .inr ⟨fun hi=>?_,h2⟩
    obtain⟨k,q,h3,rfl⟩:=(him i).1 hi
    rw [YV hdis h3] at h1
    cases h1)
 refine⟨⟨X,S,?_,I8 (s:=⟨I5 (MN hs) s.tm,RT hs (Y6 (MN hs) s.ob),s.nx⟩) hd hn (O7.cut hW.2 hT) (fun v' e'=>?_),by rw [P8];exact hn,by rw [put_defers];exact hdf⟩,fun h=>by(cases h)⟩
 ·rw [B7,A7]
  exact hW.1
 ·cases e'
  exact uI hr hu

inductive VI (i e sz o:Nat):AC→AC→Prop
 | cel:VI i e sz o (.cel i e sz o) (.own 0)
 | t0 {x:T}:VI i e sz o (.t none x) (.t none x)
inductive dQ (s:St) (i e sz o:Nat):List Operand→List AV→Prop
 | nil:dQ s i e sz o [] []
 | cons {x:Operand} {a b:AC} {xs:List Operand} {bs:List AV} (hx:s.ev x=some (.c a)) (h:VI i e sz o a b) (hr:dQ s i e sz o xs bs):dQ s i e sz o (x::xs) (.c b::bs)
def wR (u:Value) (F:Nat→Prop):Nat→EE:=fun k=>if k=0 then⟨u,F,True,True⟩ else A5
theorem qO {u:Value} {F:Nat→Prop}:wR u F 0=⟨u,F,True,True⟩:=if_pos rfl
theorem dQ.den {i e sz o:Nat} {xs:List Operand} {bs:List AV} {a:Act} {E:Nat→EE} {S S':Nat→Prop} {w:World} {u0:Value} {F:Nat→Prop} (h:dQ s i e sz o xs bs)(hS:∀k,S k→S' k)(hT:O7 E S w s.tm a.tmps)
  (hu:∀u,S6 E S w (.cel i e sz o) u→u=u0):F2 (wR u0 F) S' w bs (xs.map a.eval):=by
 induction h with
 | nil=>exact⟨rfl,fun j v hj=>by simp at hj⟩
 | cons hx h hr ih=>
  refine⟨by simp [ih.1],fun j v hj=>?_⟩
  match j with
  | 0=>
   cases hj
   refine⟨_,rfl,?_⟩
   have hd:=J9 hT hx
   cases h with
   | cel=>
    have:=hu _ hd
    refine⟨by rw [qO];trivial,by rw [qO];exact this,?_⟩
    exact S6.one (S:=S) (a:=.cel i e sz o) hd
   | t0=>exact⟨trivial,Rd.move hS (fun _ _=>rfl) _ _ hd.2⟩
  | j + 1=>exact ih.2 j v hj
end rules
end Go.Eng

set_option linter.unusedVariables false
set_option linter.unusedSimpArgs false
namespace Go.Eng
open Go Go.RowKit
section
variable {α:Type} {f:Int→α→α} {ct:α→Nat}
end
end Go.Eng

set_option linter.unusedVariables false
set_option linter.unusedSimpArgs false
namespace Go.Eng
open Go Go.RowKit
section rules
variable {cx:Cx} {s:St} {dst:Option Nat} {ty:TypeId} {pos:String} {aft:Array Edge}
theorem C7 (i:Nat) {t e sz:Nat} {zs:List Value} {α:Type} (enc:α→Nat→T)(hi:s.nx=i)(hd:Q6 dst cx.n=true)(he:PZ cx.P t=some (e,sz,zs))(hz:Nat.beq zs.length sz=true):
  Os cx s ⟨dst,.buildSlice t 0 #[],ty,pos,aft,none⟩ ((s.obj i (.row none e true sz enc [])).sets dst (some (.c (.own i)))) true:=by
 subst hi
 refine Z3 fun a w hg=>?_
 obtain⟨E,S,hI,hT,hn,hdf⟩:=hg
 have hz:=Nat.eq_of_beq_eq_true hz
 have hr:=PY (P:=cx.P) he hz 0 (#[].map fun(p:Nat × Operand)=>(p.1,a.eval p.2)) #[] (by simp) w (by simp [Instr.fill])
 refine⟨.value (.slice (some ⟨w.heap.size,0,none⟩) 0 0),w.alloc (.cells #[].toList.toArray e (0,0)),?_,.inl ⟨_,rfl,?_⟩,fun _=>aX.alloc _ _⟩
 ·simp only [execOp]
  rw [Sem.run_bind,hr]
  rfl
 ·refine Gm.row hI hT hn hdf hd _ rfl ?_
  simp only [if_true]
  refine⟨[],fun _ _ _=>False,⟨by simp,.inr ⟨w.heap.size,0,_,rfl,Nat.zero_le _,heap_alloc_new w _,Nat.le_refl _,by simp [maxLen],by simp,by simp⟩⟩,fun g hg=>by simp only [Value.ownBlock,Option.some.injEq] at hg;exact hg.symm,fun _ _ _ h=>h.elim,fun _ _ _ _ _ h=>h.elim,fun b x hx=>by simp at hx⟩
end rules
section
variable {l:List Int} {m:Nat}
end
end Go.Eng
namespace Go.Eng
open Go Go.RowKit
def CS (v:Int):Int→Bool:=fun x=>decide (x=v)
end Go.Eng

set_option linter.unusedVariables false
set_option linter.unusedSimpArgs false
namespace Go.Eng
open Go Go.RowKit
theorem tI {P:Program} {t e:TypeId} (h:P.underlying t=some (.slice e)):P.underlying t=some (.slice (P.elem t)):=by
 rw [h];simp [Program.elem,h]
theorem XP {P:Program} {t:TypeId} {sz:Nat} (h:Q5 P t=some sz)(w:World):P.underlying t=some (.slice (P.elem t))∧(sizeOf (P.elem t)).run P w= .ok sz w:=by
 unfold Q5 at h
 split at h
 ·rename_i e he
  refine⟨tI he,?_⟩
  have:P.elem t=e:=by simp [Program.elem,he]
  rw [this]
  exact R0 h w
 ·cases h
inductive Bd:Option Value→Option Value→Option Value→Nat→Nat→Nat→Nat→Nat→Prop
 | l {k:IntKind} {n:Int} {len cap:Nat} (h0:0≤n) (h1:n≤len) (h2:len≤cap):Bd (some (.int k n)) none none len cap n.toNat len cap
 | h {k:IntKind} {n:Int} {len cap:Nat} (h0:0≤n) (h1:n≤len) (h2:len≤cap):Bd none (some (.int k n)) none len cap 0 n.toNat cap
 | lh {k k':IntKind} {n n':Int} {len cap:Nat} (h0:0≤n) (h1:n≤n') (h2:n'≤len) (h3:len≤cap):Bd (some (.int k n)) (some (.int k' n')) none len cap n.toNat n'.toNat cap
 | hm {k k':IntKind} {n n':Int} {len cap:Nat} (h0:0≤n) (h1:n≤n') (h2:n'≤len) (h3:len≤cap):Bd none (some (.int k n)) (some (.int k' n')) len cap 0 n.toNat n'.toNat
theorem Bd.run {lo hi mx:Option Value} {len cap l h m:Nat} (b:Bd lo hi mx len cap l h m) {P:Program} {t:TypeId} {sz:Nat} (hs:Q5 P t=some sz)(A:Option Addr)(w:World):
  (Instr.sliceAt t (.slice A len cap) lo hi mx).run P w= .ok (sliced A l h m sz) w∧l≤h∧h≤m:=by
 obtain⟨ht,hz⟩:=XP hs w
 rw [run_sliceAt_slice w t _ _ _ _ ht]
 cases b with
 | l h0 h1 h2=>rw [run_slice_l w t A len cap ht _ _ h0 h1,hz];exact⟨rfl,by omega,h2⟩
 | h h0 h1 h2=>rw [run_slice_h w t A len cap ht _ _ h0 (by omega),hz];exact⟨rfl,by omega,by omega⟩
 | lh h0 h1 h2 h3=>rw [run_slice_lh w t A len cap ht _ _ _ _ h0 h1 (by omega),hz];exact⟨rfl,by omega,by omega⟩
 | hm h0 h1 h2 h3=>rw [run_slice_hm w t A len cap ht _ _ _ _ h0 h1 (by omega),hz];exact⟨rfl,by omega,by omega⟩
theorem MK {w:World} {S:Nat→Prop} {α:Type} {sz:Nat} {enc:α→Nat→T} {xs:List α} {A:Option Addr} {cap l h m:Nat} (hr:Rd w S (.sl sz enc xs) (.slice A xs.length cap))(h1:l≤h)(h2:h≤xs.length)(h3:h≤m):
  Rd w S (.sl sz enc ((xs.take h).drop l)) (sliced A l h m sz):=by
 obtain⟨A',cap',he,hc,hr⟩:=hr
 cases he
 have hlen:((xs.take h).drop l).length=h - l:=by simp;omega
 unfold sliced
 refine⟨_,_,by rw [hlen],by omega,fun i x hx=>?_⟩
 rw [List.getElem?_drop,List.getElem?_take] at hx
 split at hx
 ·rename_i hi
  obtain⟨ad,rfl,hs,hc⟩:=hr _ x hx
  refine⟨ad.add (l * sz),?_,by rw [E3];exact hs,fun j hj=>?_⟩
  ·rw [if_neg (by omega)];rfl
  ·obtain⟨u',e1,e2⟩:=hc j hj
   refine⟨u',?_,e2⟩
   rw [add_add,show l * sz +(i * sz + j)=(l + i) * sz + j by rw [Nat.add_mul];omega]
   exact e1
 ·cases hx
section rules
variable {cx:Cx} {s:St} {dst:Option Nat} {ty:TypeId} {pos:String} {aft:Array Edge}
inductive Bo (s:St) (len:Nat):Option Operand→Option Operand→Option Operand→Nat→Nat→Prop
 | l {x:Operand} {k:IntKind} {n:Int} (hx:s.ev x=some (sc (.int k n))) (h0:0≤n) (h1:n≤len):Bo s len (some x) none none n.toNat len
 | h {x:Operand} {k:IntKind} {n:Int} (hx:s.ev x=some (sc (.int k n))) (h0:0≤n) (h1:n≤len):Bo s len none (some x) none 0 n.toNat
 | lh {x y:Operand} {k k':IntKind} {n n':Int} (hx:s.ev x=some (sc (.int k n))) (hy:s.ev y=some (sc (.int k' n'))) (h0:0≤n) (h1:n≤n') (h2:n'≤len):Bo s len (some x) (some y) none n.toNat n'.toNat
 | hm {x y:Operand} {k k':IntKind} {n n':Int} (hx:s.ev x=some (sc (.int k n))) (hy:s.ev y=some (sc (.int k' n'))) (h0:0≤n) (h1:n≤n') (h2:n'≤len):Bo s len none (some x) (some y) 0 n.toNat
theorem Bo.bd {len:Nat} {lo hi mx:Option Operand} {l h:Nat} (b:Bo s len lo hi mx l h) {a:Act} {E:Nat→EE} {S:Nat→Prop} {w:World} (hT:O7 E S w s.tm a.tmps) {cap:Nat} (hc:len≤cap):
  h≤len∧∃m,Bd (lo.map a.eval) (hi.map a.eval) (mx.map a.eval) len cap l h m:=by
 cases b with
 | l hx h0 h1=>exact⟨Nat.le_refl _,cap,by simp only [Option.map_some,Option.map_none];rw [Z8 (J9 hT hx)];exact .l h0 h1 hc⟩
 | h hx h0 h1=>exact⟨by omega,cap,by simp only [Option.map_some,Option.map_none];rw [Z8 (J9 hT hx)];exact .h h0 h1 hc⟩
 | lh hx hy h0 h1 h2=>exact⟨by omega,cap,by simp only [Option.map_some,Option.map_none];rw [Z8 (J9 hT hx),Z8 (J9 hT hy)];exact .lh h0 h1 h2 hc⟩
 | @hm x y k k' n n' hx hy h0 h1 h2=>exact⟨by omega,n'.toNat,by simp only [Option.map_some,Option.map_none];rw [Z8 (J9 hT hx),Z8 (J9 hT hy)];exact .hm h0 h1 h2 hc⟩
theorem kP {t:TypeId} {x:Operand} {lo hi mx:Option Operand} {r:Option Nat} {α:Type} {sz:Nat} {enc:α→Nat→T} {xs:List α} {l h:Nat} (hs:Q5 cx.P t=some sz)(hx:s.ev x=some (.c (.t r (.sl sz enc xs))))(hb:Bo s xs.length lo hi mx l h):
  Ps cx s (.slice t x lo hi mx) (.c (.t r (.sl sz enc ((xs.take h).drop l)))):=
 fun A w E S hI hT=>by
  obtain⟨hlv,hr⟩:=J9 hT hx
  obtain⟨A',cap,hu,hc,hr'⟩:=hr
  obtain⟨hl,m,hbd⟩:=hb.bd hT hc
  have hrun:=fun w'=>(hbd.run hs A' w').1
  obtain⟨_,h1,h2⟩:=hbd.run hs A' w
  refine⟨sliced A' l h m sz,fun w' hW _ _ _ _ _=>?_,hlv,MK (w:=w) (cap:=cap) ⟨A',cap,rfl,hc,hr'⟩ h1 hl h2⟩
  simp only [execOp,hu]
  rw [Sem.run_bind,hrun w']
  rfl
theorem AI {t:TypeId} {x:Operand} {lo hi mx:Option Operand} {r:Option Nat} {α:Type} {sz:Nat} {enc:α→Nat→T} {xs:List α} {l h:Nat} (hd:Q6 dst cx.n=true)(hs:Q5 cx.P t=some sz)(hx:s.ev x=some (.c (.t r (.sl sz enc xs))))(hb:Bo s xs.length lo hi mx l h):
  Os cx s ⟨dst,.slice t x lo hi mx,ty,pos,aft,none⟩ (s.sets dst (some (.c (.t r (.sl sz enc ((xs.take h).drop l)))))) true:=C8 hd (kP hs hx hb)
end rules
end Go.Eng
namespace Go.Eng
open Go Go.RowKit
def T6:List Int→List Int→Int
 | [],[]=>0
 | [],_::_=> -1
 | _::_,[]=>1
 | x::a,y::b=>if x < y then -1 else if y < x then 1 else T6 a b
theorem eX:∀a b:List Int,T6 a b=0↔a=b
 | [],[]=>by simp [T6]
 | [],_::_=>by simp [T6]
 | _::_,[]=>by simp [T6]
 | x::a,y::b=>by
  unfold T6
  split
  ·constructor
   ·intro h;omega
   ·intro h;cases h;omega
  ·split
   ·constructor
    ·intro h;omega
    ·intro h;cases h;omega
   ·rw [eX a b]
    constructor
    ·rintro rfl
     rw [show x=y by omega]
    ·intro h;cases h;rfl
theorem fV:∀(a b:List Int) (m:Nat),a.take m=b.take m→m≤a.length→m≤b.length→T6 a b=T6 (a.drop m) (b.drop m)
 | a,b,0,_,_,_=>rfl
 | [],b,m + 1,_,h,_=>by simp at h
 | x::a,[],m + 1,_,_,h=>by simp at h
 | x::a,y::b,m + 1,h,h1,h2=>by
  simp only [List.take_succ_cons,List.cons.injEq] at h
  obtain⟨rfl,h⟩:=h
  rw [T6,if_neg (by omega),if_neg (by omega),fV a b m h (by simpa using h1) (by simpa using h2)]
  rfl
theorem XV {a b:List Int} {m:Nat} {x y:Int} (h:a.take m=b.take m)(hx:a[m]? =some x)(hy:b[m]? =some y):(x < y→T6 a b= -1)∧(y < x→T6 a b=1):=by
 obtain⟨h1,rfl⟩:=List.getElem?_eq_some_iff.1 hx
 obtain⟨h2,rfl⟩:=List.getElem?_eq_some_iff.1 hy
 rw [fV a b m h (by omega) (by omega),List.drop_eq_getElem_cons h1,List.drop_eq_getElem_cons h2,T6]
 exact⟨fun h=>if_pos h,fun h=>by rw [if_neg (by omega),if_pos h]⟩
theorem f4 {a b:List Int} {m:Nat} (h:a.take m=b.take m)(h1:m≤a.length)(h2:m≤b.length):(m=a.length→m < b.length→T6 a b= -1)∧(m < a.length→m=b.length→T6 a b=1)∧(m=a.length→m=b.length→T6 a b=0):=by
 rw [fV a b m h h1 h2]
 refine⟨fun e1 e2=>?_,fun e1 e2=>?_,fun e1 e2=>?_⟩
 ·rw [e1,List.drop_length,List.drop_eq_getElem_cons (by omega)];rfl
 ·rw [e2,List.drop_length,List.drop_eq_getElem_cons (by omega)];rfl
 ·rw [e1,List.drop_length,← e1,e2,List.drop_length];rfl
section
variable {α:Type} {p:α→α→Bool} {a b:List α} {m:Nat}
end
end Go.Eng
