import Derived.Test.YtiikejgonbnimaaGreatEngA
import Derived.OrdersHeld
set_option linter.unusedVariables false
set_option linter.unusedSimpArgs false
namespace Go.Eng
open Go Go.RowKit

def I5 (p:AC→Bool) (l:List (Nat × Option AV)):List (Nat × Option AV):=l.map fun x=>(x.1,x.2.map (AV.cut p))
def Y6 (p:AC→Bool) (l:List (Nat × Option Ob)):List (Nat × Option Ob):=l.map fun x=>(x.1,x.2.map (Ob.cut p))
def T4:List Nat→List (Nat × Option Ob)→List (Nat × Option Ob)
 | [],l=>l
 | i::is,l=>(i,none)::T4 is l
theorem rU {p:AC→Bool}:∀(l:List (Nat × Option AV)) (t:Nat),y9 (I5 p l) t=(y9 l t).map (AV.cut p)
 | [],t=>rfl
 | (k,v)::r,t=>by
  show y9 ((k,v.map (AV.cut p))::I5 p r) t=_
  rw [D9,D9,rU r t]
  split <;> rfl
theorem Z4 {p:AC→Bool}:∀(l:List (Nat × Option Ob)) (t:Nat),y9 (Y6 p l) t=(y9 l t).map (Ob.cut p)
 | [],t=>rfl
 | (k,v)::r,t=>by
  show y9 ((k,v.map (Ob.cut p))::Y6 p r) t=_
  rw [D9,D9,Z4 r t]
  split <;> rfl
theorem gT:∀(is:List Nat) (l:List (Nat × Option Ob)) (t:Nat),y9 (T4 is l) t=if t∈is then none else y9 l t
 | [],l,t=>by simp [T4]
 | i::is,l,t=>by
  simp only [T4]
  rw [D9,gT is l t]
  by_cases h:t=i
  ·subst h;simp
  ·simp [h]
theorem O7.cut {E E':Nat→EE} {S S':Nat→Prop} {w w':World} {p:AC→Bool} (h:Carry E E' S S' w w' p) {tm:List (Nat × Option AV)} {tmps:Array Value} (ht:O7 E S w tm tmps):O7 E' S' w' (I5 p tm) tmps:=by
 intro t v hv
 rw [rU] at hv
 obtain⟨v0,h0,rfl⟩:=Option.map_eq_some_iff.mp hv
 exact h.v (ht t v0 h0)
theorem r7 {a:AC} {i:Nat} (h:a.reads i=true):a.names i=true:=by
 cases a with
 | t r x=>cases r <;> simp_all [AC.reads,AC.names]
 | pel r c m=>cases r <;> simp_all [AC.reads,AC.names]
 | cel=>simp_all [AC.reads,AC.names]
 | _=>simp_all [AC.reads]

inductive Mv (s:St):Bool→AC→T→Option Nat→Prop
 | sc {deep:Bool} {v:Value}:Mv s deep (.t none (.v v)) (.v v) none
 | nil {deep:Bool} {α:Type} {sz:Nat} {enc:α→Nat→T}:Mv s deep (.t none (.v (.slice none 0 0))) (.sl sz enc []) none
 | sh {x:T}:Mv s false (.t none x) x none
 | own {i e:Nat} {pn:Option Value} {α:Type} {sz:Nat} {enc:α→Nat→T} {xs:List α} (h:y9 s.ob i=some (.row pn e true sz enc xs)):Mv s true (.own i) (.sl sz enc xs) (some i)
inductive xM (s:St) (deep:Bool):List AC→(Nat→T)→Nat→List Nat→Prop
 | nil {c:Nat→T} {j:Nat}:xM s deep [] c j []
 | cons {a:AC} {al:List AC} {c:Nat→T} {j:Nat} {is:List Nat} (h:Mv s deep a (c j) none) (hr:xM s deep al c (j + 1) is):xM s deep (a::al) c j is
 | take {a:AC} {al:List AC} {c:Nat→T} {j i:Nat} {is:List Nat} (h:Mv s deep a (c j) (some i)) (hn:is.all (fun k=>!Nat.beq k i)=true) (hr:xM s deep al c (j + 1) is):xM s deep (a::al) c j (i::is)
section
variable {cx:Cx} {s:St} {E:Nat→EE} {S:Nat→Prop} {w:World}
theorem Mv.den0 {deep:Bool} {a:AC} {c:T} {u:Value} (h:Mv s deep a c none)(hd:S6 E S w a u):(deep=true→Ow w c u (fun _=>False))∧(deep=false→Rd w S c u):=by
 generalize ho:(none:Option Nat)=o at h
 cases h with
 | @sc _ v=>exact⟨fun _=>hd.2,fun _=>hd.2⟩
 | nil=>
  obtain⟨_,rfl,_⟩:=hd
  refine⟨fun _=>⟨0,[],fun _ _ _=>False,World.ownsRow_nil _ _ _ _,fun g h=>by simp [Value.ownBlock] at h,fun _ _ _ h=>h.elim,fun _ _ _ _ _ h=>h.elim,fun i x h=>by simp at h⟩,fun _=>OX⟩
 | sh=>exact⟨fun h=>by(cases h),fun _=>hd.2⟩
 | own h=>cases ho
theorem Mv.den1 {deep:Bool} {a:AC} {c:T} {u:Value} {i:Nat} (h:Mv s deep a c (some i))(hI:G6 cx s.ob s.nx E S w)(hd:S6 E S w a u):deep=true∧(E i).live∧Ow w c u (E i).F:=by
 generalize ho:(some i:Option Nat)=o at h
 cases h with
 | own h=>
  cases ho
  obtain⟨_,rfl,_⟩:=hd
  obtain⟨h1,h2,_,h3⟩:=hI.obs _ _ h
  exact⟨rfl,h1,⟨_,h3⟩⟩
 | _=>cases ho
theorem xM.den {deep:Bool} {al:List AC} {c:Nat→T} {st:Nat} {is:List Nat} {vals:List Value} (h:xM s deep al c st is)(hI:G6 cx s.ob s.nx E S w)(hd:r6 E S w al vals):
  (∀i∈is,(E i).live)∧(deep=false→is=[]∧∀j,j < al.length→∃u',vals[j]? =some u'∧Rd w S (c (st + j)) u')∧
  (deep=true→∃G:Nat→Nat→Prop,(∀j k,G j k→∃i∈is,(E i).F k)∧(∀j j' k,G j k→G j' k→j=j')∧∀j,j < al.length→∃u',vals[j]? =some u'∧Ow w (c (st + j)) u' (G j)):=by
 induction h generalizing vals with
 | nil=>exact⟨fun i h=>by simp at h,fun _=>⟨rfl,fun j h=>by simp at h⟩,fun _=>⟨fun _ _=>False,fun _ _ h=>h.elim,fun _ _ _ h=>h.elim,fun j h=>by simp at h⟩⟩
 | @cons a al c j is h hr ih=>
  obtain⟨h1,h2⟩:=hd
  cases vals with
  | nil=>simp at h1
  | cons v vals=>
   obtain⟨q0,q1,q2⟩:=ih (vals:=vals) ⟨by simpa using h1,fun j c hj=>h2 (j + 1) c hj⟩
   obtain⟨u',e1,e2⟩:=h2 0 a rfl
   cases e1
   obtain⟨d1,d2⟩:=h.den0 e2
   refine⟨q0,fun hf=>⟨(q1 hf).1,fun k hk=>?_⟩,fun ht=>?_⟩
   ·match k with
    | 0=>exact⟨v,rfl,d2 hf⟩
    | k + 1=>
     obtain⟨u',r1,r2⟩:=(q1 hf).2 k (by simpa using hk)
     exact⟨u',r1,by rw [show j +(k + 1)=j + 1 + k by omega];exact r2⟩
   ·obtain⟨G,g1,g2,g3⟩:=q2 ht
    refine⟨fun k=>match k with | 0=>fun _=>False | k + 1=>G k,fun k x hx=>?_,fun k k' x hx hx'=>?_,fun k hk=>?_⟩
    ·match k,hx with
     | k + 1,hx=>exact g1 k x hx
    ·match k,k',hx,hx' with
     | k + 1,k' + 1,hx,hx'=>rw [g2 k k' x hx hx']
    ·match k with
     | 0=>exact⟨v,rfl,d1 ht⟩
     | k + 1=>
      obtain⟨u',r1,r2⟩:=g3 k (by simpa using hk)
      exact⟨u',r1,by rw [show j +(k + 1)=j + 1 + k by omega];exact r2⟩
 | @take a al c j i is h hn hr ih=>
  obtain⟨h1,h2⟩:=hd
  cases vals with
  | nil=>simp at h1
  | cons v vals=>
   obtain⟨q0,q1,q2⟩:=ih (vals:=vals) ⟨by simpa using h1,fun j c hj=>h2 (j + 1) c hj⟩
   obtain⟨u',e1,e2⟩:=h2 0 a rfl
   cases e1
   obtain⟨d0,d1,d2⟩:=h.den1 hI e2
   have hni:i ∉ is:=fun hi=>by
    have:=(List.all_eq_true.1 hn) i hi
    simp at this
   refine⟨fun k hk=>?_,fun hf=>by(rw [hf] at d0;cases d0),fun ht=>?_⟩
   ·rcases List.mem_cons.1 hk with rfl | hk
    ·exact d1
    ·exact q0 k hk
   ·obtain⟨G,g1,g2,g3⟩:=q2 ht
    have hx0:∀k x,G k x→¬(E i).F x:=fun k x hx hi=>by
     obtain⟨i',hi',hf⟩:=g1 k x hx
     exact hI.dis i i' (by rintro rfl;exact hni hi') d1 (q0 i' hi') x hi hf
    refine⟨fun k=>match k with | 0=>(E i).F | k + 1=>G k,fun k x hx=>?_,fun k k' x hx hx'=>?_,fun k hk=>?_⟩
    ·match k,hx with
     | 0,hx=>exact⟨i,by simp,hx⟩
     | k + 1,hx=>obtain⟨i',hi',hf⟩:=g1 k x hx;exact⟨i',by simp [hi'],hf⟩
    ·match k,k',hx,hx' with
     | 0,0,_,_=>rfl
     | 0,k' + 1,hx,hx'=>exact(hx0 k' x hx' hx).elim
     | k + 1,0,hx,hx'=>exact(hx0 k x hx hx').elim
     | k + 1,k' + 1,hx,hx'=>rw [g2 k k' x hx hx']
    ·match k with
     | 0=>exact⟨v,rfl,d2⟩
     | k + 1=>
      obtain⟨u',r1,r2⟩:=g3 k (by simpa using hk)
      exact⟨u',r1,by rw [show j +(k + 1)=j + 1 + k by omega];exact r2⟩
end

def o6 (E:Nat→EE) (i:Nat) (is:List Nat) (x:EE):Nat→EE:=fun j=>if j=i then x else if j∈is then⟨(E j).u,(E j).F,False,(E j).rd⟩ else E j
theorem Q9 {E:Nat→EE} {i:Nat} {is:List Nat} {x:EE}:o6 E i is x i=x:=if_pos rfl
theorem tT {E:Nat→EE} {i j:Nat} {is:List Nat} {x:EE} (h:j≠i)(h2:j∈is):o6 E i is x j=⟨(E j).u,(E j).F,False,(E j).rd⟩:=by unfold o6;rw [if_neg h,if_pos h2]
theorem I3 {E:Nat→EE} {i j:Nat} {is:List Nat} {x:EE} (h:j≠i)(h2:j ∉ is):o6 E i is x j=E j:=by unfold o6;rw [if_neg h,if_neg h2]
def c7 (i:Nat) (is:List Nat):AC→Bool:=fun a=>a.names i||is.any fun q=>a.names q
section
variable {cx:Cx} {ob:List (Nat × Option Ob)} {nx:Nat} {E:Nat→EE} {S:Nat→Prop} {w w':World}
theorem G6.write (hI:G6 cx ob nx E S w) {i:Nat} {is:List Nat} {x:EE} {o:Ob} (p:AC→Bool)(hi:(E i).live)(his:∀q∈is,(E q).live)(hx:x.live)
  (hp:∀a,p a=false→(∀q,q∈is→a.names q=false)∧(a.names i=true→x.u=(E i).u)∧(a.reads i=true→(E i).live∧(E i).rd→False))
  (hF:∀k,x.F k→(E i).F k∨(∃q∈is,(E q).F k)∨(w.heap.size≤k∧k < w'.heap.size))
  (hsz:w.heap.size≤w'.heap.size) (hos:w'.os=w.os) (htp:w'.tape=w.tape) (hout:w'.output=w.output)
  (hw:∀k,k < w.heap.size→¬(E i).F k→w'.heap[k]? =w.heap[k]?)
  (ho:x6 (o6 E i is x) S w' i o):
  G6 cx ((i,some o)::T4 is (Y6 p ob)) nx (o6 E i is x) S w'∧Carry E (o6 E i is x) S S w w' p:=by
 have hC:Carry E (o6 E i is x) S S w w' p:= {
  sub:=fun _ h=>h
  keep:=fun k hk=>hw k (hI.slt k hk) fun h=>(hI.fp i hi k h).2.1 hk
  place:=fun a ha j hn hl=>by
   obtain⟨h1,h2,_⟩:=hp a ha
   by_cases e:j=i
   ·subst e
    rw [Q9]
    exact⟨hx,h2 hn⟩
   ·have:j ∉ is:=fun hj=>by rw [h1 j hj] at hn;cases hn
    rw [I3 e this]
    exact⟨hl,rfl⟩
  reads:=fun a ha j hn hl=>by
   obtain⟨h1,_,h3⟩:=hp a ha
   have e:j≠i:=fun e=>by subst e;exact h3 hn hl
   have:j ∉ is:=fun hj=>by have:=r7 hn;rw [h1 j hj] at this;cases this
   rw [I3 e this]
   exact⟨hl,fun _ q=>q,fun k hk=>hw k (hI.fp j hl.1 k hk).1 fun h=>hI.dis j i e hl.1 hi k hk h⟩}
 refine⟨⟨fun k hk=>Nat.lt_of_lt_of_le (hI.slt k hk) hsz,hI.snew,?_,?_,?_,?_,?_⟩,hC⟩
 ·intro j o' hj
  rw [D9] at hj
  by_cases e:j=i
  ·subst e
   rw [if_pos rfl] at hj
   cases hj
   exact⟨by rw [Q9];exact hx,ho⟩
  ·rw [if_neg e,gT] at hj
   split at hj
   ·cases hj
   ·rename_i hni
    rw [Z4] at hj
    obtain⟨o0,h0,rfl⟩:=Option.map_eq_some_iff.mp hj
    obtain⟨h1,h2⟩:=hI.obs j o0 h0
    rw [I3 e hni]
    exact⟨h1,x6.carry hC (by rw [I3 e hni]) (fun k=>by rw [I3 e hni]) (by rw [I3 e hni]) (fun k hk=>hw k (hI.fp j h1 k hk).1 fun h=>hI.dis j i e h1 hi k hk h) h2⟩
 ·have key:∀j,j≠i→(o6 E i is x j).live→(E j).live∧(o6 E i is x j).F=(E j).F∧j ∉ is:=fun j e hl=>by
   by_cases h:j∈is
   ·rw [tT e h] at hl;exact hl.elim
   ·rw [I3 e h] at hl ⊢;exact⟨hl,rfl,h⟩
  have one:∀j k,j≠i→(o6 E i is x j).live→x.F k→(o6 E i is x j).F k→False:=fun j k e hl h1 h2=>by
   obtain⟨l1,l2,l3⟩:=key j e hl
   rw [l2] at h2
   rcases hF k h1 with h | ⟨q,hq,h⟩ | ⟨h,_⟩
   ·exact hI.dis j i e l1 hi k h2 h
   ·exact hI.dis j q (by rintro rfl;exact l3 hq) l1 (his q hq) k h2 h
   ·have:=(hI.fp j l1 k h2).1
    omega
  intro j j' hij hl hl' k h1 h2
  by_cases e1:j=i
  ·subst e1
   rw [Q9] at h1
   exact one j' k (fun e=>hij e.symm) hl' h1 h2
  ·by_cases e2:j'=i
   ·subst e2
    rw [Q9] at h2
    exact one j k e1 hl h2 h1
   ·obtain⟨l1,l2,_⟩:=key j e1 hl
    obtain⟨m1,m2,_⟩:=key j' e2 hl'
    rw [l2] at h1
    rw [m2] at h2
    exact hI.dis j j' hij l1 m1 k h1 h2
 ·intro j hl k hk
  by_cases e:j=i
  ·subst e
   rw [Q9] at hk
   rcases hF k hk with h | ⟨q,hq,h⟩ | ⟨h,h2⟩
   ·obtain⟨a,b⟩:=hI.fp j hi k h
    exact⟨by omega,b⟩
   ·obtain⟨a,b⟩:=hI.fp q (his q hq) k h
    exact⟨by omega,b⟩
   ·refine⟨h2,fun hs=>?_,.inl (Nat.le_trans hI.kept.size h)⟩
    have:=hI.slt k hs
    omega
  ·by_cases h:j∈is
   ·rw [tT e h] at hl;exact hl.elim
   ·rw [I3 e h] at hl hk
    obtain⟨a,b⟩:=hI.fp j hl k hk
    exact⟨by omega,b⟩
 ·intro j hl
  by_cases e:j=i
  ·subst e;exact hI.nxt j hi
  ·by_cases h:j∈is
   ·rw [tT e h] at hl;exact hl.elim
   ·rw [I3 e h] at hl;exact hI.nxt j hl
 ·exact⟨hos.trans hI.kept.os,htp.trans hI.kept.tape,hout.trans hI.kept.output,Nat.le_trans hI.kept.size hsz,fun k hk hm=>(hw k (Nat.lt_of_lt_of_le hk hI.kept.size) fun h=>by
   rcases (hI.fp i hi k h).2.2 with q | q
   ·omega
   ·exact hm q).trans (hI.kept.block k hk hm)⟩
end
def CV (P:Program) (t:TypeId):Option (TypeId × Nat × Nat):=
 match P.underlying t with
 | some (.slice e)=>match P.info? e with
  | some i=>match i.zero with
   | some z=>if z.cells.size=i.size then some (e,i.size,i.bytes) else none
   | none=>none
  | none=>none
 | _=>none
theorem ZY {P:Program} {t e:TypeId} {sz by':Nat} (h:CV P t=some (e,sz,by')):∃i z,P.underlying t=some (.slice e)∧P.info? e=some i∧i.zero=some z∧i.size=sz∧i.bytes=by'∧z.cells.size=sz:=by
 unfold CV at h
 split at h
 ·rename_i e' hu
  split at h
  ·rename_i i hi
   split at h
   ·rename_i z hz
    split at h
    ·rename_i hs
     cases h
     exact⟨i,z,hu,hi,hz,rfl,rfl,hs⟩
    ·cases h
   ·cases h
  ·cases h
 ·cases h
theorem FX {a b n sz:Nat} (h:a < n)(hb:b < sz):a * sz + b < n * sz:=by
 have:(a + 1) * sz≤n * sz:=Nat.mul_le_mul_right sz h
 rw [Nat.add_mul] at this
 omega
theorem N5 {w:World} {e:TypeId} {size n:Nat} {v:Value} {xs:List Value} (h:w.ownsRow 0 e size v n xs):∃A c,v= .slice A n c∧n≤c:=by
 obtain⟨A,c,h1,h2,_⟩:=LY h
 exact⟨A,c,h1,h2⟩
section rules
variable {cx:Cx} {s:St} {k:List Item} {R:Ending→World→Prop} {ops:Array Oper} {rest:List Oper} {dst:Option Nat} {ty:TypeId} {pos:String} {aft:Array Edge}
theorem i8 (i:Nat) {pn:Option Value} {t e:TypeId} {sz by' q:Nat} {x y:Operand} {us:List AC} {deep:Bool} {α:Type} {enc:α→Nat→T} {xs:List α} (z:α) {is:List Nat} (hd:Q6 dst cx.n=true)(he:CV cx.P t=some (e,sz,by'))(hpos:Nat.blt 0 sz=true)
  (hx:s.ev x=some (.c (.own i))) (hb:y9 s.ob i=some (.row pn e deep sz enc xs)) (hy:s.ev y=some (.c (.bsl q 1))) (hq:y9 s.ob q=some (.box us)) (hul:Nat.beq us.length sz=true) (hm:xM s deep us (enc z) 0 is) (hii:is.all (fun k=>!Nat.beq k i)=true) (hlen:(xs.length + 1) * by'≤140737488355328) (hl63:xs.length + 1≤9223372036854775807):
  Os cx s ⟨dst,.call {callee:=.builtin .append,args:=#[x,y],argTypes:=#[t,t]},ty,pos,aft,none⟩ ((⟨I5 (c7 i is) s.tm,(i,some (.row none e deep sz enc (xs++[z])))::T4 is (Y6 (c7 i is) s.ob),s.nx⟩:St).sets dst (some (.c (.own i)))) false:=by
 refine Z3 fun a w hg=>?_
 obtain⟨E,S,hI,hT,hn,hdf⟩:=hg
 have hpos:0 < sz:=by simpa using hpos
 have hul:us.length=sz:=Nat.eq_of_beq_eq_true hul
 obtain⟨ti,tz,t1,t2,t3,t4,t5,t6⟩:=ZY he
 obtain⟨hli,hux,_⟩:=J9 hT hx
 obtain⟨hlq,gq,uq,huy⟩:=J9 hT hy
 obtain⟨_,hrd,_,ho⟩:=hI.obs _ _ hb
 obtain⟨_,_,g',eq',vals,q3,_,q4,q5⟩:=hI.obs _ _ hq
 rw [q3] at uq
 cases uq
 obtain⟨m1,m2,m3⟩:=hm.den hI q5
 have hvl:vals.length=sz:=q5.1.trans hul
 have hnews:∀j u,vals[j]? =some u→w.cell? ((⟨gq,0,none⟩:Addr).add j)=some u:=fun j u hu=>by
  rw [U6,Nat.zero_add,cell_of_row w gq j _ _ _ q4]
  simpa using hu
 have hown:∃cells,w.ownsRow 0 e sz (E i).u xs.length cells∧∀g,(E i).u.ownBlock=some g→(E i).F g:=by
  cases deep
  ·simp only [Bool.false_eq_true,if_false] at ho
   obtain⟨cells,h1,h2,_⟩:=ho
   exact⟨cells,h1,h2⟩
  ·simp only [if_true] at ho
   obtain⟨cells,G,h1,h2,_⟩:=ho
   exact⟨cells,h1,h2⟩
 obtain⟨cells0,hown0,hblk⟩:=hown
 have hrun:=fun cells (hc:w.ownsRow 0 e sz (E i).u xs.length cells)=>run_append_own_at (P:=cx.P) w 0 t ty e ti tz sz by' t1 t2 t3 t4 t5 t6 hpos (E i).u xs.length cells hc ⟨gq,0,none⟩ 1 1 vals (by omega) hnews q5.ones (by simp only [maxLen];omega) (by rw [Nat.add_comm] at *;simpa [Nat.add_comm] using hlen) (Nat.zero_le _)
 obtain⟨v1,w1,r1,r2,r3,_,r5⟩:=hrun cells0 hown0
 -- the row as it is now
 have hsize:w.heap.size≤w1.heap.size:=r3.size
 have hfresh:v1.ownBlock=some w.heap.size→w.heap.size < w1.heap.size:=fun hv=>by
  rcases r2.2 with⟨e1,_⟩ | ⟨g,cap,cur,e1,_,e2,_⟩
  ·rw [e1] at hv;simp [Value.ownBlock] at hv
  ·rw [e1] at hv
   simp [Value.ownBlock] at hv
   subst hv
   exact(Array.getElem?_eq_some_iff.1 e2).1
 have hkeep:∀q,q < w.heap.size→¬(E i).F q→w1.heap[q]? =w.heap[q]? :=fun q hq hf=>r3.block q hq fun hb'=>hf (hblk q hb'.symm)
 have his:∀q∈is,q≠i:=fun q hq e=>by
  have:=(List.all_eq_true.1 hii) q hq
  subst e
  simp at this
 have hne1:∀q,q < w.heap.size→some q≠(E i).u.ownBlock→v1.ownBlock≠some q:=fun q hq hn' hv=>by
  rcases r5 with h5 | h5
  ·rw [h5] at hv;exact hn' hv.symm
  ·rw [h5] at hv;cases hv;omega
 let F1:Nat→Prop:=fun k=>(E i).F k∨v1.ownBlock=some k∨∃q∈is,(E q).F k
 have hlen':(xs++[z]).length=xs.length + 1:=by simp
 have hgetz:∀(j:Nat) (b:Nat),b < sz→(cells0++vals)[xs.length * sz + b]? =vals[b]? :=fun j b hb=>by
  rw [List.getElem?_append_right (by rw [hown0.1];omega),hown0.1,Nat.add_sub_cancel_left]
 have hobj:x6 (o6 E i is ⟨v1,F1,True,True⟩) S w1 i (.row none e deep sz enc (xs++[z])):=by
  refine⟨by rw [Q9];trivial,fun v hv=>(by cases hv),?_⟩
  rw [Q9]
  cases deep
  ·simp only [Bool.false_eq_true,if_false] at ho ⊢
   obtain⟨cells,h1,h2,h3⟩:=ho
   obtain⟨v2,w2,s1,s2,s3,_,s5⟩:=hrun cells h1
   rw [r1] at s1
   cases s1
   refine⟨cells++vals,by rw [hlen'];exact s2,fun g hg=> .inr (.inl hg),fun a x' hx' b hb=>?_⟩
   by_cases ha:a < xs.length
   ·rw [List.getElem?_append_left ha] at hx'
    obtain⟨u',e1,e2⟩:=h3 a x' hx' b hb
    refine⟨u',?_,Rd.move (fun _ q=>q) (fun k hk=>hkeep k (hI.slt k hk) fun hf=>(hI.fp i hli k hf).2.1 hk) _ _ e2⟩
    rw [List.getElem?_append_left (by rw [h1.1];exact FX ha hb)]
    exact e1
   ·have ha':a=xs.length:=by
     have:=(List.getElem?_eq_some_iff.1 hx').1
     rw [hlen'] at this
     omega
    subst ha'
    rw [List.getElem?_append_right (Nat.le_refl _),Nat.sub_self] at hx'
    cases hx'
    obtain⟨u',e1,e2⟩:=(m2 rfl).2 b (by omega)
    refine⟨u',?_,Rd.move (fun _ q=>q) (fun k hk=>hkeep k (hI.slt k hk) fun hf=>(hI.fp i hli k hf).2.1 hk) _ _ (by simpa using e2)⟩
    rw [List.getElem?_append_right (by rw [h1.1];omega),h1.1,Nat.add_sub_cancel_left]
    exact e1
  ·simp only [if_true] at ho ⊢
   obtain⟨cells,G,h1,h2,h3,h4,h5⟩:=ho
   obtain⟨v2,w2,s1,s2,s3,_,s5⟩:=hrun cells h1
   rw [r1] at s1
   cases s1
   obtain⟨Gz,g1,g2,g3⟩:=m3 rfl
   have hGzi:∀b k,Gz b k→¬(E i).F k∧k < w.heap.size:=fun b k hk=>by
    obtain⟨q,hq,hf⟩:=g1 b k hk
    exact⟨fun hi'=>hI.dis q i (his q hq) (m1 q hq) hli k hf hi',(hI.fp q (m1 q hq) k hf).1⟩
   refine⟨cells++vals,fun a b k=>if a < xs.length then G a b k else a=xs.length∧Gz b k,by rw [hlen'];exact s2,fun g hg=> .inr (.inl hg),fun a b k hk=>?_,fun a b a' b' k hk hk'=>?_,fun a x' hx' b hb=>?_⟩
   ·dsimp only at hk
    split at hk
    ·obtain⟨e1,e2⟩:=h3 a b k hk
     exact⟨.inl e1,hne1 k (hI.fp i hli k e1).1 (fun e=>e2 e.symm)⟩
    ·obtain⟨q,hq,hf⟩:=g1 b k hk.2
     obtain⟨e1,e2⟩:=hGzi b k hk.2
     exact⟨.inr (.inr ⟨q,hq,hf⟩),hne1 k e2 (fun e=>e1 (hblk k e.symm))⟩
   ·dsimp only at hk hk'
    split at hk <;> split at hk'
    ·exact h4 a b a' b' k hk hk'
    ·exact((hGzi b' k hk'.2).1 (h3 a b k hk).1).elim
    ·exact((hGzi b k hk.2).1 (h3 a' b' k hk').1).elim
    ·exact⟨hk.1.trans hk'.1.symm,g2 b b' k hk.2 hk'.2⟩
   ·by_cases ha:a < xs.length
    ·rw [List.getElem?_append_left ha] at hx'
     obtain⟨u',e1,e2⟩:=h5 a x' hx' b hb
     refine⟨u',?_,Ow.move _ _ (fun k hk=>by dsimp only;rw [if_pos ha];exact hk) (fun k hk=>?_) e2⟩
     ·rw [List.getElem?_append_left (by rw [h1.1];exact FX ha hb)]
      exact e1
     ·obtain⟨e3,e4⟩:=h3 a b k hk
      exact r3.block k (hI.fp i hli k e3).1 (fun e=>e4 e.symm)
    ·have ha':a=xs.length:=by
      have:=(List.getElem?_eq_some_iff.1 hx').1
      rw [hlen'] at this
      omega
     subst ha'
     rw [List.getElem?_append_right (Nat.le_refl _),Nat.sub_self] at hx'
     cases hx'
     obtain⟨u',e1,e2⟩:=g3 b (by omega)
     rw [Nat.zero_add] at e2
     refine⟨u',?_,Ow.move (F:=Gz b) _ _ (fun k hk=>by dsimp only;rw [if_neg (by omega)];exact⟨rfl,hk⟩) (fun k hk=>?_) e2⟩
     ·rw [List.getElem?_append_right (by rw [h1.1];omega),h1.1,Nat.add_sub_cancel_left]
      exact e1
     ·obtain⟨e3,e4⟩:=hGzi b k hk
      exact hkeep k e4 e3
 have hW:=hI.write (i:=i) (is:=is) (x:=⟨v1,F1,True,True⟩) (c7 i is) hli m1 trivial (fun a ha=>by
   simp only [c7,Bool.or_eq_false_iff] at ha
   refine⟨fun q hq=>?_,fun hn'=>by(rw [ha.1] at hn';cases hn'),fun hr _=>by(have:=r7 hr;rw [ha.1] at this;cases this)⟩
   have:=List.any_eq_false.1 ha.2 q hq
   simpa using this)
  (fun k hk=>by
   rcases hk with hk | hk | hk
   ·exact .inl hk
   ·rcases r5 with h5 | h5
    ·rw [h5] at hk;exact .inl (hblk k hk)
    ·have:=hfresh h5
     rw [h5] at hk
     cases hk
     exact .inr (.inr ⟨Nat.le_refl _,this⟩)
   ·exact .inr (.inl hk))
  hsize r3.os r3.tape r3.output hkeep hobj
 refine⟨.value v1,w1,?_,.inl ⟨v1,rfl,o6 E i is ⟨v1,F1,True,True⟩,S,?_,I8 (s:=⟨I5 (c7 i is) s.tm,(i,some (.row none e deep sz enc (xs++[z])))::T4 is (Y6 (c7 i is) s.ob),s.nx⟩) hd hn (O7.cut hW.2 hT) (fun v' e'=>?_),by rw [P8];exact hn,by rw [put_defers];exact hdf⟩,fun h=>by(cases h)⟩
 ·simp only [execOp,resolve,invoke,builtin,Sem.run_bind,Sem.run_pure,Result.andThen_ok,List.map_toArray,List.map_cons,List.map_nil,hux,huy]
  show((Builtin.append_ #[t,t] ty #[(E i).u,.slice (some ⟨gq,0,none⟩) 1 1]).run cx.P w).andThen _=_
  rw [r1]
  rfl
 ·rw [B7,A7]
  exact hW.1
 ·cases e'
  refine⟨by rw [Q9];trivial,by rw [Q9],?_⟩
  obtain⟨A,c,e1,_⟩:=N5 r2
  rw [e1]
  rfl
end rules
end Go.Eng

set_option linter.unusedVariables false
set_option linter.unusedSimpArgs false
namespace Go.Eng
open Go Go.RowKit

inductive Zr:T→Value→Prop
 | v {x:Value} (h:x.oneCell'=true):Zr (.v x) x
 | sl {α:Type} {sz:Nat} {enc:α→Nat→T}:Zr (.sl sz enc []) (.slice none 0 0)
inductive LH (c:Nat→T):Nat→List Value→Prop
 | nil {j:Nat}:LH c j []
 | cons {j:Nat} {v:Value} {vs:List Value} (h:Zr (c j) v) (hr:LH c (j + 1) vs):LH c j (v::vs)
theorem LH.get {c:Nat→T} {st:Nat} {vs:List Value} (h:LH c st vs):∀q v,vs[q]? =some v→Zr (c (st + q)) v:=by
 induction h with
 | nil=>intro q v h;simp at h
 | @cons j v0 vs h hr ih=>
  intro q v hq
  match q with
  | 0=>cases hq;exact h
  | q + 1=>
   have:=ih q v (by simpa using hq)
   rwa [show j +(q + 1)=j + 1 + q by omega]
theorem Zr.rd {w:World} {S:Nat→Prop} {t:T} {v:Value} (h:Zr t v):Rd w S t v:=by
 cases h with
 | v h=>exact⟨rfl,h⟩
 | sl=>exact OX
theorem Zr.ow {w:World} {t:T} {v:Value} (h:Zr t v):Ow w t v (fun _=>False):=by
 cases h with
 | v h=>exact⟨rfl,h⟩
 | sl=>exact⟨0,[],fun _ _ _=>False,World.ownsRow_nil _ _ _ _,fun g h=>by simp [Value.ownBlock] at h,fun _ _ _ h=>h.elim,fun _ _ _ _ _ h=>h.elim,fun i x h=>by simp at h⟩
theorem UU {β:Type _} {cs us:List β} {q:Nat} (h:q + us.length≤cs.length):(O6 cs q us).length=cs.length:=by simp [O6];omega
theorem M0 {β:Type _} {cs us:List β} {q:Nat} (h:q + us.length≤cs.length)(j:Nat):(O6 cs q us)[j]? =if j < q then cs[j]? else if j < q + us.length then us[j - q]? else cs[j]? :=by
 unfold O6
 split
 ·rename_i h1
  rw [List.append_assoc,List.getElem?_append_left (by simp;omega),List.getElem?_take,if_pos h1]
 ·rename_i h1
  split
  ·rename_i h2
   rw [List.getElem?_append_left (by simp;omega),List.getElem?_append_right (by simp;omega)]
   simp only [List.length_take,Nat.min_eq_left (by omega:q≤cs.length)]
  ·rename_i h2
   rw [List.getElem?_append_right (by simp;omega)]
   simp only [List.length_append,List.length_take,Nat.min_eq_left (by omega:q≤cs.length),List.getElem?_drop]
   congr 1
   omega
theorem lM {β:Type _} {cs us:List β} {q n:Nat} (h:q + us.length≤n)(hn:n≤cs.length):(O6 cs q us).take n=O6 (cs.take n) q us:=by
 apply List.ext_getElem?
 intro j
 rw [List.getElem?_take,M0 (by omega),M0 (by simp;omega)]
 simp only [List.getElem?_take]
 split
 ·rfl
 ·rename_i h1
  rw [if_neg (by omega),if_neg (by omega)]
theorem dU {w:World} {e g:Nat} {size n cap:Nat} {cells us:List Value} {q:Nat} (h:w.ownsRow 0 e size (.slice (some ⟨g,0,none⟩) n cap) n cells)(hq:q + us.length≤n * size):
  ∃cur:List Value,w.heap[g]? =some (.cells cur.toArray e (0,0))∧q + us.length≤cur.length∧(w.setRow g (O6 cur q us).toArray).ownsRow 0 e size (.slice (some ⟨g,0,none⟩) n cap) n (O6 cells q us):=by
 obtain⟨h1,h2⟩:=h
 rcases h2 with⟨h2,_⟩ | ⟨g',cap',cur,h2,h3,h4,h5,h6,h7,h8⟩
 ·cases h2
 ·cases h2
  have hc:n * size≤cur.toList.length:=by rw [Array.length_toList,h7];exact Nat.mul_le_mul_right _ h5
  refine⟨cur.toList,by simpa using h4,by omega,by rw [UU (by omega)];exact h1,.inr ⟨g,cap,_,rfl,h3,setRow_heap w g cur _ e _ h4,h5,h6,?_,?_⟩⟩
  ·rw [List.size_toArray,UU (by omega),Array.length_toList,h7]
  ·simp only [List.toList_toArray]
   rw [lM hq hc,h8]
theorem wJ {a e b o sz:Nat} (h:a≠e)(hb:b < sz)(n:Nat)(ho:o + n≤sz):a * sz + b < e * sz + o∨e * sz + o + n≤a * sz + b:=by
 rcases Nat.lt_or_gt_of_ne h with h | h
 ·have:(a + 1) * sz≤e * sz:=Nat.mul_le_mul_right sz h
  rw [Nat.add_mul] at this
  omega
 ·have:(e + 1) * sz≤a * sz:=Nat.mul_le_mul_right sz h
  rw [Nat.add_mul] at this
  omega
section rules
variable {cx:Cx} {s:St} {k:List Item} {R:Ending→World→Prop} {ops:Array Oper} {rest:List Oper} {dst:Option Nat} {ty:TypeId} {pos:String} {aft:Array Edge}
def X3 (i:Nat) (is:List Nat):AC→Bool:=fun a=>a.reads i||is.any fun q=>a.names q
theorem D8 {pn:Option Value} {t et:TypeId} {x y:Operand} {i a sz o n:Nat} {deep:Bool} {α:Type} {enc:α→Nat→T} {xs:List α} {z:α} (z':α) {v:AV} {us:List AC} {is:List Nat} (hs:D0 cx.P t=some n)(hx:s.ev x=some (.c (.poe i a sz o)))(hb:y9 s.ob i=some (.row pn et deep sz enc xs))(hz:xs[a]? =some z)
  (hy:s.ev y=some v) (hv:v.cells=some us) (hn:Nat.beq us.length n=true) (hle:Nat.ble (o + us.length) sz=true) (hm:xM s deep us (enc z') o is) (hii:is.all (fun k=>!Nat.beq k i)=true) (hrest:∀j,j < sz→j < o∨o + us.length≤j→enc z' j=enc z j):
  Os cx s ⟨none,.store t x y,ty,pos,aft,none⟩ ⟨I5 (X3 i is) s.tm,(i,some (.row pn et deep sz enc (xs.set a z')))::T4 is (Y6 (X3 i is) s.ob),s.nx⟩ false:=by
 refine Z3 fun ac w hg=>?_
 obtain⟨E,S,hI,hT,hsz,hdf⟩:=hg
 have hn:us.length=n:=Nat.eq_of_beq_eq_true hn
 have hle:o + us.length≤sz:=by simpa using hle
 have halt:a < xs.length:=(List.getElem?_eq_some_iff.1 hz).1
 obtain⟨hli,g,n',cap,hu,hadr⟩:=J9 hT hx
 obtain⟨_,hrd,hpn,ho⟩:=hI.obs _ _ hb
 have hd:=pZ hv (J9 hT hy)
 have hvl:(ac.eval y).cells.toList.length=us.length:=hd.1
 obtain⟨m1,m2,m3⟩:=hm.den hI hd
 have hown:∃cells,w.ownsRow 0 et sz (E i).u xs.length cells:=by
  cases deep
  ·simp only [Bool.false_eq_true,if_false] at ho
   obtain⟨cells,h1,_⟩:=ho
   exact⟨cells,h1⟩
  ·simp only [if_true] at ho
   obtain⟨cells,G,h1,_⟩:=ho
   exact⟨cells,h1⟩
 obtain⟨cells0,hown0⟩:=hown
 have hnn:n'=xs.length:=by
  obtain⟨A,c,e1,_⟩:=N5 hown0
  rw [hu] at e1
  cases e1
  rfl
 subst hnn
 have hblk:(E i).F g:=by
  cases deep
  ·simp only [Bool.false_eq_true,if_false] at ho
   obtain⟨cells,_,h2,_⟩:=ho
   exact h2 g (by rw [hu];rfl)
  ·simp only [if_true] at ho
   obtain⟨cells,G,_,h2,_⟩:=ho
   exact h2 g (by rw [hu];rfl)
 have hfit:a * sz + o +(ac.eval y).cells.toList.length≤xs.length * sz:=by
  have:(a + 1) * sz≤xs.length * sz:=Nat.mul_le_mul_right sz halt
  rw [Nat.add_mul] at this
  omega
 rw [hu] at hown0
 obtain⟨cur,c1,c2,c3⟩:=dU (us:=(ac.eval y).cells.toList) (q:=a * sz + o) hown0 hfit
 have hr:=KY (P:=cx.P) (t:=t) (o:=a * sz + o) (u:=ac.eval y) (by rw [hs,← hn,← hvl,Array.length_toList]) c1 (by rw [← Array.length_toList];exact c2) hd.ones
 have hput:∀cells,w.ownsRow 0 et sz (E i).u xs.length cells→(w.setRow g (O6 cur (a * sz + o) (ac.eval y).cells.toList).toArray).ownsRow 0 et sz (E i).u xs.length (O6 cells (a * sz + o) (ac.eval y).cells.toList):=fun cells hc=>by
  rw [hu] at hc ⊢
  obtain⟨cur',d1,d2,d3⟩:=dU (us:=(ac.eval y).cells.toList) (q:=a * sz + o) hc hfit
  rw [c1] at d1
  have:cur=cur':=by
   have e:=Option.some.inj d1
   injection e with e
   simpa using congrArg Array.toList e
  subst this
  exact d3
 have hw:∀q,q < w.heap.size→¬(E i).F q→(w.setRow g (O6 cur (a * sz + o) (ac.eval y).cells.toList).toArray).heap[q]? =w.heap[q]? :=fun q _ hf=>setRow_other w g q _ (by rintro rfl;exact hf hblk)
 let F1:Nat→Prop:=fun k=>(E i).F k∨∃q∈is,(E q).F k
 have hsl:(xs.set a z').length=xs.length:=List.length_set
 have hgo:∀(cells:List Value) (b c:Nat),w.ownsRow 0 et sz (E i).u xs.length cells→b < xs.length→c < sz→(b≠a∨c < o∨o + us.length≤c)→(O6 cells (a * sz + o) (ac.eval y).cells.toList)[b * sz + c]? =cells[b * sz + c]? :=fun cells b c hc hb hcs hne=>by
  rw [M0 (by rw [hc.1];exact hfit)]
  by_cases e:b=a
  ·subst e
   rcases hne with hne | hne | hne
   ·exact absurd rfl hne
   ·rw [if_pos (by omega)]
   ·rw [if_neg (by omega),if_neg (by omega)]
  ·rcases wJ e hcs us.length hle with h1 | h1
   ·rw [if_pos h1]
   ·rw [if_neg (by omega),if_neg (by omega)]
 have hgn:∀(cells:List Value) (c:Nat),w.ownsRow 0 et sz (E i).u xs.length cells→o≤c→c < o + us.length→(O6 cells (a * sz + o) (ac.eval y).cells.toList)[a * sz + c]? =(ac.eval y).cells.toList[c - o]? :=fun cells c hc h1 h2=>by
  rw [M0 (by rw [hc.1];exact hfit),if_neg (by omega),if_pos (by omega)]
  congr 1
  omega
 have hset:∀(b:Nat) (x':α),(xs.set a z')[b]? =some x'→(b=a∧x'=z')∨(b≠a∧xs[b]? =some x'):=fun b x' hx'=>by
  rw [List.getElem?_set] at hx'
  by_cases e:a=b
  ·subst e
   rw [if_pos rfl,if_pos halt] at hx'
   exact .inl ⟨rfl,(Option.some.inj hx').symm⟩
  ·rw [if_neg e] at hx'
   exact .inr ⟨fun q=>e q.symm,hx'⟩
 have hobj:x6 (o6 E i is ⟨(E i).u,F1,True,True⟩) S (w.setRow g (O6 cur (a * sz + o) (ac.eval y).cells.toList).toArray) i (.row pn et deep sz enc (xs.set a z')):=by
  refine⟨by rw [Q9];trivial,by rw [Q9];exact hpn,?_⟩
  rw [Q9]
  have hS:∀k,S k→(w.setRow g (O6 cur (a * sz + o) (ac.eval y).cells.toList).toArray).heap[k]? =w.heap[k]? :=fun k hk=>hw k (hI.slt k hk) fun hf=>(hI.fp i hli k hf).2.1 hk
  cases deep
  ·simp only [Bool.false_eq_true,if_false] at ho ⊢
   obtain⟨cells,h1,h2,h3⟩:=ho
   refine⟨_,by rw [hsl];exact hput cells h1,fun g' hg'=> .inl (h2 g' hg'),fun b x' hx' c hc=>?_⟩
   rcases hset b x' hx' with⟨rfl,rfl⟩ | ⟨e,hxb⟩
   ·by_cases h4:o≤c∧c < o + us.length
    ·obtain⟨u',e1,e2⟩:=(m2 rfl).2 (c - o) (by omega)
     refine⟨u',by rw [hgn cells c h1 h4.1 h4.2];exact e1,Rd.move (fun _ q=>q) hS _ _ ?_⟩
     rwa [show o +(c - o)=c by omega] at e2
    ·obtain⟨u',e1,e2⟩:=h3 b z hz c hc
     refine⟨u',by rw [hgo cells b c h1 halt hc (.inr (by omega))];exact e1,?_⟩
     rw [hrest c hc (by omega)]
     exact Rd.move (fun _ q=>q) hS _ _ e2
   ·obtain⟨u',e1,e2⟩:=h3 b x' hxb c hc
    exact⟨u',by rw [hgo cells b c h1 (List.getElem?_eq_some_iff.1 hxb).1 hc (.inl e)];exact e1,Rd.move (fun _ q=>q) hS _ _ e2⟩
  ·simp only [if_true] at ho ⊢
   obtain⟨cells,G,h1,h2,h3,h4,h5⟩:=ho
   obtain⟨Gz,g1,g2,g3⟩:=m3 rfl
   have hGzi:∀b k,Gz b k→¬(E i).F k∧k < w.heap.size:=fun b k hk=>by
    obtain⟨q,hq,hf⟩:=g1 b k hk
    exact⟨fun hi'=>hI.dis q i (fun e=>by have:=(List.all_eq_true.1 hii) q hq;subst e;simp at this) (m1 q hq) hli k hf hi',(hI.fp q (m1 q hq) k hf).1⟩
   have hub:(E i).u.ownBlock=some g:=by rw [hu];rfl
   have hkG:∀b c k,G b c k→(w.setRow g (O6 cur (a * sz + o) (ac.eval y).cells.toList).toArray).heap[k]? =w.heap[k]? :=fun b c k hk=>setRow_other w g k _ (by rintro rfl;exact(h3 b c k hk).2 hub)
   have hkZ:∀c k,Gz c k→(w.setRow g (O6 cur (a * sz + o) (ac.eval y).cells.toList).toArray).heap[k]? =w.heap[k]? :=fun c k hk=>hw k (hGzi c k hk).2 (hGzi c k hk).1
   refine⟨_,fun b c k=>if b=a∧o≤c∧c < o + us.length then Gz (c - o) k else G b c k,by rw [hsl];exact hput cells h1,fun g' hg'=> .inl (h2 g' hg'),fun b c k hk=>?_,fun b c b' c' k hk hk'=>?_,fun b x' hx' c hc=>?_⟩
   ·dsimp only at hk
    split at hk
    ·obtain⟨q,hq,hf⟩:=g1 _ k hk
     exact⟨.inr ⟨q,hq,hf⟩,fun e=>(hGzi _ k hk).1 (h2 k e)⟩
    ·exact⟨.inl (h3 b c k hk).1,(h3 b c k hk).2⟩
   ·dsimp only at hk hk'
    split at hk <;> split at hk'
    ·rename_i q1 q2
     have:=g2 _ _ k hk hk'
     exact⟨q1.1.trans q2.1.symm,by omega⟩
    ·exact((hGzi _ k hk).1 (h3 b' c' k hk').1).elim
    ·exact((hGzi _ k hk').1 (h3 b c k hk).1).elim
    ·exact h4 b c b' c' k hk hk'
   ·rcases hset b x' hx' with⟨rfl,rfl⟩ | ⟨e,hxb⟩
    ·by_cases h6:o≤c∧c < o + us.length
     ·obtain⟨u',e1,e2⟩:=g3 (c - o) (by omega)
      rw [show o +(c - o)=c by omega] at e2
      refine⟨u',by rw [hgn cells c h1 h6.1 h6.2];exact e1,Ow.move (F:=Gz (c - o)) _ _ (fun k hk=>by dsimp only;rw [if_pos ⟨rfl,h6⟩];exact hk) (fun k hk=>hkZ _ k hk) e2⟩
     ·obtain⟨u',e1,e2⟩:=h5 b z hz c hc
      refine⟨u',by rw [hgo cells b c h1 halt hc (.inr (by omega))];exact e1,?_⟩
      rw [hrest c hc (by omega)]
      exact Ow.move (F:=G b c) _ _ (fun k hk=>by dsimp only;rw [if_neg (fun q=>h6 q.2)];exact hk) (fun k hk=>hkG b c k hk) e2
    ·obtain⟨u',e1,e2⟩:=h5 b x' hxb c hc
     exact⟨u',by rw [hgo cells b c h1 (List.getElem?_eq_some_iff.1 hxb).1 hc (.inl e)];exact e1,Ow.move (F:=G b c) _ _ (fun k hk=>by dsimp only;rw [if_neg (fun q=>e q.1)];exact hk) (fun k hk=>hkG b c k hk) e2⟩
 have hW:=hI.write (w':=w.setRow g (O6 cur (a * sz + o) (ac.eval y).cells.toList).toArray) (i:=i) (is:=is) (x:=⟨(E i).u,F1,True,True⟩) (X3 i is) hli m1 trivial (fun a' ha=>by
   simp only [X3,Bool.or_eq_false_iff] at ha
   refine⟨fun q hq=>?_,fun _=>rfl,fun hr _=>by(rw [ha.1] at hr;cases hr)⟩
   have:=List.any_eq_false.1 ha.2 q hq
   simpa using this)
  (fun k hk=>by
   rcases hk with hk | hk
   ·exact .inl hk
   ·exact .inr (.inl hk))
  (by simp) rfl rfl rfl hw hobj
 refine⟨.skip,_,?_,.inr ⟨rfl,o6 E i is ⟨(E i).u,F1,True,True⟩,S,hW.1,O7.cut hW.2 hT,hsz,hdf⟩,fun h=>by(cases h)⟩
 simp only [execOp,hadr]
 rw [Sem.run_bind,hr]
 rfl
theorem Gm.row {a:Act} {w:World} {E:Nat→EE} {S:Nat→Prop} (hI:G6 cx s.ob s.nx E S w)(hT:O7 E S w s.tm a.tmps)(hn:a.tmps.size=cx.n)(hdf:a.defers=[])(hd:Q6 dst cx.n=true)(o:Obj) {u:Value} {et sz:Nat} {deep:Bool} {α:Type} {enc:α→Nat→T} {xs:List α}
  (hu:u.oneCell'=true) (hrow:if deep=true then AP (w.alloc o) et sz enc xs u (· =w.heap.size) else Ro (w.alloc o) S et sz enc xs u (· =w.heap.size)):
  Gm cx ((s.obj s.nx (.row none et deep sz enc xs)).sets dst (some (.c (.own s.nx)))) (a.put dst u) (w.alloc o):=by
 refine⟨c5 E s.nx ⟨u,(· =w.heap.size),True,True⟩,S,?_,I8 (s:=s.obj s.nx (.row none et deep sz enc xs)) hd hn (O7.carry (Q2 hI _ _) hT) (fun v' e=>?_),by rw [P8];exact hn,by rw [put_defers];exact hdf⟩
 ·rw [B7,A7]
  exact hI.new o ⟨by rw [W8];trivial,fun v hv=>(by cases hv),by rw [W8];exact hrow⟩
 ·cases e
  exact⟨by rw [W8];trivial,by rw [W8],hu⟩
theorem Gm.nil (i:Nat) {t et sz:Nat} (deep:Bool) {α:Type} (enc:α→Nat→T)(hi:s.nx=i)(ht:y9 s.tm t=some (sc (.slice none 0 0))) {a:Act} {w:World} (hg:Gm cx s a w):
  Gm cx ⟨(t,some (.c (.own i)))::s.tm,(i,some (.row none et deep sz enc []))::s.ob,i + 1⟩ a w:=by
 subst hi
 obtain⟨E,S,hI,hT,hn,hdf⟩:=hg
 have hv:=Z8 (hT t _ ht)
 let E':=c5 E s.nx ⟨.slice none 0 0,fun _=>False,True,True⟩
 have hC:Carry E E' S S w w no:= {
  sub:=fun _ h=>h
  keep:=fun _ _=>rfl
  place:=fun a _ i _ hl=>by
   have:=hI.nxt i hl
   show(c5 E s.nx _ i).live∧(c5 E s.nx _ i).u=_
   rw [A8 (by omega)]
   exact⟨hl,rfl⟩
  reads:=fun a _ i _ hl=>by
   have:=hI.nxt i hl.1
   show((c5 E s.nx _ i).live∧(c5 E s.nx _ i).rd)∧(∀k,_→(c5 E s.nx _ i).F k)∧_
   rw [A8 (by omega)]
   exact⟨hl,fun _ q=>q,fun _ _=>rfl⟩}
 refine⟨E',S,⟨hI.slt,hI.snew,fun j o hj=>?_,fun j j' hij hj hj' k h1 h2=>?_,fun j hj k hk=>?_,fun j hj=>?_,hI.kept⟩,fun t' v hv'=>?_,hn,hdf⟩
 ·rw [D9] at hj
  by_cases e:j=s.nx
  ·subst e
   rw [if_pos rfl] at hj
   cases hj
   refine⟨by show(c5 E s.nx _ s.nx).live;rw [W8];trivial,by show(c5 E s.nx _ s.nx).rd;rw [W8];trivial,fun v hv=>(by cases hv),?_⟩
   show if deep=true then AP w et sz enc [] (c5 E s.nx _ s.nx).u (c5 E s.nx _ s.nx).F else Ro w S et sz enc [] (c5 E s.nx _ s.nx).u (c5 E s.nx _ s.nx).F
   rw [W8]
   cases deep
   ·exact⟨[],World.ownsRow_nil _ _ _ _,fun g h=>by simp [Value.ownBlock] at h,fun i x h=>by simp at h⟩
   ·exact⟨[],fun _ _ _=>False,World.ownsRow_nil _ _ _ _,fun g h=>by simp [Value.ownBlock] at h,fun _ _ _ h=>h.elim,fun _ _ _ _ _ h=>h.elim,fun i x h=>by simp at h⟩
  ·rw [if_neg e] at hj
   obtain⟨h1,h2⟩:=hI.obs j o hj
   refine⟨by show(c5 E s.nx _ j).live;rw [A8 e];exact h1,?_⟩
   have:=x6.carry hC (i:=j) (by show(c5 E s.nx _ j).u=_;rw [A8 e]) (fun k=>by show(c5 E s.nx _ j).F k↔_;rw [A8 e]) (by show(c5 E s.nx _ j).rd↔_;rw [A8 e]) (fun _ _=>rfl) h2
   rwa [Ob.cut_none] at this
 ·have h1':(c5 E s.nx ⟨.slice none 0 0,fun _=>False,True,True⟩ j).F k:=h1
  have h2':(c5 E s.nx ⟨.slice none 0 0,fun _=>False,True,True⟩ j').F k:=h2
  have hj1:(c5 E s.nx ⟨.slice none 0 0,fun _=>False,True,True⟩ j).live:=hj
  have hj2:(c5 E s.nx ⟨.slice none 0 0,fun _=>False,True,True⟩ j').live:=hj'
  by_cases e1:j=s.nx
  ·subst e1;rw [W8] at h1';exact h1'
  ·by_cases e2:j'=s.nx
   ·subst e2;rw [W8] at h2';exact h2'
   ·rw [A8 e1] at h1' hj1;rw [A8 e2] at h2' hj2
    exact hI.dis j j' hij hj1 hj2 k h1' h2'
 ·have hk':(c5 E s.nx ⟨.slice none 0 0,fun _=>False,True,True⟩ j).F k:=hk
  have hj1:(c5 E s.nx ⟨.slice none 0 0,fun _=>False,True,True⟩ j).live:=hj
  by_cases e1:j=s.nx
  ·subst e1;rw [W8] at hk';exact hk'.elim
  ·rw [A8 e1] at hk' hj1;exact hI.fp j hj1 k hk'
 ·have hj1:(c5 E s.nx ⟨.slice none 0 0,fun _=>False,True,True⟩ j).live:=hj
  by_cases e1:j=s.nx
  ·show j < s.nx + 1;omega
  ·rw [A8 e1] at hj1
   have:=hI.nxt j hj1
   show j < s.nx + 1
   omega
 ·rw [D9] at hv'
  by_cases e:t'=t
  ·subst e
   rw [if_pos rfl] at hv'
   cases hv'
   exact⟨by show(c5 E s.nx _ s.nx).live;rw [W8];trivial,by show _=(c5 E s.nx _ s.nx).u;rw [W8];exact hv,by rw [hv];rfl⟩
  ·rw [if_neg e] at hv'
   exact O7.carry hC hT t' v hv'
theorem vU (i:Nat) {t et sz:Nat} (deep:Bool) {α:Type} (enc:α→Nat→T)(hi:s.nx=i)(ht:y9 s.tm t=some (sc (.slice none 0 0))) {todo:List Item}
  (h:Wt cx ⟨(t,some (.c (.own i)))::s.tm,(i,some (.row none et deep sz enc []))::s.ob,i + 1⟩ todo R):Wt cx s todo R:=fun a w hg=>h a w (hg.nil i deep enc hi ht)
end rules
end Go.Eng

set_option linter.unusedVariables false
set_option linter.unusedSimpArgs false
namespace Go.Eng
open Go Go.RowKit

section
variable {P:Program} {ops:Array Oper} {Q:Exit→Act→World→Prop} {md:Region.Mode} {X:Nat→Bool}
def YE (P:Program) (ops:Array Oper) (o:Oper) (v:Value) (a:Act) (w:World):Prop:=
 (Region.wanted o (yielded ops a.tmps)=true∧∀w',aX w w'→(execOp a.eval o).run P w'= .ok (.value v) w')∨(Region.wanted o (yielded ops a.tmps)=false∧v=undef)
theorem YE.later {o:Oper} {v:Value} {a:Act} {w w':World} (h:YE P ops o v a w)(hx:aX w w'):YE P ops o v a w':=
 h.imp (fun⟨h1,h2⟩=>⟨h1,fun w'' hw=>h2 w'' (hx.trans hw)⟩) id
theorem YE.of_same {o:Oper} {v:Value} {a a':Act} {w:World} (hy:YE P ops o v a w)(he:execOp a'.eval o=execOp a.eval o)
  (hw:Region.wanted o (yielded ops a'.tmps)=Region.wanted o (yielded ops a.tmps)):YE P ops o v a' w:=by
 unfold YE at *
 rw [he,hw]
 exact hy
theorem YE.wpOp {i:Nat} {o:Oper} {v:Value} {a:Act} {w:World} (hi:ops[i]? =some o)(hy:YE P ops o v a w) {K:Act→World→Prop} (h:K (a.put o.dst v) w):wpOp P ops Q i K a w:=by
 unfold Go.wpOp
 simp only [hi]
 rcases hy with⟨hw,hv⟩ | ⟨hw,rfl⟩
 ·simp only [hw,if_true,Oper.wp,hv w (aX.refl w),Oper.upon];exact .inl h
 ·simp only [hw,Bool.false_eq_true,if_false];exact h
theorem BS {j:Nat} {oi oj:Oper} {v:Value} (hj:ops[j]? =some oj)(hap:oi.apart ops oj=true)
  (hsi:∀cs b,oi.op≠ .select cs b) (hsj:∀cs b,oj.op≠ .select cs b)
  (hQ:∀c a w,Q (.panic c) (a.put oi.dst v) w→Q (.panic c) a w) {K:Act→World→Prop} {a:Act} {w w0:World}
  (hy:YE P ops oi v a w0) (h:wpOp P ops Q j K (a.put oi.dst v) w):
  wpOp P ops Q j (fun a' w'=>YE P ops oi v a' w0∧K (a'.put oi.dst v) w') a w:=by
 obtain⟨h1,h2,h3⟩:=Oper.apart_spec hap
 have keep:∀(a:Act),YE P ops oi v a w0→∀u,YE P ops oi v (a.put oj.dst u) w0:=fun a hy u=>
  hy.of_same (execOp_put oi hsi a oj.dst u h3) (wanted_put oi a oj.dst u h3)
 have keepD:∀d,YE P ops oi v {a with defers:=d::a.defers} w0:=fun d=>hy.of_same rfl rfl
 unfold wpOp at *
 simp only [hj] at *
 rw [wanted_put oj a oi.dst v h1] at h
 split
 ·rename_i hw
  simp only [hw,if_true] at h
  rcases h with h | ⟨hasks,hlets⟩
  case inr=>exact .inr ⟨by unfold Oper.asks at *;rw [execOp_put oj hsj a oi.dst v h1] at hasks;exact hasks,hlets⟩
  refine .inl ?_
  unfold Oper.wp at *
  rw [execOp_put oj hsj a oi.dst v h1] at h
  generalize (execOp a.eval oj).run P w=r at *
  cases r with
  | ok n w'=>
   cases n <;> simp only [Oper.upon] at h ⊢
   case value u=>exact⟨keep a hy u,by rw [← Act.put_comm a v u h2];exact h⟩
   case skip=>exact⟨keep a hy _,by rw [← Act.put_comm a v undef h2];exact h⟩
   case defer d=>
    refine⟨keep _ (keepD d) _,?_⟩
    rw [← Act.put_comm _ v undef h2,← Act.put_defers]
    exact h
   case enter f args=>
    refine Calls.mono h fun e w'' he=>?_
    cases e with
    | returned u=>exact⟨keep a hy u,by rw [← Act.put_comm a v u h2];exact he⟩
    | panicked c=>exact hQ _ _ _ he
    | outgrown=>exact he
   case row row args=>exact Rows.mono h fun u w'' he=>⟨keep a hy u,by rw [← Act.put_comm a v u h2];exact he⟩
  | halt x w'=>
   cases x <;> simp only [Oper.upon] at h ⊢
   case panic u=>exact hQ _ _ _ h
 ·rename_i hw
  simp only [hw] at h
  exact⟨keep a hy _,by rw [← Act.put_comm a v undef h2];exact h⟩
def CY (P:Program) (md:Region.Mode) (ops:Array Oper) (Q:Exit→Act→World→Prop) (X:Nat→Bool):Nat→Array Bool→Act→World→Prop
 | 0,listed,a,w=>Region.ready md ops listed=[]∧Q .normal a w
 | fuel + 1,listed,a,w=>
  (Region.ready md ops listed=[]→Q .normal a w)∧
  ∀i∈Region.ready md ops listed,wpOp P ops Q i (fun a' w'=>(X i=true→aX w w')∧CY P md ops Q X fuel (listed.setIfInBounds i true) a' w') a w
theorem PU:∀(fuel:Nat) (listed:Array Bool) (a:Act) (w:World),CY P md ops Q X fuel listed a w→wpAny P md ops Q fuel listed a w
 | 0,_,_,_,h=>h
 | fuel + 1,_,_,_,h=>⟨h.1,fun i hi=>wpOp_mono (fun a' w' h'=>PU fuel _ a' w' h'.2) (h.2 i hi)⟩
def WI (md:Region.Mode) (ops:Array Oper) (listed:Array Bool) (i:Nat) (ds:List Nat):Prop:=
 ∀d,d∈ds→listed.getD d true=false∧∃od,ops[d]? =some od∧∃e,e∈od.after∧Region.binds md e=true∧(e.on=i∨e.on∈ds)
def pJ (md:Region.Mode) (ops:Array Oper) (listed:Array Bool) (i:Nat):List Nat→List Nat→List Nat
 | [],ds=>ds
 | j::l,ds=>pJ md ops listed i l (cond (!(listed.getD j true)&&match ops[j]? with | some oj=>oj.after.any (fun e=>Region.binds md e&&(Nat.beq e.on i||ds.contains e.on)) | none=>false) (j::ds) ds)
theorem nS {md:Region.Mode} {ops:Array Oper} {listed:Array Bool} {i:Nat}:∀(l ds:List Nat),WI md ops listed i ds→WI md ops listed i (pJ md ops listed i l ds)
 | [],ds,h=>h
 | j::l,ds,h=>by
  unfold pJ
  refine nS l _ ?_
  cases hc:(!(listed.getD j true)&&match ops[j]? with | some oj=>oj.after.any (fun e=>Region.binds md e&&(Nat.beq e.on i||ds.contains e.on)) | none=>false)
  ·exact h
  ·simp only [cond_true]
   simp only [Bool.and_eq_true,Bool.not_eq_true'] at hc
   obtain⟨h1,h2⟩:=hc
   intro d hd
   rcases List.mem_cons.1 hd with rfl | hd
   ·refine⟨h1,?_⟩
    cases ho:ops[d]? with
    | none=>rw [ho] at h2;simp at h2
    | some od=>
     rw [ho] at h2
     simp only [Array.any_eq_true,Bool.and_eq_true,Bool.or_eq_true] at h2
     obtain⟨q,hq,h3,h4⟩:=h2
     refine⟨od,rfl,od.after[q],Array.getElem_mem hq,h3,?_⟩
     rcases h4 with h4 | h4
     ·exact .inl (Nat.eq_of_beq_eq_true h4)
     ·exact .inr (List.mem_cons_of_mem _ (by simpa using h4))
   ·obtain⟨h3,od,h4,e,h5,h6,h7⟩:=h d hd
    exact⟨h3,od,h4,e,h5,h6,h7.imp id (List.mem_cons_of_mem _)⟩
theorem K2 {listed:Array Bool} {md:Region.Mode} {i:Nat} {oj:Oper} {e:Edge} (h0:listed.getD i true=false)(hall:∀e,e∈oj.after→Region.binds md e=true→listed.getD e.on false=true)(he:e∈oj.after)(hb:Region.binds md e=true)(heq:e.on=i):False:=by
 have h1:=hall e he hb
 rw [heq] at h1
 rcases Nat.lt_or_ge i listed.size with h' | h'
 ·simp [h'] at h0 h1;rw [h0] at h1;cases h1
 ·simp [Array.getElem?_eq_none h'] at h1
theorem M1 {i:Nat} {oi:Oper} {v:Value} {ds:List Nat} (hi:ops[i]? =some oi)(hsel:∀(j:Nat) (o:Oper) cs b,ops[j]? =some o→o.op≠ .select cs b)
  (hQ:∀c a w,Q (.panic c) (a.put oi.dst v) w→Q (.panic c) a w):
  ∀(fuel:Nat) (listed:Array Bool) (a:Act) (w:World),WI md ops listed i ds→
   (∀j oj,ops[j]? =some oj→j≠i→listed.getD j true=false→j ∉ ds→oi.apart ops oj=true∧X j=true)→
   i∈Region.ready md ops listed→YE P ops oi v a w→
   CY P md ops Q X fuel (listed.setIfInBounds i true) (a.put oi.dst v) w→CY P md ops Q X (fuel + 1) listed a w:=by
 intro fuel
 induction fuel with
 | zero=>
  intro listed a w _ _ hr hy H
  refine⟨fun h=>(by rw [h] at hr;cases hr),fun j hj=>?_⟩
  by_cases hji:j=i
  ·subst hji;exact hy.wpOp hi ⟨fun _=>aX.refl _,H⟩
  ·have:=ready_mono hj hji
   rw [H.1] at this
   cases this
 | succ fuel ih=>
  intro listed a w hkin hfree hr hy H
  refine⟨fun h=>(by rw [h] at hr;cases hr),fun j hj=>?_⟩
  by_cases hji:j=i
  ·subst hji;exact hy.wpOp hi ⟨fun _=>aX.refl _,H⟩
  ·have h1:=H.2 j (ready_mono hj hji)
   obtain⟨hjun,oj,hoj,hall⟩:=mem_ready.1 hj
   have hnd:j ∉ ds:=fun hjd=>by
    obtain⟨_,od,g1,e,g2,g3,g4⟩:=hkin j hjd
    rw [hoj] at g1
    cases g1
    rcases g4 with g4 | g4
    ·exact K2 (mem_ready.1 hr).1 hall g2 g3 g4
    ·exact K2 (hkin _ g4).1 hall g2 g3 rfl
   obtain⟨hap,hXj⟩:=hfree j oj hoj hji hjun hnd
   have h2:=BS hoj hap (fun cs b=>hsel i oi cs b hi) (fun cs b=>hsel j oj cs b hoj) hQ hy h1
   have hun':∀k,(listed.setIfInBounds j true).getD k true=false→listed.getD k true=false:=fun k hun=>by
    by_cases hjk:j=k
    ·subst hjk;exact hjun
    ·rwa [getD_set_ne true hjk] at hun
   have hkin':WI md ops (listed.setIfInBounds j true) i ds:=fun d hd=>by
    obtain⟨g0,g1⟩:=hkin d hd
    refine⟨?_,g1⟩
    rw [getD_set_ne true (by rintro rfl;exact hnd hd)]
    exact g0
   refine wpOp_mono (fun a' w' h3=>⟨h3.2.1,ih (listed.setIfInBounds j true) a' w' hkin' (fun k ok hk hki hun hno=>hfree k ok hk hki (hun' k hun) hno) (ready_mono hr (Ne.symm hji)) (h3.1.later (h3.2.1 hXj)) ?_⟩) h2
   rw [Array.setIfInBounds_comm _ _ hji]
   exact h3.2.2
def SH (md:Region.Mode) (ops:Array Oper) (listed:Array Bool) (i:Nat):List Nat:=pJ md ops listed i (List.range ops.size) []
theorem rY {md:Region.Mode} {ops:Array Oper} {listed:Array Bool} {i:Nat}:WI md ops listed i (SH md ops listed i):=nS _ _ fun d hd=>by simp at hd
def CX (md:Region.Mode) (ops:Array Oper) (X:Nat→Bool) (listed:Array Bool) (i:Nat):Bool:=
 match ops[i]? with
 | none=>false
 | some oi=>(List.range ops.size).all fun j=>j == i||listed.getD j true||(SH md ops listed i).contains j||match ops[j]? with
   | some oj=>oi.apart ops oj&&X j
   | none=>true
theorem O0 {i:Nat} {oi:Oper} {listed:Array Bool} (hi:ops[i]? =some oi)(h:CX md ops X listed i=true)(j:Nat)(oj:Oper)
  (hj:ops[j]? =some oj) (hne:j≠i) (hun:listed.getD j true=false) (hno:j ∉ SH md ops listed i):
  oi.apart ops oj=true∧X j=true:=by
 simp only [CX,hi,List.all_eq_true,List.mem_range] at h
 have h1:=h j (Array.getElem?_eq_some_iff.1 hj).1
 have hk:(SH md ops listed i).contains j=false:=by
  cases hc:(SH md ops listed i).contains j
  ·rfl
  ·exact absurd (by simpa using hc) hno
 rw [hun,hk,hj] at h1
 simpa [hne] using h1
end

def Wd (cx:Cx) (s:St) (ops:Array Oper) (X:Nat→Bool) (fuel:Nat) (listed:Array Bool) (k:List Item) (R:Ending→World→Prop):Prop:=
 ∀a w,Gm cx s a w→CY cx.P .any ops (fun e a' w'=>e= .normal∧∃s',Gm cx s' a' w'∧Wt cx s' k R) X fuel listed a w
section rules
variable {cx:Cx} {s:St} {k:List Item} {R:Ending→World→Prop} {ops:Array Oper} {X:Nat→Bool} {fuel:Nat} {listed:Array Bool}
theorem Gm.drew {a:Act} {w:World} (h:Gm cx s a w):Gm cx s a {w with drawn:=w.drawn + 1}:=by
 obtain⟨E,S,hI,hT,hn,hdf⟩:=h
 have hC:Carry E E S S w {w with drawn:=w.drawn + 1} no:=⟨fun _ h=>h,fun _ _=>rfl,fun _ _ _ _ h=>⟨h,rfl⟩,fun _ _ _ _ h=>⟨h,fun _ q=>q,fun _ _=>rfl⟩⟩
 refine⟨E,S,⟨hI.slt,hI.snew,fun i o h=>?_,hI.dis,hI.fp,hI.nxt,⟨hI.kept.os,hI.kept.tape,hI.kept.output,hI.kept.size,hI.kept.block⟩⟩,O7.carry hC hT,hn,hdf⟩
 obtain⟨h1,h2⟩:=hI.obs i o h
 refine⟨h1,?_⟩
 have:=x6.carry hC (i:=i) rfl (fun _=>Iff.rfl) Iff.rfl (fun _ _=>rfl) h2
 rwa [Ob.cut_none] at this
theorem aK {id:Nat} {l:List Oper} (X:Nat→Bool)(hm:cx.P.follows .mixedOrders=true)(h:Wd cx s l.toArray X l.toArray.size (Array.replicate l.toArray.size false) k R):Wt cx s (.code (.region id l.toArray true)::k) R:=by
 intro a w hg b cs hf hk
 obtain⟨e,a',w',⟨rfl,s',hg',hW⟩,harr⟩:=wp_region_any (id:=id) hm (PU _ _ _ _ (h a _ hg.drew)) b k cs
 obtain⟨e,w'',fr,hR,hc,hfr,hl⟩:=hW a' w' hg' b cs hf hk
 exact⟨e,w'',fr,hR,Comes.of_steps harr hc,hfr,hl⟩
theorem RH (hr:(Region.ready .any ops listed).isEmpty=true)(h:Wt cx s k R):Wd cx s ops X fuel listed k R:=by
 have hr:Region.ready .any ops listed=[]:=by simpa using hr
 intro a w hg
 cases fuel with
 | zero=>exact⟨hr,rfl,s,hg,h⟩
 | succ fuel=>exact⟨fun _=>⟨rfl,s,hg,h⟩,by rw [hr];simp⟩
theorem QI (i:Nat) {op:Op} {dst:Option Nat} {ty:TypeId} {pos:String} {aft:Array Edge} {v:AV} (hi:ops[i]? =some ⟨dst,op,ty,pos,aft,none⟩)(hd:Q6 dst cx.n=true)(hs:Region.noSelect ops=true)(hr:(Region.ready .any ops listed).contains i=true)(hf:CX .any ops X listed i=true)(hp:Ps cx s op v)
  (h:Wd cx (s.sets dst (some v)) ops X fuel (listed.setIfInBounds i true) k R):Wd cx s ops X (fuel + 1) listed k R:=by
 intro a w hg
 have hg0:=hg
 obtain⟨E,S,hI,hT,hn,hdf⟩:=hg
 obtain⟨u,hu,hv⟩:=hp a w E S hI hT
 refine M1 hi (Region.noSelect_spec hs) (fun c a w h=>by cases h.1) fuel listed a w rY (O0 hi hf) (by simpa using hr) (.inl ⟨rfl,fun w' hx=>hu w' hx _ _ _ _ _⟩) ?_
 refine h _ _ ⟨E,S,?_,I8 hd hn hT (fun v' e=>?_),by rw [P8];exact hn,by rw [put_defers];exact hdf⟩
 ·rw [B7,A7];exact hI
 ·cases e;exact hv
theorem yO (i:Nat) {op:Op} {dst:Option Nat} {ty:TypeId} {pos:String} {aft:Array Edge} {v:AV} {j t:Nat} {b b':Bool} (hi:ops[i]? =some ⟨dst,op,ty,pos,aft,some (j,b)⟩)(hd:Q6 dst cx.n=true)(hs:Region.noSelect ops=true)(hr:(Region.ready .any ops listed).contains i=true)(hf:CX .any ops X listed i=true)(hj:(ops[j]?).bind (·.dst)=some t)(ht:y9 s.tm t=some (.c (.t none (.v (.bool b')))))
  (hp:b'=b→Ps cx s op v)
  (h1:b'=b→Wd cx (s.sets dst (some v)) ops X fuel (listed.setIfInBounds i true) k R) (h2:b'=(!b)→Wd cx (s.sets dst (some (.tup []))) ops X fuel (listed.setIfInBounds i true) k R):Wd cx s ops X (fuel + 1) listed k R:=by
 intro a w hg
 obtain⟨E,S,hI,hT,hn,hdf⟩:=hg
 have hb:=(hT t _ ht).2.1
 have hy:yielded ops a.tmps j=some b':=by
  unfold yielded
  rw [hj]
  have:a.tmps[t]? =some (.bool b'):=by
   rw [Array.getD_eq_getD_getElem?] at hb
   cases h:a.tmps[t]? with
   | none=>rw [h] at hb;simp [undef] at hb
   | some x=>rw [h] at hb;simpa using hb
  simp [this]
 have hw:Region.wanted ⟨dst,op,ty,pos,aft,some (j,b)⟩ (yielded ops a.tmps)=decide (b'=b):=by
  simp only [Region.wanted,hy]
  cases b <;> cases b' <;> rfl
 by_cases e:b'=b
 ·obtain⟨u,hu,hv⟩:=hp e a w E S hI hT
  refine M1 hi (Region.noSelect_spec hs) (fun c a w h=>by cases h.1) fuel listed a w rY (O0 hi hf) (by simpa using hr) (.inl ⟨by rw [hw];simpa using e,fun w' hx=>hu w' hx _ _ _ _ _⟩) ?_
  refine h1 e _ _ ⟨E,S,?_,I8 hd hn hT (fun v' e=>?_),by rw [P8];exact hn,by rw [put_defers];exact hdf⟩
  ·rw [B7,A7];exact hI
  ·cases e;exact hv
 ·refine M1 hi (Region.noSelect_spec hs) (v:=undef) (fun c a w h=>by cases h.1) fuel listed a w rY (O0 hi hf) (by simpa using hr) (.inr ⟨by rw [hw];simpa using e,rfl⟩) ?_
  refine h2 (by cases b <;> cases b' <;> simp_all) _ _ ⟨E,S,?_,I8 hd hn hT (fun v' e=>by cases e;exact tZ),by rw [P8];exact hn,by rw [put_defers];exact hdf⟩
  rw [B7,A7];exact hI
theorem CH (i:Nat) {op:Op} {dst:Option Nat} {ty:TypeId} {pos:String} {aft:Array Edge} {j t:Nat} {b:Bool} (hi:ops[i]? =some ⟨dst,op,ty,pos,aft,some (j,b)⟩)(hd:Q6 dst cx.n=true)(hs:Region.noSelect ops=true)(hr:(Region.ready .any ops listed).contains i=true)(hf:CX .any ops X listed i=true)(hj:(ops[j]?).bind (·.dst)=some t)(ht:y9 s.tm t=some (.tup []))
  (h:Wd cx (s.sets dst (some (.tup []))) ops X fuel (listed.setIfInBounds i true) k R):Wd cx s ops X (fuel + 1) listed k R:=by
 intro a w hg
 obtain⟨E,S,hI,hT,hn,hdf⟩:=hg
 obtain⟨us,hu,hl,_⟩:=hT t _ ht
 have hy:yielded ops a.tmps j=none:=by
  unfold yielded
  rw [hj]
  rw [Array.getD_eq_getD_getElem?] at hu
  cases h:a.tmps[t]? with
  | none=>simp [h]
  | some x=>
   rw [h] at hu
   have hu:x= .tuple us.toArray:=hu
   simp [h,hu]
 have hw:Region.wanted ⟨dst,op,ty,pos,aft,some (j,b)⟩ (yielded ops a.tmps)=false:=by simp [Region.wanted,hy]
 refine M1 hi (Region.noSelect_spec hs) (v:=undef) (fun c a w h=>by cases h.1) fuel listed a w rY (O0 hi hf) (by simpa using hr) (.inr ⟨hw,rfl⟩) ?_
 refine h _ _ ⟨E,S,?_,I8 hd hn hT (fun v' e=>by cases e;exact tZ),by rw [P8];exact hn,by rw [put_defers];exact hdf⟩
 rw [B7,A7];exact hI
theorem FH (i:Nat) {op:Op} {dst:Option Nat} {ty:TypeId} {pos:String} {aft:Array Edge} {s':St} {x:Bool} (hi:ops[i]? =some ⟨dst,op,ty,pos,aft,none⟩)(hr:Region.ready .any ops listed=[i])(hX:(!X i||x)=true)(ho:Os cx s ⟨dst,op,ty,pos,aft,none⟩ s' x)
  (h:Wd cx s' ops X fuel (listed.setIfInBounds i true) k R):Wd cx s ops X (fuel + 1) listed k R:=by
 intro a w hg
 refine⟨fun h0=>(by rw [hr] at h0;cases h0),fun j hj=>?_⟩
 rw [hr] at hj
 have hj:j=i:=by simpa using hj
 subst hj
 unfold wpOp
 rw [hi]
 simp only [Region.wanted,if_true]
 refine .inl (B6 (fun a' w' h'=>⟨fun hx=>h'.2 (by rw [hx] at hX;simpa using hX),h a' w' h'.1⟩) (fun _ _ _ h=>h) (ho _ a w hg))
theorem s6 (i:Nat) {op:Op} {dst:Option Nat} {ty:TypeId} {pos:String} {aft:Array Edge} {s':St} {x:Bool} {j t:Nat} {b b':Bool} (hi:ops[i]? =some ⟨dst,op,ty,pos,aft,some (j,b)⟩)(hd:Q6 dst cx.n=true)(hr:Region.ready .any ops listed=[i])(hX:(!X i||x)=true)(hj:(ops[j]?).bind (·.dst)=some t)(ht:y9 s.tm t=some (.c (.t none (.v (.bool b')))))
  (ho:b'=b→Os cx s ⟨dst,op,ty,pos,aft,none⟩ s' x)
  (h1:b'=b→Wd cx s' ops X fuel (listed.setIfInBounds i true) k R) (h2:b'=(!b)→Wd cx (s.sets dst (some (.tup []))) ops X fuel (listed.setIfInBounds i true) k R):Wd cx s ops X (fuel + 1) listed k R:=by
 intro a w hg
 refine⟨fun h0=>(by rw [hr] at h0;cases h0),fun j' hj'=>?_⟩
 rw [hr] at hj'
 have hj':j'=i:=by simpa using hj'
 subst hj'
 have hg0:=hg
 obtain⟨E,S,hI,hT,hn,hdf⟩:=hg
 have hb:=(hT t _ ht).2.1
 have hy:yielded ops a.tmps j=some b':=by
  unfold yielded
  rw [hj]
  have:a.tmps[t]? =some (.bool b'):=by
   rw [Array.getD_eq_getD_getElem?] at hb
   cases h:a.tmps[t]? with
   | none=>rw [h] at hb;simp [undef] at hb
   | some x=>rw [h] at hb;simpa using hb
  simp [this]
 have hw:Region.wanted ⟨dst,op,ty,pos,aft,some (j,b)⟩ (yielded ops a.tmps)=decide (b'=b):=by
  simp only [Region.wanted,hy]
  cases b <;> cases b' <;> rfl
 unfold wpOp
 rw [hi]
 simp only [hw]
 by_cases e:b'=b
 ·rw [if_pos (by simpa using e)]
  have:=Oper.wp_mono (K':=fun a' w'=>(X j'=true→aX w w')∧CY cx.P Region.Mode.any ops (fun e a' w'=>e=Exit.normal∧∃s',Gm cx s' a' w'∧Wt cx s' k R) X fuel (listed.setIfInBounds j' true) a' w') (fun a' w' h'=>⟨fun hx=>h'.2 (by rw [hx] at hX;simpa using hX),h1 e a' w' h'.1⟩) (ho e (fun e a' w'=>e=Exit.normal∧∃s',Gm cx s' a' w'∧Wt cx s' k R) a w hg0)
  exact .inl this
 ·rw [if_neg (by simpa using e)]
  refine⟨fun _=>aX.refl _,h2 (by cases b <;> cases b' <;> simp_all) _ _ ⟨E,S,?_,I8 hd hn hT (fun v' e=>by cases e;exact tZ),by rw [P8];exact hn,by rw [put_defers];exact hdf⟩⟩
  rw [B7,A7];exact hI
theorem O8 (i j:Nat) {op op':Op} {dst dst':Option Nat} {ty ty':TypeId} {pos pos':String} {aft aft':Array Edge} {s1 s2:St} {x x':Bool} (hi:ops[i]? =some ⟨dst,op,ty,pos,aft,none⟩)(hj:ops[j]? =some ⟨dst',op',ty',pos',aft',none⟩)(hr:Region.ready .any ops listed=[i,j])(hX:(!X i||x)=true)(hX':(!X j||x')=true)(ho:Os cx s ⟨dst,op,ty,pos,aft,none⟩ s1 x)(ho':Os cx s ⟨dst',op',ty',pos',aft',none⟩ s2 x')
  (h:Wd cx s1 ops X fuel (listed.setIfInBounds i true) k R) (h':Wd cx s2 ops X fuel (listed.setIfInBounds j true) k R):Wd cx s ops X (fuel + 1) listed k R:=by
 intro a w hg
 refine⟨fun h0=>(by rw [hr] at h0;cases h0),fun q hq=>?_⟩
 rw [hr] at hq
 rcases (by simpa using hq:q=i∨q=j) with rfl | rfl
 ·unfold wpOp
  rw [hi]
  simp only [Region.wanted,if_true]
  exact .inl (B6 (fun a' w' h''=>⟨fun hx=>h''.2 (by rw [hx] at hX;simpa using hX),h a' w' h''.1⟩) (fun _ _ _ h=>h) (ho _ a w hg))
 ·unfold wpOp
  rw [hj]
  simp only [Region.wanted,if_true]
  exact .inl (B6 (fun a' w' h''=>⟨fun hx=>h''.2 (by rw [hx] at hX';simpa using hX'),h' a' w' h''.1⟩) (fun _ _ _ h=>h) (ho' _ a w hg))
theorem gU (i j l:Nat) {op op' op2:Op} {dst dst' dst2:Option Nat} {ty ty' ty2:TypeId} {pos pos' pos2:String} {aft aft' aft2:Array Edge} {s1 s2 s3:St} {x x' x2:Bool} (hi:ops[i]? =some ⟨dst,op,ty,pos,aft,none⟩)(hj:ops[j]? =some ⟨dst',op',ty',pos',aft',none⟩)(hl:ops[l]? =some ⟨dst2,op2,ty2,pos2,aft2,none⟩)(hr:Region.ready .any ops listed=[i,j,l])(hX:(!X i||x)=true)(hX':(!X j||x')=true)(hX2:(!X l||x2)=true)(ho:Os cx s ⟨dst,op,ty,pos,aft,none⟩ s1 x)(ho':Os cx s ⟨dst',op',ty',pos',aft',none⟩ s2 x')(ho2:Os cx s ⟨dst2,op2,ty2,pos2,aft2,none⟩ s3 x2)
  (h:Wd cx s1 ops X fuel (listed.setIfInBounds i true) k R) (h':Wd cx s2 ops X fuel (listed.setIfInBounds j true) k R) (h2:Wd cx s3 ops X fuel (listed.setIfInBounds l true) k R):Wd cx s ops X (fuel + 1) listed k R:=by
 intro a w hg
 refine⟨fun h0=>(by rw [hr] at h0;cases h0),fun q hq=>?_⟩
 rw [hr] at hq
 rcases (by simpa using hq:q=i∨q=j∨q=l) with rfl | rfl | rfl
 ·unfold wpOp
  rw [hi]
  simp only [Region.wanted,if_true]
  exact .inl (B6 (fun a' w' h''=>⟨fun hx=>h''.2 (by rw [hx] at hX;simpa using hX),h a' w' h''.1⟩) (fun _ _ _ h=>h) (ho _ a w hg))
 ·unfold wpOp
  rw [hj]
  simp only [Region.wanted,if_true]
  exact .inl (B6 (fun a' w' h''=>⟨fun hx=>h''.2 (by rw [hx] at hX';simpa using hX'),h' a' w' h''.1⟩) (fun _ _ _ h=>h) (ho' _ a w hg))
 ·unfold wpOp
  rw [hl]
  simp only [Region.wanted,if_true]
  exact .inl (B6 (fun a' w' h''=>⟨fun hx=>h''.2 (by rw [hx] at hX2;simpa using hX2),h2 a' w' h''.1⟩) (fun _ _ _ h=>h) (ho2 _ a w hg))
end rules
end Go.Eng

set_option linter.unusedVariables false
set_option linter.unusedSimpArgs false
namespace Go.Eng
open Go Go.RowKit

theorem t9 {α:Type} {xs:List α} {n:Int} (h0:0≤n)(h1:n < xs.length):∃z,xs[n.toNat]? =some z∧0≤n:=⟨xs[n.toNat]'(by omega),List.getElem?_eq_getElem (by omega),h0⟩
theorem f8 {α:Type} {xs:List α} {n:Int} {z:α} (h0:0≤n)(h:xs[n.toNat]? =some z):n < xs.length:=by
 have:=(List.getElem?_eq_some_iff.1 h).1
 omega
theorem i6 {k:IntKind} {a b:Int} (h:a=b):some (sc (.int k a))=some (sc (.int k b)):=by rw [h]
theorem E7 {α:Type} {pn:Option Value} {e:Nat} {deep:Bool} {sz:Nat} {enc:α→Nat→T} {a b:List α} (h:a=b):some (Ob.row pn e deep sz enc a)=some (Ob.row pn e deep sz enc b):=by rw [h]
theorem s8 {x:Int} (h1: -9223372036854775808≤x)(h2:x≤9223372036854775807):IntKind.i64.wrap x=x:=by rw [IntKind.wrap_i64];omega
theorem IH {m:Nat} (h:m < 4611686018427387904):IntKind.i64.wrap ((m:Int) + 1)=((m + 1:Nat):Int):=by rw [s8 (by omega) (by omega)];rfl
theorem L9 {cx:Cx} {s:St} {k:List Item} {R:Ending→World→Prop} {ι:Type} {c:Code} (st:ι→St)(I:ι→Prop)(μ:ι→Nat)(x:ι)(hle:Le s (st x))(hx:I x)
  (round:∀x,I x→(∀y,μ y < μ x→I y→Wt cx (st y) (.inLoop c::k) R)→Wt cx (st x) (.code c:: .inLoop c::k) R):Wt cx s (.code (.loop c)::k) R:=n8 hle (xH st I μ round x hx)
theorem oZ {α:Type} {a b:List α} {m:Nat} (h:a.take m=b.take m)(h2:a[m]? =b[m]?):a.take (m + 1)=b.take (m + 1):=by rw [List.take_add_one,List.take_add_one,h,h2]
theorem wL {α:Type} {a b:List α} {n:Nat} {x y:α} (h1:a[n]? =some x)(h2:b[n]? =some y)(h:x≠y):a≠b:=by
 rintro rfl
 rw [h1] at h2
 exact h (Option.some.inj h2)
theorem N7 {a b:Bool} (h:a=b):AV.c (.t none (.v (.bool a)))= .c (.t none (.v (.bool b))):=by rw [h]
theorem rG {p q:Prop} [Decidable p] [Decidable q] (h:p↔q):AV.c (.t none (.v (.bool (decide p))))= .c (.t none (.v (.bool (decide q)))):=N7 (decide_eq_decide.2 h)
theorem YI {q:Prop} [Decidable q] (h:q):AV.c (.t none (.v (.bool true)))= .c (.t none (.v (.bool (decide q)))):=N7 (decide_eq_true h).symm
theorem qX {k:IntKind} {a b:Int} (h:a=b):AV.c (.t none (.v (.int k a)))= .c (.t none (.v (.int k b))):=by rw [h]
theorem VH (x:Int): -9223372036854775808≤IntKind.i64.wrap x:=by rw [IntKind.wrap_i64];omega
theorem OH (x:Int):IntKind.i64.wrap x≤9223372036854775807:=by rw [IntKind.wrap_i64];omega
def f9:Int→Nat→T:=fun n _=> .v (.int .i64 n)
end Go.Eng

set_option linter.unusedVariables false
set_option linter.unusedSimpArgs false
namespace Go.Eng
open Go Go.RowKit

def K7 (E:Nat→EE):Nat→Prop:=fun k=>∃i,(E i).live∧(E i).F k
def Mu (P:Program) (f:FuncId) (args:List AV) (ob:List (Nat × Option Ob)) (n0:Nat) (ob':List (Nat × Option Ob)) (nx:Nat) (res:AV):Prop:=
 ∀(n:Nat) (w:World) (E:Nat→EE) (S:Nat→Prop) (vs:List Value),G6 ⟨P,f,n,w,S,K7 E⟩ ob n0 E S w→F2 E S w args vs→
  Calls P f vs.toArray w fun e w'=>∃u E' S',e= .returned u∧G6 ⟨P,f,n,w,S,K7 E⟩ ob' nx E' S' w'∧M6 E' S' w' res u
def VR (P:Program) (f:FuncId) (n:Nat) (w:World) (S:Nat→Prop) (M:Nat→Prop) (ob:List (Nat × Option Ob)) (nx:Nat) (res:AV):Ending→World→Prop:=
 fun e w'=>∃u E' S',e= .returned u∧G6 ⟨P,f,n,w,S,M⟩ ob nx E' S' w'∧M6 E' S' w' res u
theorem G6.fn {P:Program} {f:FuncId} {n n':Nat} {w0:World} {S0 M:Nat→Prop} {ob:List (Nat × Option Ob)} {nx:Nat} {E:Nat→EE} {S:Nat→Prop} {w:World} (h:G6 ⟨P,f,n,w0,S0,M⟩ ob nx E S w):G6 ⟨P,f,n',w0,S0,M⟩ ob nx E S w:=
 ⟨h.slt,h.snew,h.obs,h.dis,h.fp,h.nxt,h.kept⟩
theorem AY {P:Program} {f:FuncId} {fn:Func} {c:Code} {args:List AV} {ob ob':List (Nat × Option Ob)} {n0 nx:Nat} {res:AV} (hf:P.funcs[f]? =some fn)(hb:fn.body=some c)(ha:args.length≤fn.ntmps)
  (h:∀w S M,Wt ⟨P,f,fn.ntmps,w,S,M⟩ ⟨X0 0 args,ob,n0⟩ [.code c] (VR P f fn.ntmps w S M ob' nx res)):Mu P f args ob n0 ob' nx res:=by
 intro n w E S vs hI hA cs
 let b:Frame:= {(default:Frame) with fn:=f,kind:=.normal}
 have henter:Frame.enter P f vs.toArray .normal=b.at {tmps:=vs.toArray++Array.replicate (fn.ntmps - vs.toArray.size) undef,defers:=[]} [.code c]:=by
  simp [Frame.enter,Frame.at,hf,hb,b]
 have hg:Gm ⟨P,f,fn.ntmps,w,S,K7 E⟩ ⟨X0 0 args,ob,n0⟩ {tmps:=vs.toArray++Array.replicate (fn.ntmps - vs.toArray.size) undef,defers:=[]} w:=by
  refine⟨E,S,hI.fn,fun t v ht=>?_,?_,rfl⟩
  ·rw [show(⟨X0 0 args,ob,n0⟩:St).tm=X0 0 args from rfl,TY] at ht
   simp only [Nat.not_lt_zero,if_false,Nat.sub_zero] at ht
   obtain⟨u,h1,h2⟩:=hA.2 t v ht
   have:(vs.toArray++Array.replicate (fn.ntmps - vs.toArray.size) undef).getD t undef=u:=by
    rw [Array.getD_eq_getD_getElem?,Array.getElem?_append_left (by simpa using (List.getElem?_eq_some_iff.1 h1).1)]
    simp [h1]
   rw [show({tmps:=vs.toArray++Array.replicate (fn.ntmps - vs.toArray.size) undef,defers:=[]}:Act).tmps=vs.toArray++Array.replicate (fn.ntmps - vs.toArray.size) undef from rfl,this]
   exact h2
  ·have:=hA.1
   simp
   omega
 obtain⟨e,w',fr,⟨u,E',S',h1,h2,h3⟩,hc,hfr,hl⟩:=h w S (K7 E) _ w hg b cs rfl rfl
 rw [← henter] at hc
 exact⟨e,w',fr,⟨u,E',S',h1,h2.fn,h3⟩,hc,hfr,hl⟩
theorem QQ {cx:Cx} {ob ob':List (Nat × Option Ob)} {nx nx':Nat} {E:Nat→EE} {S:Nat→Prop} {w:World} {v:AV} {u:Value} {v':AV} (hI:G6 cx ob nx E S w)(hd:M6 E S w v' u)(he:v'=v)(h:JO ob ob')(hlt:eJ nx' ob'=true)(hv:v.all (AC.lt nx')=true):VR cx.P cx.f cx.n cx.w0 cx.S0 cx.M ob' nx' v (.returned u) w:=by
 subst he
 have h1:=hI.low h hlt
 have h2:=(rX nx').v hd
 rw [AV.cut_id (by simpa using hv)] at h2
 exact⟨u,_,_,rfl,h1,h2⟩

inductive nI (s:St) (i:Nat):AC→AC→Prop
 | own:nI s i (.own i) (.own 0)
 | t0 {x:T}:nI s i (.t none x) (.t none x)
inductive bS (s:St) (i:Nat):List AC→List AC→Prop
 | nil:bS s i [] []
 | cons {a b:AC} {al bs:List AC} (h:nI s i a b) (hr:bS s i al bs):bS s i (a::al) (b::bs)
inductive iT (s:St) (i:Nat):List Operand→List AV→Prop
 | nil:iT s i [] []
 | agg {x:Operand} {al cs:List AC} {xs:List Operand} {bs:List AV} (hx:s.ev x=some (.agg al)) (h:bS s i al cs) (hr:iT s i xs bs):iT s i (x::xs) (.agg cs::bs)
 | cons {x:Operand} {a b:AC} {xs:List Operand} {bs:List AV} (hx:s.ev x=some (.c a)) (h:nI s i a b) (hr:iT s i xs bs):iT s i (x::xs) (.c b::bs)
def gY (E:Nat→EE) (i:Nat):Nat→EE:=fun j=>if j=0 then E i else A5
theorem bS.den {s:St} {i:Nat} {al bs:List AC} {E:Nat→EE} {S S':Nat→Prop} {w:World} (h:bS s i al bs)(hS:∀k,S k→S' k) {us:List Value} (hd:r6 E S w al us):r6 (gY E i) S' w bs us:=by
 induction h generalizing us with
 | nil=>exact⟨hd.1,fun j c hj=>by simp at hj⟩
 | cons h hr ih=>
  obtain⟨h1,h2⟩:=hd
  cases us with
  | nil=>simp at h1
  | cons u us=>
   have:=ih (us:=us) ⟨by simpa using h1,fun j c hj=>h2 (j + 1) c hj⟩
   refine⟨by simp [this.1],fun j c hj=>?_⟩
   match j with
   | 0=>
    cases hj
    obtain⟨u',e1,e2⟩:=h2 0 _ rfl
    cases e1
    refine⟨u,rfl,?_⟩
    cases h with
    | own=>exact e2
    | t0=>exact⟨trivial,Rd.move hS (fun _ _=>rfl) _ _ e2.2⟩
   | j + 1=>exact this.2 j c hj
theorem iT.den {s:St} {i:Nat} {xs:List Operand} {bs:List AV} {a:Act} {E:Nat→EE} {S S':Nat→Prop} {w:World} (h:iT s i xs bs)(hS:∀k,S k→S' k)(hT:O7 E S w s.tm a.tmps):F2 (gY E i) S' w bs (xs.map a.eval):=by
 induction h with
 | nil=>exact⟨rfl,fun j v hj=>by simp at hj⟩
 | agg hx h hr ih=>
  refine⟨by simp [ih.1],fun j v hj=>?_⟩
  match j with
  | 0=>
   cases hj
   obtain⟨us,h1,h2⟩:=J9 hT hx
   exact⟨_,rfl,us,h1,h.den hS h2⟩
  | j + 1=>exact ih.2 j v hj
 | cons hx h hr ih=>
  refine⟨by simp [ih.1],fun j v hj=>?_⟩
  match j with
  | 0=>
   cases hj
   refine⟨_,rfl,?_⟩
   have hd:=J9 hT hx
   cases h with
   | own=>exact hd
   | t0=>exact⟨trivial,Rd.move hS (fun _ _=>rfl) _ _ hd.2⟩
  | j + 1=>exact ih.2 j v hj
def AC.plain:AC→Bool
 | .t none (.v _)=>true
 | .top=>true
 | _=>false
theorem XS {E E':Nat→EE} {S S':Nat→Prop} {w w':World} {a:AC} {u:Value} (hn:a.plain=true)(hd:S6 E S w a u):S6 E' S' w' a u:=by
 cases a with
 | top=>exact hd
 | t r x=>
  cases r with
  | none=>
   cases x with
   | v x=>exact hd
   | sl=>simp [AC.plain] at hn
   | ab=>simp [AC.plain] at hn
  | some i=>simp [AC.plain] at hn
 | _=>simp [AC.plain] at hn
section rules
variable {cx:Cx} {s:St} {dst:Option Nat} {ty:TypeId} {pos:String} {aft:Array Edge}
end rules
end Go.Eng

set_option linter.unusedVariables false
set_option linter.unusedSimpArgs false
namespace Go.Eng
open Go Go.RowKit

theorem G6.nilrow {cx:Cx} {ob:List (Nat × Option Ob)} {nx:Nat} {E:Nat→EE} {S:Nat→Prop} {w:World} (hI:G6 cx ob nx E S w)(et sz:Nat)(deep:Bool) {α:Type} (enc:α→Nat→T):
  G6 cx ((nx,some (.row none et deep sz enc []))::ob) (nx + 1) (c5 E nx ⟨.slice none 0 0,fun _=>False,True,True⟩) S w∧Carry E (c5 E nx ⟨.slice none 0 0,fun _=>False,True,True⟩) S S w w no:=by
 have hC:Carry E (c5 E nx ⟨.slice none 0 0,fun _=>False,True,True⟩) S S w w no:= {
  sub:=fun _ h=>h
  keep:=fun _ _=>rfl
  place:=fun a _ i _ hl=>by
   have:=hI.nxt i hl
   rw [A8 (by omega)]
   exact⟨hl,rfl⟩
  reads:=fun a _ i _ hl=>by
   have:=hI.nxt i hl.1
   rw [A8 (by omega)]
   exact⟨hl,fun _ q=>q,fun _ _=>rfl⟩}
 refine⟨⟨hI.slt,hI.snew,fun j o hj=>?_,fun j j' hij hj hj' k h1 h2=>?_,fun j hj k hk=>?_,fun j hj=>?_,hI.kept⟩,hC⟩
 ·rw [D9] at hj
  by_cases e:j=nx
  ·subst e
   rw [if_pos rfl] at hj
   cases hj
   refine⟨by rw [W8];trivial,by rw [W8];trivial,fun v hv=>(by cases hv),?_⟩
   rw [W8]
   cases deep
   ·exact⟨[],World.ownsRow_nil _ _ _ _,fun g h=>by simp [Value.ownBlock] at h,fun i x h=>by simp at h⟩
   ·exact⟨[],fun _ _ _=>False,World.ownsRow_nil _ _ _ _,fun g h=>by simp [Value.ownBlock] at h,fun _ _ _ h=>h.elim,fun _ _ _ _ _ h=>h.elim,fun i x h=>by simp at h⟩
  ·rw [if_neg e] at hj
   obtain⟨h1,h2⟩:=hI.obs j o hj
   refine⟨by rw [A8 e];exact h1,?_⟩
   have:=x6.carry hC (i:=j) (by rw [A8 e]) (fun k=>by rw [A8 e]) (by rw [A8 e]) (fun _ _=>rfl) h2
   rwa [Ob.cut_none] at this
 ·by_cases e1:j=nx
  ·subst e1;rw [W8] at h1;exact h1
  ·by_cases e2:j'=nx
   ·subst e2;rw [W8] at h2;exact h2
   ·rw [A8 e1] at h1 hj;rw [A8 e2] at h2 hj'
    exact hI.dis j j' hij hj hj' k h1 h2
 ·by_cases e1:j=nx
  ·subst e1;rw [W8] at hk;exact hk.elim
  ·rw [A8 e1] at hk hj;exact hI.fp j hj k hk
 ·by_cases e1:j=nx
  ·omega
  ·rw [A8 e1] at hj
   have:=hI.nxt j hj
   omega
theorem Gm.nilb {cx:Cx} {s:St} (i:Nat) {b o et sz:Nat} {cells:List AC} (deep:Bool) {α:Type} (enc:α→Nat→T)(hi:s.nx=i)(hb:y9 s.ob b=some (.box cells))(hc:cells[o]? =some (.t none (.v (.slice none 0 0)))) {a:Act} {w:World} (hg:Gm cx s a w):
  Gm cx ⟨s.tm,(b,some (.box (O6 cells o [.own i])))::(i,some (.row none et deep sz enc []))::s.ob,i + 1⟩ a w:=by
 subst hi
 obtain⟨E,S,hI,hT,hn,hdf⟩:=hg
 obtain⟨hI',hC⟩:=hI.nilrow et sz deep enc
 refine⟨_,S,⟨hI'.slt,hI'.snew,fun j ob' hj=>?_,hI'.dis,hI'.fp,hI'.nxt,hI'.kept⟩,O7.carry hC hT,hn,hdf⟩
 rw [D9] at hj
 split at hj
 ·rename_i e
  subst e
  cases hj
  obtain⟨hlb,hrd,g,e,cs,h3,hF,h4,h5⟩:=hI.obs _ _ hb
  have hne:j≠s.nx:=by have:=hI.nxt j hlb;omega
  obtain⟨h6,h7⟩:=hI'.obs j (.box cells) (by rw [D9,if_neg hne];exact hb)
  obtain⟨hrd',g',e',cs',q3,qF,q4,q5⟩:=h7
  refine⟨h6,hrd',g',e',cs',q3,qF,q4,?_⟩
  obtain⟨u,u1,u2⟩:=q5.2 o _ hc
  have hu:u= .slice none 0 0:=u2.2.1
  have ho:=(List.getElem?_eq_some_iff.1 hc).1
  refine⟨by rw [q5.1,UU (by simp;omega)],fun q c hq=>?_⟩
  rw [M0 (by simp;omega)] at hq
  split at hq
  ·exact q5.2 q c hq
  ·split at hq
   ·rename_i r1 r2
    have r2:q < o + 1:=by simpa using r2
    have hqo:q=o:=by omega
    subst hqo
    rw [Nat.sub_self] at hq
    cases hq
    refine⟨u,u1,by rw [W8];trivial,by rw [W8];exact hu,by rw [hu];rfl⟩
   ·exact q5.2 q c hq
 ·exact hI'.obs j ob' hj
theorem I6 {cx:Cx} {s:St} (i:Nat) {b o et sz:Nat} {cells:List AC} (deep:Bool) {α:Type} (enc:α→Nat→T)(hi:s.nx=i)(hb:y9 s.ob b=some (.box cells))(hc:cells[o]? =some (.t none (.v (.slice none 0 0)))) {todo:List Item} {R:Ending→World→Prop}
  (h:Wt cx ⟨s.tm,(b,some (.box (O6 cells o [.own i])))::(i,some (.row none et deep sz enc []))::s.ob,i + 1⟩ todo R):Wt cx s todo R:=fun a w hg=>h a w (hg.nilb i deep enc hi hb hc)
end Go.Eng
