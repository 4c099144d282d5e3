import Derived.Test.YtiikejgonbnimaaGreatEngD
import Derived.Laws.Small
set_option linter.unusedVariables false
set_option linter.unusedSimpArgs false
namespace Go.Eng
open Go Go.RowKit
section rules
variable {cx:Cx} {s:St} {k:List Item} {R:Ending→World→Prop} {dst:Option Nat} {ty:TypeId} {pos:String} {aft:Array Edge}
theorem YY {i e0:Nat} {pn:Option Value} {deep:Bool} {α:Type} {sz:Nat} {enc:α→Nat→T} {xs:List α} {E:Nat→EE} {S:Nat→Prop} {w:World} (hI:G6 cx s.ob s.nx E S w)(hb:y9 s.ob i=some (.row pn e0 deep sz enc xs))(hne:0 < xs.length):
  (E i).live∧∃g cap,(E i).u= .slice (some ⟨g,0,none⟩) xs.length cap∧xs.length≤cap:=by
 obtain⟨hl,hb⟩:=hI.obs _ _ hb
 obtain⟨A',cap',h3,h4,h5,_⟩:=s0 hl hb
 obtain⟨g,rfl⟩:=h5 (by rintro rfl;simp at hne)
 exact⟨hl,g,cap',h3,h4⟩
theorem IJ {t:TypeId} {x y:Operand} {kk:IntKind} {n:Int} {i e0:Nat} {pn:Option Value} {deep:Bool} {α:Type} {sz:Nat} {enc:α→Nat→T} {xs:List α} (hs:Q5 cx.P t=some sz)(hx:s.ev x=some (.c (.own i)))(hb:y9 s.ob i=some (.row pn e0 deep sz enc xs))(hy:s.ev y=some (sc (.int kk n)))(h0:0≤n)(h1:n < xs.length):
  Ps cx s (.slice t x (some y) none none) (.c (.vw i n.toNat (xs.length - n.toNat) sz)):=
 fun A w E S hI hT=>by
  obtain⟨hl,g,cap,hu,hc⟩:=YY hI hb (by omega)
  obtain⟨_,hux,_⟩:=J9 hT hx
  have hrun:=fun w'=>((Bd.l (k:=kk) h0 (by omega) hc:Bd (some (.int kk n)) none none xs.length cap n.toNat xs.length cap).run hs (some ⟨g,0,none⟩) w').1
  refine⟨_,fun w' hW _ _ _ _ _=>?_,hl,g,_,cap,cap - n.toNat,hu,rfl,by omega⟩
  simp only [execOp,hux,hu,Option.map_some,Option.map_none,Z8 (J9 hT hy)]
  rw [Sem.run_bind,hrun w']
  have:¬cap=n.toNat:=by omega
  simp only [sliced,this,if_false,Option.map_some,U6,Nat.zero_add]
  rfl
theorem iU {t:TypeId} {x y:Operand} {kk:IntKind} {n:Int} {i e0:Nat} {pn:Option Value} {deep:Bool} {α:Type} {sz:Nat} {enc:α→Nat→T} {xs:List α} (hd:Q6 dst cx.n=true)(hs:Q5 cx.P t=some sz)(hx:s.ev x=some (.c (.own i)))(hb:y9 s.ob i=some (.row pn e0 deep sz enc xs))(hy:s.ev y=some (sc (.int kk n)))(h0:0≤n)(h1:n < xs.length):
  Os cx s ⟨dst,.slice t x (some y) none none,ty,pos,aft,none⟩ (s.sets dst (some (.c (.vw i n.toNat (xs.length - n.toNat) sz)))) true:=C8 hd (IJ hs hx hb hy h0 h1)
theorem RJ {t:TypeId} {x y:Operand} {kk:IntKind} {n:Int} {i e0:Nat} {pn:Option Value} {deep:Bool} {α:Type} {sz:Nat} {enc:α→Nat→T} {xs:List α} (hs:Q5 cx.P t=some sz)(hx:s.ev x=some (.c (.own i)))(hb:y9 s.ob i=some (.row pn e0 deep sz enc xs))(hy:s.ev y=some (sc (.int kk n)))(h0:0≤n)(h1:n≤xs.length)(hne:0 < xs.length):
  Ps cx s (.slice t x none (some y) none) (.c (.vw i 0 n.toNat sz)):=
 fun A w E S hI hT=>by
  obtain⟨hl,g,cap,hu,hc⟩:=YY hI hb hne
  obtain⟨_,hux,_⟩:=J9 hT hx
  have hrun:=fun w'=>((Bd.h (k:=kk) h0 h1 hc:Bd none (some (.int kk n)) none xs.length cap 0 n.toNat cap).run hs (some ⟨g,0,none⟩) w').1
  refine⟨_,fun w' hW _ _ _ _ _=>?_,hl,g,_,cap,cap,hu,rfl,by omega⟩
  simp only [execOp,hux,hu,Option.map_some,Option.map_none,Z8 (J9 hT hy)]
  rw [Sem.run_bind,hrun w']
  have:¬cap=0:=by omega
  simp only [sliced,this,if_false,Option.map_some,U6,Nat.zero_add,Nat.zero_mul,Nat.sub_zero]
  rfl
theorem rO {t:TypeId} {x y:Operand} {kk:IntKind} {n:Int} {i e0:Nat} {pn:Option Value} {deep:Bool} {α:Type} {sz:Nat} {enc:α→Nat→T} {xs:List α} (hd:Q6 dst cx.n=true)(hs:Q5 cx.P t=some sz)(hx:s.ev x=some (.c (.own i)))(hb:y9 s.ob i=some (.row pn e0 deep sz enc xs))(hy:s.ev y=some (sc (.int kk n)))(h0:0≤n)(h1:n≤xs.length)(hne:0 < xs.length):
  Os cx s ⟨dst,.slice t x none (some y) none,ty,pos,aft,none⟩ (s.sets dst (some (.c (.vw i 0 n.toNat sz)))) true:=C8 hd (RJ hs hx hb hy h0 h1 hne)
theorem DY {t:TypeId} {x y:Operand} {i off n sz:Nat} {kk:IntKind} {q:Int} (hs:Q5 cx.P t=some sz)(hx:s.ev x=some (.c (.vw i off n sz)))(hy:s.ev y=some (sc (.int kk q)))(h0:0≤q)(h1:q < n):
  Ps cx s (.indexAddr t x y) (.c (.poe i (off + q.toNat) sz 0)):=
 fun A w E S hI hT=>by
  obtain⟨hl,g,m,cap,cap',hu,hux,_⟩:=J9 hT hx
  refine⟨_,fun w' hW _ _ _ _ _=>?_,hl,g,m,cap,hu,rfl⟩
  simp only [execOp,hux,Z8 (J9 hT hy)]
  rw [Sem.run_bind,qY hs w' _ n cap' kk q h0 h1]
  simp only [U6,Nat.add_mul]
  rfl
theorem eQ {t:TypeId} {x y:Operand} {i off n sz:Nat} {kk:IntKind} {q:Int} (hd:Q6 dst cx.n=true)(hs:Q5 cx.P t=some sz)(hx:s.ev x=some (.c (.vw i off n sz)))(hy:s.ev y=some (sc (.int kk q)))(h0:0≤q)(h1:q < n):
  Os cx s ⟨dst,.indexAddr t x y,ty,pos,aft,none⟩ (s.sets dst (some (.c (.poe i (off + q.toNat) sz 0)))) true:=C8 hd (DY hs hx hy h0 h1)
theorem AH {t:TypeId} {x:Operand} {i off n sz:Nat} (ht:MT cx.P t=true)(hx:s.ev x=some (.c (.vw i off n sz))):
  Ps cx s (.call {callee:=.builtin .len,args:=#[x],argTypes:=#[t]}) ((sc (.int .i64 n))):=
 fun A w E S hI hT=>by
  obtain⟨_,g,m,cap,cap',_,hux,_⟩:=J9 hT hx
  exact⟨_,fun w' hW _ _ _ _ _=>yU ht hux w',D2 rfl⟩
theorem XK {t:TypeId} {x:Operand} {i off n sz:Nat} (hd:Q6 dst cx.n=true)(ht:MT cx.P t=true)(hx:s.ev x=some (.c (.vw i off n sz))):
  Os cx s ⟨dst,.call {callee:=.builtin .len,args:=#[x],argTypes:=#[t]},ty,pos,aft,none⟩ (s.sets dst (some (sc (.int .i64 n)))) true:=C8 hd (AH ht hx)
theorem yT {w:World} {e:TypeId} {size m n g cap:Nat} {xs:List Value} (h:w.ownsRow 0 e size (.slice (some ⟨g,0,none⟩) m cap) m xs)(hn:n≤m):w.ownsRow 0 e size (.slice (some ⟨g,0,none⟩) n cap) n (xs.take (n * size)):=by
 obtain⟨h1,h2⟩:=h
 have hle:n * size≤m * size:=Nat.mul_le_mul_right _ hn
 refine⟨by rw [List.length_take,h1];omega,?_⟩
 rcases h2 with⟨h2,_⟩ | ⟨g',cap',cur,h2,h3,h4,h5,h6,h7,h8⟩
 ·cases h2
 ·cases h2
  refine .inr ⟨g,cap,cur,rfl,h3,h4,by omega,h6,h7,?_⟩
  rw [← h8,List.take_take,Nat.min_eq_left hle]
theorem zN (t i:Nat) {n sz e:Nat} {pn:Option Value} {α:Type} {enc:α→Nat→T} {xs:List α} {todo:List Item} (ht:y9 s.tm t=some (.c (.vw i 0 n sz)))(hb:y9 s.ob i=some (.row pn e true sz enc xs))(hn:n≤xs.length)(hne:0 < xs.length)
  (h:Wt cx ⟨(t,some (.c (.own i)))::I5 (c7 i []) s.tm,(i,some (.row none e true sz enc (xs.take n)))::T4 [] (Y6 (c7 i []) s.ob),s.nx⟩ todo R):Wt cx s todo R:=by
 intro a w hg
 refine h a w ?_
 obtain⟨E,S,hI,hT,hsz,hdf⟩:=hg
 obtain⟨hl,g,cap,hu,hc⟩:=YY hI hb hne
 obtain⟨_,hrd,_,ho⟩:=hI.obs _ _ hb
 simp only [if_true] at ho
 obtain⟨cells,G,h1,h2,h3,h4,h5⟩:=ho
 obtain⟨_,g',m,cp,cp',e1,e2,e3⟩:=hT t _ ht
 rw [hu] at e1
 cases e1
 obtain rfl:cp'=cap:=by omega
 rw [Nat.zero_mul] at e2
 have hobj:x6 (o6 E i [] ⟨.slice (some ⟨g,0,none⟩) n cp',(E i).F,True,True⟩) S w i (.row none e true sz enc (xs.take n)):=by
  refine⟨by rw [Q9];trivial,fun v hv=>(by cases hv),?_⟩
  rw [Q9]
  simp only [if_true]
  rw [hu] at h1
  have hlen:(xs.take n).length=n:=by rw [List.length_take];omega
  refine⟨cells.take (n * sz),G,by rw [hlen];exact yT h1 hn,fun g' hg'=>h2 g' (by rw [hu];exact hg'),fun b c k hk=>⟨(h3 b c k hk).1,fun hg'=>(h3 b c k hk).2 (by rw [hu];exact hg')⟩,h4,fun b x hx c hc=>?_⟩
  rw [List.getElem?_take] at hx
  split at hx
  ·rename_i hbn
   obtain⟨u',q1,q2⟩:=h5 b x hx c hc
   exact⟨u',by rw [List.getElem?_take,if_pos (FX hbn hc)];exact q1,q2⟩
  ·cases hx
 have hW:=hI.write (w':=w) (i:=i) (is:=[]) (x:=⟨.slice (some ⟨g,0,none⟩) n cp',(E i).F,True,True⟩) (c7 i []) hl (fun q hq=>by simp at hq) trivial (fun a' ha'=>by
   simp only [c7,List.any_nil,Bool.or_false] at ha'
   exact⟨fun q hq=>by simp at hq,fun hn'=>(by rw [ha'] at hn';cases hn'),fun hr _=>by(rw [r7 hr] at ha';cases ha')⟩)
  (fun k hk=> .inl hk) (Nat.le_refl _) rfl rfl rfl (fun _ _ _=>rfl) hobj
 refine⟨_,S,hW.1,?_,hsz,hdf⟩
 intro t' v' ht'
 rw [D9] at ht'
 split at ht'
 ·rename_i e
  subst e
  cases ht'
  refine⟨by rw [Q9];trivial,by rw [Q9];exact e2,?_⟩
  rw [e2];rfl
 ·exact O7.cut hW.2 hT t' v' ht'
theorem kX (i:Nat) {g:FuncId} {xs:Array Operand} {ats:Array TypeId} {cargs:List AV} {pn:Option Value} {e sz:Nat} {α:Type} {enc:α→Nat→T} {l l':List α} {nx':Nat} (hE:Go.Proofs.Enters cx.P g)
  (hC:∀U:Nat→Value,Mu cx.P g cargs [(0,some (.row (some (U 0)) e true sz enc l))] 1 [(0,some (.row none e true sz enc l'))] nx' (.c (.own 0))) (hd:Q6 dst cx.n=true) (hb:y9 s.ob i=some (.row pn e true sz enc l)) (ha:GX s [⟨i,pn,e,sz,α,enc,l,l'⟩] xs.toList cargs):
  Os cx s ⟨dst,.call {callee:=.value (.func g),args:=xs,argTypes:=ats},ty,pos,aft,none⟩ ((⟨I5 (c7 i []) s.tm,(i,some (.row none e true sz enc l'))::T4 [] (Y6 (c7 i []) s.ob),s.nx⟩:St).sets dst (some (.c (.own i)))) false:=by
 intro Q a w hg
 obtain⟨E,S,hI,hT,hn,hdf⟩:=hg
 obtain⟨hl,hrd,hpn,ho⟩:=hI.obs _ _ hb
 unfold Oper.wp
 rw [execOp_call_go,hE]
 have hargs:#[]++Array.map a.eval xs++#[]=(xs.toList.map a.eval).toArray:=by
  apply Array.ext'
  simp
 rw [hargs,Oper.upon_enter]
 let hs:List Hd:=[⟨i,pn,e,sz,α,enc,l,l'⟩]
 let S':Nat→Prop:=fun k=>k < w.heap.size∧¬(E i).F k
 have e0:W3 E hs 0=E i:=rfl
 have hlive:∀j,(W3 E hs j).live→j=0:=fun j h=>by
  match j with
  | 0=>rfl
  | j + 1=>exact h.elim
 have hI0:G6 ⟨cx.P,g,0,w,S',K7 (W3 E hs)⟩ [(0,some (.row (some (E i).u) e true sz enc l))] 1 (W3 E hs) S' w:=by
  refine⟨fun k h=>h.1,fun k h=> .inl h,fun j o hj=>?_,fun j j' hij hj hj'=>absurd ((hlive j hj).trans (hlive j' hj').symm) hij,fun j hj k hk=>?_,fun j hj=>by rw [hlive j hj];exact Nat.one_pos,xZ.refl _ _⟩
  ·rw [D9] at hj
   split at hj
   ·rename_i hj0
    subst hj0
    cases hj
    rw [e0]
    refine⟨hl,by rw [e0];exact hrd,fun v hv=>by rw [e0];exact Option.some.inj hv,?_⟩
    rw [e0]
    exact ho
   ·simp [y9] at hj
  ·have hj0:=hlive j hj
   subst hj0
   rw [e0] at hk
   exact⟨(hI.fp i hl k hk).1,fun h=>h.2 hk,.inr ⟨0,by rw [e0];exact hl,by rw [e0];exact hk⟩⟩
 have hSS:∀k,S k→S' k:=fun k h=>⟨hI.slt k h,fun hf=>(hI.fp i hl k hf).2.1 h⟩
 refine(hC (fun _=>(E i).u) 0 w (W3 E hs) S' (xs.toList.map a.eval) hI0 (ha.den hSS hT)).mono ?_
 rintro en w' ⟨u,E',S2,rfl,hI',hu⟩
 obtain⟨hl',hrd',_,ho'⟩:=hI'.obs 0 _ rfl
 obtain⟨_,hu0,hu1⟩:=hu
 have hM:∀k,K7 (W3 E hs) k→(E i).F k:=fun k ⟨j,h1,h2⟩=>by
  have:=hlive j h1
  subst this
  rwa [e0] at h2
 have hobj:x6 (o6 E i [] ⟨u,(E' 0).F,True,True⟩) S w' i (.row none e true sz enc l'):=by
  refine⟨by rw [Q9];trivial,fun v hv=>(by cases hv),?_⟩
  rw [Q9]
  simp only [if_true] at ho' ⊢
  rw [← hu0] at ho'
  exact ho'
 have hW:=hI.write (w':=w') (i:=i) (is:=[]) (x:=⟨u,(E' 0).F,True,True⟩) (c7 i []) hl (fun q hq=>by simp at hq) trivial (fun a' ha'=>by
   simp only [c7,List.any_nil,Bool.or_false] at ha'
   exact⟨fun q hq=>by simp at hq,fun hn'=>(by rw [ha'] at hn';cases hn'),fun hr _=>by(rw [r7 hr] at ha';cases ha')⟩)
  (fun k hk=>by
   obtain⟨h1,_,h3⟩:=hI'.fp 0 hl' k hk
   rcases h3 with h3 | h3
   ·exact .inr (.inr ⟨h3,h1⟩)
   ·exact .inl (hM k h3))
  hI'.kept.size hI'.kept.os hI'.kept.tape hI'.kept.output (fun k hk hf=>hI'.kept.block k hk fun h=>hf (hM k h)) hobj
 refine⟨⟨o6 E i [] ⟨u,(E' 0).F,True,True⟩,S,?_,I8 (s:=⟨I5 (c7 i []) s.tm,(i,some (.row none e true sz enc l'))::T4 [] (Y6 (c7 i []) s.ob),s.nx⟩) hd hn (O7.cut hW.2 hT) (fun v' e'=>?_),by rw [P8];exact hn,by rw [put_defers];exact hdf⟩,fun h=>by(cases h)⟩
 ·rw [B7,A7]
  exact hW.1
 ·cases e'
  exact⟨by rw [Q9];trivial,by rw [Q9],hu1⟩
end rules
end Go.Eng

set_option linter.unusedVariables false
set_option linter.unusedSimpArgs false
namespace Go.Eng
open Go Go.RowKit
def K8:List Int→List Int
 | []=>[]
 | [x]=>[x]
 | x::y::l=>if x=y then K8 (y::l) else x::K8 (y::l)
theorem EX:∀(l:List Int) (x y:Int),K8 (l++[x,y])=if x=y then K8 (l++[x]) else K8 (l++[x])++[y]
 | [],x,y=>by
  simp only [List.nil_append,K8]
  split <;> simp_all
 | [a],x,y=>by
  simp only [List.singleton_append,K8]
  split <;> split <;> simp_all [K8]
 | a::b::l,x,y=>by
  have:=EX (b::l) x y
  simp only [List.cons_append] at this ⊢
  simp only [K8]
  rw [this]
  split <;> split <;> simp_all
theorem M2 {l:List Int} {j:Nat} {x y:Int} (h1:l[j]? =some x)(h2:l[j + 1]? =some y):K8 (l.take (j + 2))=if x=y then K8 (l.take (j + 1)) else K8 (l.take (j + 1))++[y]:=by
 rw [List.take_add_one,List.take_add_one,h1,h2]
 simp only [Option.toList_some,List.append_assoc,List.singleton_append]
 exact EX _ x y
theorem JZ (l:List Int)(z:Int):z∈K8 l↔z∈l:=by
 match l with
 | []=>simp [K8]
 | [x]=>simp [K8]
 | x::y::l=>
  have:=JZ (y::l) z
  unfold K8
  split
  ·rename_i e
   subst e
   rw [this]
   simp
  ·simp only [List.mem_cons] at this ⊢
   rw [this]
theorem bY (l:List Int)(h:l.Pairwise (· ≤ ·)):(K8 l).Pairwise (· < ·):=by
 match l,h with
 | [],_=>simp [K8]
 | [x],_=>simp [K8]
 | x::y::l,h=>
  have h':=List.pairwise_cons.1 h
  have:=bY (y::l) h'.2
  unfold K8
  split
  ·exact this
  ·rename_i e
   refine List.pairwise_cons.2 ⟨fun z hz=>?_,this⟩
   rw [JZ] at hz
   have h1:=h'.1 y (by simp)
   rcases List.mem_cons.1 hz with rfl | hz
   ·omega
   ·have:=(List.pairwise_cons.1 h'.2).1 z hz
    omega
def U3:List Int→Int→List Int
 | [],x=>[x]
 | y::l,x=>if y < x then y::U3 l x else if y=x then y::l else x::y::l
theorem SU:∀(l:List Int) (x z:Int),z∈U3 l x↔z=x∨z∈l
 | [],x,z=>by simp [U3]
 | y::l,x,z=>by
  have:=SU l x z
  unfold U3
  split
  ·simp only [List.mem_cons,this]
   constructor
   ·rintro(h | h | h) <;> simp [h]
   ·rintro(h | h | h) <;> simp [h]
  ·split
   ·rename_i e
    subst e
    simp
   ·simp
theorem zV:∀(l:List Int) (x:Int),l.Pairwise (· < ·)→(U3 l x).Pairwise (· < ·)
 | [],x,_=>by simp [U3]
 | y::l,x,h=>by
  have h':=List.pairwise_cons.1 h
  unfold U3
  split
  ·rename_i hyx
   refine List.pairwise_cons.2 ⟨fun z hz=>?_,zV l x h'.2⟩
   rw [SU] at hz
   rcases hz with rfl | hz
   ·exact hyx
   ·exact h'.1 z hz
  ·split
   ·exact h
   ·refine List.pairwise_cons.2 ⟨fun z hz=>?_,h⟩
    rcases List.mem_cons.1 hz with rfl | hz
    ·omega
    ·have:=h'.1 z hz
     omega
theorem bL (l:List Int)(x:Int):(U3 l x).length≤l.length + 1:=by
 induction l with
 | nil=>simp [U3]
 | cons y l ih=>
  unfold U3
  split
  ·simp;omega
  ·split <;> simp
def G9 (l:List Int):List Int:=l.foldl U3 []
theorem nV (l:List Int)(x:Int):G9 (l++[x])=U3 (G9 l) x:=by simp [G9]
theorem QU (l:List Int):∀(b:List Int),b.Pairwise (· < ·)→((l.foldl U3 b).Pairwise (· < ·)∧∀z,z∈l.foldl U3 b↔z∈b∨z∈l):=by
 induction l with
 | nil=>intro b hb;simp [hb]
 | cons x l ih=>
  intro b hb
  obtain⟨h1,h2⟩:=ih (U3 b x) (zV b x hb)
  refine⟨h1,fun z=>?_⟩
  show z∈l.foldl U3 (U3 b x)↔_
  rw [h2,SU]
  simp only [List.mem_cons]
  constructor
  ·rintro((h | h) | h) <;> simp [h]
  ·rintro(h | h | h) <;> simp [h]
theorem K6 (l:List Int):(G9 l).Pairwise (· < ·):=(QU l [] (by simp)).1
theorem Z6 (l:List Int)(z:Int):z∈G9 l↔z∈l:=by
 have:=(QU l [] (by simp)).2 z
 simpa [G9] using this
theorem F7 (l:List Int):(G9 l).length≤l.length:=by
 have key:∀(l b:List Int),(l.foldl U3 b).length≤b.length + l.length:=by
  intro l
  induction l with
  | nil=>intro b;simp
  | cons x l ih=>
   intro b
   have h1:=ih (U3 b x)
   have h2:=bL b x
   simp only [List.foldl_cons,List.length_cons]
   omega
 simpa [G9] using key l []
theorem EZ:∀(a b:List Int),a.Pairwise (· < ·)→b.Pairwise (· < ·)→(∀z,z∈a↔z∈b)→a=b
 | [],[],_,_,_=>rfl
 | [],y::b,_,_,h=>by have:=(h y).2 (by simp);simp at this
 | x::a,[],_,_,h=>by have:=(h x).1 (by simp);simp at this
 | x::a,y::b,ha,hb,h=>by
  have ha':=List.pairwise_cons.1 ha
  have hb':=List.pairwise_cons.1 hb
  have hxy:x=y:=by
   rcases List.mem_cons.1 ((h x).1 (by simp)) with e | e
   ·exact e
   ·rcases List.mem_cons.1 ((h y).2 (by simp)) with e' | e'
    ·exact e'.symm
    ·have:=hb'.1 x e
     have:=ha'.1 y e'
     omega
  subst hxy
  rw [EZ a b ha'.2 hb'.2 fun z=>?_]
  have:=h z
  simp only [List.mem_cons] at this
  constructor
  ·intro hz
   rcases this.1 (.inr hz) with e | e
   ·subst e;have:=ha'.1 z hz;omega
   ·exact e
  ·intro hz
   rcases this.2 (.inr hz) with e | e
   ·subst e;have:=hb'.1 z hz;omega
   ·exact e
theorem sP {ys xs:List Int} (hs:ys.Pairwise (· ≤ ·))(hp:ys.Perm xs):K8 ys=G9 xs:=
 EZ _ _ (bY ys hs) (K6 xs) fun z=>by rw [JZ,Z6];exact hp.mem_iff
def G1 (l:List Int):List Int:=l.mergeSort (fun a b=>decide (a≤b))
theorem bT (l:List Int):(G1 l).Perm l:=List.mergeSort_perm l _
theorem uR (l:List Int):(G1 l).Pairwise (· ≤ ·):=by
 have:=List.pairwise_mergeSort (le:=fun a b:Int=>decide (a≤b)) (fun a b c h1 h2=>by simp at *;omega) (fun a b=>by simp;omega) l
 exact this.imp (fun h=>by simpa using h)
theorem lX (l:List Int):(G1 l).length=l.length:=(bT l).length_eq
theorem MW (l:List Int):K8 (G1 l)=G9 l:=sP (uR l) (bT l)
end Go.Eng

set_option linter.unusedVariables false
set_option linter.unusedSimpArgs false
namespace Go.Eng
open Go Go.RowKit
section rules
variable {cx:Cx} {s:St} {dst:Option Nat} {ty:TypeId} {pos:String} {aft:Array Edge}
theorem FL {t t':TypeId} {d:TypeDesc} {x:Operand} {k k':IntKind} {n:Int} (hs:cx.P.underlying t=some d)(hd:cx.P.underlying t'=some (.int k'))(hx:s.ev x=some (sc (.int k n))):
  Ps cx s (.convert t t' x) (sc (.int k' (k'.wrap n))):=
 fun A w E S hI hT=>by
  refine⟨_,fun w' hW _ _ _ _ _=>?_,D2 rfl⟩
  simp only [execOp,Z8 (J9 hT hx)]
  have:(convert t t' (.int k n)).run cx.P w'= .ok (.int k' (k'.wrap n)) w':=by simp [convert,run_underlying hs,run_underlying hd,Conv.intToInt]
  rw [Sem.run_bind,this]
  rfl
theorem vH {t t':TypeId} {d:TypeDesc} {x:Operand} {k k':IntKind} {n:Int} (hd0:Q6 dst cx.n=true)(hs:cx.P.underlying t=some d)(hd:cx.P.underlying t'=some (.int k'))(hx:s.ev x=some (sc (.int k n))):
  Os cx s ⟨dst,.convert t t' x,ty,pos,aft,none⟩ (s.sets dst (some (sc (.int k' (k'.wrap n))))) true:=C8 hd0 (FL hs hd hx)
theorem YM {t et e0 i off n:Nat} {pn:Option Value} {α:Type} {enc:α→Nat→T} {xs:List α} {x:Operand} (z0:α) {zv:Value} (hx:s.ev x=some (.c (.vw i off n 1)))(hb:y9 s.ob i=some (.row pn e0 true 1 enc xs))(he:cx.P.underlying t=some (.slice et))(hz:F0 cx.P et=some [zv])(h1:zv.oneCell'=true)(hz0:Zr (enc z0 0) zv)(hn:off + n≤xs.length)(hpos:0 < n):
  Os cx s ⟨none,.call {callee:=.builtin .clear,args:=#[x],argTypes:=#[t]},ty,pos,aft,none⟩ ⟨I5 (X3 i []) s.tm,(i,some (.row pn e0 true 1 enc (xs.take off++List.replicate n z0++xs.drop (off + n))))::T4 [] (Y6 (X3 i []) s.ob),s.nx⟩ false:=by
 refine Z3 fun ac w hg=>?_
 obtain⟨E,S,hI,hT,hsz,hdf⟩:=hg
 obtain⟨hli,g,m,cap,cap',hu,hux,_⟩:=J9 hT hx
 obtain⟨_,hrd,hpn,ho⟩:=hI.obs _ _ hb
 simp only [if_true] at ho
 obtain⟨cells,G,q1,q2,q3,q4,q5⟩:=ho
 rw [hu] at q1
 have hmx:m=xs.length:=by
  rcases q1.2 with⟨e,_⟩ | ⟨g',c',cur,e,_⟩
  ·cases e
  ·cases e;rfl
 subst hmx
 have hgF:(E i).F g:=q2 g (by rw [hu];rfl)
 obtain⟨cur,hg1,hg2,hown⟩:=dU (us:=List.replicate n zv) (q:=off) q1 (by simp;omega)
 rw [List.length_replicate] at hg2
 obtain⟨zz,hz1,hz2⟩:=pW hz w
 have hzc:(Builtin.zeroCells zz.cells n).toList=List.replicate n zv:=by
  rw [hz2]
  simp [Builtin.zeroCells]
  apply List.ext_getElem
  ·simp
  ·intro i h1 h2
   simp [Nat.mod_one]
 have hst:=run_storeCells_at (P:=cx.P) g off e0 (List.replicate n zv) 0 cur.toArray w hg1 (by simpa using hg2) (fun v hv=>by rw [List.eq_of_mem_replicate hv];exact h1)
 simp only [Nat.add_zero] at hst
 have hput:cur.toArray.toList.take off++List.replicate n zv++cur.toArray.toList.drop (off +(List.replicate n zv).length)=O6 cur off (List.replicate n zv):=rfl
 rw [hput] at hst
 have hrun:(Builtin.clear_ #[t] ty #[.slice (some ⟨g,off * 1,none⟩) n cap']).run cx.P w= .ok (.tuple #[]) (w.setRow g (O6 cur off (List.replicate n zv)).toArray):=by
  obtain⟨n',rfl⟩:∃n',n=n' + 1:=⟨n - 1,by omega⟩
  rw [Nat.mul_one]
  simp [Builtin.clear_,run_underlying he,hz1,hzc,hst]
 have hcl:cells.length=xs.length:=by have:=q1.1;omega
 have hobj:x6 (o6 E i [] ⟨(E i).u,(E i).F,True,True⟩) S (w.setRow g (O6 cur off (List.replicate n zv)).toArray) i (.row pn e0 true 1 enc (xs.take off++List.replicate n z0++xs.drop (off + n))):=by
  refine⟨by rw [Q9];trivial,by rw [Q9];exact hpn,?_⟩
  rw [Q9]
  simp only [if_true]
  have hlen:(xs.take off++List.replicate n z0++xs.drop (off + n)).length=xs.length:=by simp;omega
  refine⟨O6 cells off (List.replicate n zv),fun b c k=>if off≤b∧b < off + n then False else G b c k,by rw [hlen,hu];exact hown,q2,fun b c k hk=>?_,fun b c b' c' k hk hk'=>?_,fun b x' hx' c hc=>?_⟩
  ·dsimp only at hk
   split at hk
   ·exact hk.elim
   ·exact q3 b c k hk
  ·dsimp only at hk hk'
   split at hk <;> split at hk'
   ·exact hk.elim
   ·exact hk.elim
   ·exact hk'.elim
   ·exact q4 b c b' c' k hk hk'
  ·obtain rfl:c=0:=by omega
   rw [Nat.mul_one,Nat.add_zero,M0 (by simp;omega)]
   simp only [List.length_replicate]
   by_cases hb1:b < off
   ·rw [if_pos hb1]
    rw [List.append_assoc,List.getElem?_append_left (by simp;omega),List.getElem?_take,if_pos hb1] at hx'
    obtain⟨u',e1,e2⟩:=q5 b x' hx' 0 (by omega)
    rw [Nat.mul_one,Nat.add_zero] at e1
    refine⟨u',e1,Ow.move (F:=G b 0) _ _ (fun k hk=>by(try dsimp only);rw [if_neg (by omega)];exact hk) (fun k hk=>setRow_other w g k _ (by rintro rfl;exact(q3 b 0 k hk).2 (by rw [hu];rfl))) e2⟩
   ·rw [if_neg hb1]
    by_cases hb2:b < off + n
    ·rw [if_pos hb2]
     have hzx:x'=z0:=by
      rw [List.getElem?_append_left (by simp;omega),List.getElem?_append_right (by simp;omega),List.getElem?_replicate] at hx'
      split at hx'
      ·exact(Option.some.inj hx').symm
      ·cases hx'
     subst hzx
     refine⟨zv,by rw [List.getElem?_replicate,if_pos (by omega)],?_⟩
     exact Ow.move _ _ (fun _ q=>q.elim) (fun _ q=>q.elim) (hz0.ow (w:=w))
    ·rw [if_neg hb2]
     have hlb:(xs.take off++List.replicate n z0).length=off + n:=by simp;omega
     rw [List.getElem?_append_right (by omega),hlb,List.getElem?_drop,show off + n +(b - (off + n))=b by omega] at hx'
     obtain⟨u',e1,e2⟩:=q5 b x' hx' 0 (by omega)
     rw [Nat.mul_one,Nat.add_zero] at e1
     refine⟨u',e1,Ow.move (F:=G b 0) _ _ (fun k hk=>by(try dsimp only);rw [if_neg (by omega)];exact hk) (fun k hk=>setRow_other w g k _ (by rintro rfl;exact(q3 b 0 k hk).2 (by rw [hu];rfl))) e2⟩
 have hW:=hI.write (w':=w.setRow g (O6 cur off (List.replicate n zv)).toArray) (i:=i) (is:=[]) (x:=⟨(E i).u,(E i).F,True,True⟩) (X3 i []) hli (fun q hq=>by simp at hq) trivial (fun a' ha=>by
   simp only [X3,Bool.or_eq_false_iff] at ha
   exact⟨fun q hq=>by simp at hq,fun _=>rfl,fun hr _=>by(rw [ha.1] at hr;cases hr)⟩)
  (fun k hk=> .inl hk) (by simp) rfl rfl rfl (fun k _ hf=>setRow_other w g k _ (by rintro rfl;exact hf hgF)) hobj
 refine⟨.value (.tuple #[]),_,?_,.inl ⟨_,rfl,o6 E i [] ⟨(E i).u,(E i).F,True,True⟩,S,hW.1,O7.cut hW.2 hT,hsz,hdf⟩,fun h=>by(cases h)⟩
 have hm:Array.map ac.eval #[x]=#[.slice (some ⟨g,off * 1,none⟩) n cap']:=by simp [hux]
 simp only [execOp,resolve,invoke,builtin,hm,Sem.run_bind,Sem.run_pure,Result.andThen_ok]
 rw [hrun]
 rfl
end rules
end Go.Eng

set_option linter.unusedVariables false
set_option linter.unusedSimpArgs false
namespace Go.Eng
open Go Go.RowKit
theorem mZ {cx:Cx} {s:St} {R:Ending→World→Prop} {todo:List Item} (i:Nat) {pn:Option Value} {e sz:Nat} {deep:Bool} {α:Type} {enc:α→Nat→T} {xs:List α} (hb:y9 s.ob i=some (.row pn e deep sz enc xs))
  (h:Wt cx ⟨s.tm,(i,some (.row none e deep sz enc xs))::s.ob,s.nx⟩ todo R):Wt cx s todo R:=by
 intro a w hg
 refine h a w ?_
 obtain⟨E,S,hI,hT,hsz,hdf⟩:=hg
 refine⟨E,S,⟨hI.slt,hI.snew,fun j o hj=>?_,hI.dis,hI.fp,hI.nxt,hI.kept⟩,hT,hsz,hdf⟩
 rw [D9] at hj
 split at hj
 ·rename_i e
  subst e
  cases hj
  obtain⟨h1,h2,_,h4⟩:=hI.obs _ _ hb
  exact⟨h1,h2,fun v hv=>(by cases hv),h4⟩
 ·exact hI.obs j o hj
end Go.Eng

set_option linter.unusedVariables false
set_option linter.unusedSimpArgs false
namespace Go.Eng
open Go Go.RowKit
def YP (l c:List Int) (k j:Nat):Prop:=c.length=l.length∧k < j∧j≤l.length∧c.take k=K8 (l.take j)∧c.drop k=l.drop k
theorem NN {l:List Int} {k:Nat} (h:K8 (l.take k)=l.take k) {x y:Int} {n:Nat} (hx:l[k]? =some x)(hy:l[n]? =some y)(hn:n=k - 1)(h1:1≤k)(he:x≠y):K8 (l.take (k + 1))=l.take (k + 1):=by
 subst hn
 have:=M2 (j:=k - 1) hy (by rw [show k - 1 + 1=k by omega];exact hx)
 rw [show k - 1 + 2=k + 1 by omega,show k - 1 + 1=k by omega,if_neg (fun e=>he e.symm),h] at this
 rw [this,List.take_add_one,hx]
 rfl
theorem GP {l:List Int} {k:Nat} (h:K8 (l.take k)=l.take k) {x y:Int} {n:Nat} (hx:l[k]? =some x)(hy:l[n]? =some y)(hn:n=k - 1)(h1:1≤k)(he:x=y):YP l l k (k + 1):=by
 subst hn
 obtain⟨hk,_⟩:=List.getElem?_eq_some_iff.1 hx
 have:=M2 (j:=k - 1) hy (by rw [show k - 1 + 1=k by omega];exact hx)
 rw [show k - 1 + 2=k + 1 by omega,show k - 1 + 1=k by omega,if_pos he.symm,h] at this
 exact⟨rfl,by omega,by omega,this.symm,rfl⟩
theorem FO {l c:List Int} {k j:Nat} (h:c.drop k=l.drop k)(hj:k≤j):c[j]? =l[j]? :=by
 have:=congrArg (·[j - k]?) h
 simp only [List.getElem?_drop] at this
 rwa [show k +(j - k)=j by omega] at this
theorem oM {l c:List Int} {k j:Nat} (h:YP l c k j) {x y:Int} {n:Nat} (hx:c[j]? =some x)(hy:c[n]? =some y)(hn:n=j - 1)(he:x=y):YP l c k (j + 1):=by
 subst hn
 obtain⟨h1,h2,h3,h4,h5⟩:=h
 rw [FO h5 (by omega)] at hx hy
 obtain⟨hk,_⟩:=List.getElem?_eq_some_iff.1 hx
 have:=M2 (j:=j - 1) hy (by rw [show j - 1 + 1=j by omega];exact hx)
 rw [show j - 1 + 2=j + 1 by omega,show j - 1 + 1=j by omega,if_pos he.symm] at this
 exact⟨h1,by omega,by omega,h4.trans this.symm,h5⟩
theorem kM {l c:List Int} {k j:Nat} (h:YP l c k j) {x y:Int} {n:Nat} (hx:c[j]? =some x)(hy:c[n]? =some y)(hn:n=j - 1)(he:x≠y):YP l (c.set k x) (k + 1) (j + 1):=by
 subst hn
 obtain⟨h1,h2,h3,h4,h5⟩:=h
 have hx0:=hx
 rw [FO h5 (by omega)] at hx hy
 obtain⟨hk,_⟩:=List.getElem?_eq_some_iff.1 hx
 have:=M2 (j:=j - 1) hy (by rw [show j - 1 + 1=j by omega];exact hx)
 rw [show j - 1 + 2=j + 1 by omega,show j - 1 + 1=j by omega,if_neg (fun e=>he e.symm)] at this
 refine⟨by simp [h1],by omega,by omega,?_,?_⟩
 ·rw [this,← h4,List.take_add_one,List.getElem?_set,if_pos rfl,if_pos (by omega),List.take_set_of_le (Nat.le_refl _)]
  rfl
 ·rw [List.drop_set_of_lt (by omega)]
  have:=congrArg (List.drop 1) h5
  simpa [List.drop_drop] using this
theorem TL {l c:List Int} {k j:Nat} {d:List Int} (h:YP l c k j)(hj:l.length≤j):(c.take k++d).take k=K8 l:=by
 obtain⟨h1,h2,h3,h4,h5⟩:=h
 rw [List.take_append_of_le_length (by simp;omega),List.take_take,Nat.min_self,h4,List.take_of_length_le hj]
end Go.Eng

set_option linter.unusedVariables false
set_option linter.unusedSimpArgs false
namespace Go.Eng
open Go Go.RowKit
section rules
variable {cx:Cx} {s:St} {dst:Option Nat} {ty:TypeId} {pos:String} {aft:Array Edge}
theorem N4 (i:Nat) {t e sz:Nat} {zs:List Value} {parts:Array (Nat × Operand)} {vs:List (Nat × AV)} {us:List AC} {α:Type} {enc:α→Nat→T} (z:α)(hi:s.nx=i)(hd:Q6 dst cx.n=true)(he:PZ cx.P t=some (e,sz,zs))(hz:Nat.beq zs.length sz=true)(h1:zs.all (·.oneCell')=true)(hsmall:Nat.ble (1 * sz) 16777216=true)(hv:mL s parts.toList=some vs)(hc:MY (fun i=>some (i * sz,sz)) (List.replicate (1 * sz) .top) vs=some us)(hul:Nat.beq us.length sz=true)(hm:xM s true us (enc z) 0 []):
  Os cx s ⟨dst,.buildSlice t 1 parts,ty,pos,aft,none⟩ ((s.obj i (.row none e true sz enc [z])).sets dst (some (.c (.own i)))) true:=by
 subst hi
 refine Z3 fun a w hg=>?_
 obtain⟨E,S,hI,hT,hn,hdf⟩:=hg
 have hz:=Nat.eq_of_beq_eq_true hz
 have hul:=Nat.eq_of_beq_eq_true hul
 have htop:r6 E S w (List.replicate (1 * sz) .top) ((Array.range (1 * sz)).map (zs.toArray[· % zs.length]!)).toList:=by
  refine⟨by simp,fun j c hj=>?_⟩
  rw [List.getElem?_replicate] at hj
  split at hj
  ·rename_i hlt
   cases hj
   have hpos:0 < zs.length:=by
    rcases Nat.eq_zero_or_pos zs.length with h0 | h0
    ·rw [h0] at hz;subst hz;simp at hlt
    ·exact h0
   have hm:j % zs.length < zs.length:=Nat.mod_lt _ hpos
   rw [Nat.one_mul] at hlt
   refine⟨zs[j % zs.length],by simp [hlt,hm],?_⟩
   exact(List.all_eq_true.1 h1) _ (List.getElem_mem hm)
  ·cases hj
 obtain⟨us',h4,h5⟩:=CZ hT parts.toList vs _ us _ hv hc htop
 have hr:=PY (P:=cx.P) he hz 1 (parts.map fun(i,x)=>(i,a.eval x)) us' (by simpa using hsmall) w (by rw [Array.toList_map];exact h4)
 obtain⟨_,_,m3⟩:=hm.den hI h5
 obtain⟨Gz,g1,_,g3⟩:=m3 rfl
 have hlen:us'.toList.length=sz:=h5.1.trans hul
 refine⟨.value (.slice (some ⟨w.heap.size,0,none⟩) 1 1),w.alloc (.cells us'.toList.toArray e (0,0)),?_,.inl ⟨_,rfl,?_⟩,fun _=>aX.alloc _ _⟩
 ·simp only [execOp]
  rw [Sem.run_bind,hr]
  rfl
 ·refine Gm.row hI hT hn hdf hd _ rfl ?_
  simp only [if_true]
  refine⟨us'.toList,fun _ _ _=>False,⟨by simp [hlen],.inr ⟨w.heap.size,1,_,rfl,Nat.zero_le _,heap_alloc_new w _,Nat.le_refl _,by simp [maxLen],by rw [Nat.one_mul];simpa using hlen,by rw [List.length_singleton,Nat.one_mul];exact List.take_of_length_le (Nat.le_of_eq hlen)⟩⟩,fun g hg=>by simp only [Value.ownBlock,Option.some.injEq] at hg;exact hg.symm,fun _ _ _ h=>h.elim,fun _ _ _ _ _ h=>h.elim,fun b x hx c hc=>?_⟩
  match b,hx with
  | 0,hx=>
   cases hx
   obtain⟨u',e1,e2⟩:=g3 c (by omega)
   refine⟨u',by simpa using e1,?_⟩
   rw [Nat.zero_add] at e2
   refine Ow.move (F:=Gz c) _ _ (fun k hk=>?_) (fun k hk=>?_) e2
   ·obtain⟨q,hq,_⟩:=g1 c k hk
    simp at hq
   ·obtain⟨q,hq,_⟩:=g1 c k hk
    simp at hq
theorem n1 {P:Program} {t e ty:TypeId} {i:TypeInfo} (ht:P.underlying t=some (.slice e))(hi:P.info? e=some i)(b:Option Addr)(n c cc:Nat)(h:n≤c)(w:World):
  (Builtin.append_ #[t,t] ty #[.slice b n c,.slice none 0 cc]).run P w= .ok (.slice b n c) w:=by
 cases b <;> simp [Builtin.append_,run_underlying ht,sizeOf,typeInfo,hi,Builtin.lenOf,Builtin.firstCells,h,storeCells]
theorem zS (i:Nat) {pn:Option Value} {t e:TypeId} {sz by':Nat} {x y:Operand} {α:Type} {enc:α→Nat→T} {xs ys:List α} (hd:Q6 dst cx.n=true)(he:CV cx.P t=some (e,sz,by'))(hpos:Nat.blt 0 sz=true)
  (hx:s.ev x=some (.c (.own i))) (hb:y9 s.ob i=some (.row pn e true sz enc xs)) (hyd:∀(a:Act) (E:Nat→EE) (S:Nat→Prop) (w:World),G6 cx s.ob s.nx E S w→O7 E S w s.tm a.tmps→∃S',Rd w S' (.sl sz enc ys) (a.eval y)) (hsc:∀y j,∃v,enc y j= .v v) (hlen:(xs.length + ys.length) * by'≤140737488355328) (hl63:xs.length + ys.length≤9223372036854775807):
  Os cx s ⟨dst,.call {callee:=.builtin .append,args:=#[x,y],argTypes:=#[t,t]},ty,pos,aft,none⟩ ((⟨I5 (c7 i []) s.tm,(i,some (.row none e true sz enc (xs++ys)))::T4 [] (Y6 (c7 i []) s.ob),s.nx⟩:St).sets dst (some (.c (.own i)))) false:=by
 refine Z3 fun a w hg=>?_
 obtain⟨E,S,hI,hT,hn,hdf⟩:=hg
 have hpos:0 < sz:=by simpa using hpos
 obtain⟨ti,tz,t1,t2,t3,t4,t5,t6⟩:=ZY he
 obtain⟨hli,hux,_⟩:=J9 hT hx
 obtain⟨_,A,cap,huy,hcap,hrd'⟩:=hyd a E S w hI hT
 obtain⟨_,hrd,_,ho⟩:=hI.obs _ _ hb
 simp only [if_true] at ho
 obtain⟨cells,G,h1,h2,h3,h4,h5⟩:=ho
 have hexec:∀(v1:Value) (w1:World),(Builtin.append_ #[t,t] ty #[(E i).u,.slice A ys.length cap]).run cx.P w= .ok v1 w1→(execOp a.eval ⟨dst,.call {callee:=.builtin .append,args:=#[x,y],argTypes:=#[t,t]},ty,pos,aft,none⟩).run cx.P w= .ok (.value v1) w1:=fun v1 w1 hr=>by
  have hm:Array.map a.eval #[x,y]=#[(E i).u,.slice A ys.length cap]:=by simp [hux,huy]
  simp only [execOp,resolve,invoke,builtin,hm,Sem.run_bind,Sem.run_pure,Result.andThen_ok]
  rw [hr]
  rfl
 have fin:∀(v1:Value) (w1:World) (news:List Value),w1.ownsRow 0 e sz v1 (xs.length + ys.length) (cells++news)→(∀b y',ys[b]? =some y'→∀c,c < sz→∃u',news[b * sz + c]? =some u'∧Ow w1 (enc y' c) u' (fun _=>False))→w.heap.size≤w1.heap.size→w1.os=w.os→w1.tape=w.tape→w1.output=w.output→(∀q,q < w.heap.size→some q≠(E i).u.ownBlock→w1.heap[q]? =w.heap[q]?)→(v1.ownBlock=(E i).u.ownBlock∨v1.ownBlock=some w.heap.size)→v1.oneCell'=true→
   Gm cx ((⟨I5 (c7 i []) s.tm,(i,some (.row none e true sz enc (xs++ys)))::T4 [] (Y6 (c7 i []) s.ob),s.nx⟩:St).sets dst (some (.c (.own i)))) (a.put dst v1) w1:=fun v1 w1 news r2 hnw r3 ros rt rop rb r5 hone=>by
  have hkeep:∀q,q < w.heap.size→¬(E i).F q→w1.heap[q]? =w.heap[q]? :=fun q hq hf=>rb q hq fun hb'=>hf (h2 q hb'.symm)
  have hne1:∀q,q < w.heap.size→some q≠(E i).u.ownBlock→v1.ownBlock≠some q:=fun q hq hn' hv=>by
   rcases r5 with h5 | h5
   ·rw [h5] at hv;exact hn' hv.symm
   ·rw [h5] at hv;cases hv;omega
  have hfresh:v1.ownBlock=some w.heap.size→w.heap.size < w1.heap.size:=fun hv=>by
   rcases r2.2 with⟨e1,_⟩ | ⟨g,cap,cur,e1,_,e2,_⟩
   ·rw [e1] at hv;simp [Value.ownBlock] at hv
   ·rw [e1] at hv
    simp [Value.ownBlock] at hv
    subst hv
    exact(Array.getElem?_eq_some_iff.1 e2).1
  have hlen':(xs++ys).length=xs.length + ys.length:=by simp
  have hobj:x6 (o6 E i [] ⟨v1,fun k=>(E i).F k∨v1.ownBlock=some k,True,True⟩) S w1 i (.row none e true sz enc (xs++ys)):=by
   refine⟨by rw [Q9];trivial,fun v hv=>(by cases hv),?_⟩
   rw [Q9]
   simp only [if_true]
   refine⟨cells++news,fun b c k=>if b < xs.length then G b c k else False,by rw [hlen'];exact r2,fun g hg=> .inr hg,fun b c k hk=>?_,fun b c b' c' k hk hk'=>?_,fun b x' hx' c hc=>?_⟩
   ·dsimp only at hk
    split at hk
    ·obtain⟨e1,e2⟩:=h3 b c k hk
     exact⟨.inl e1,hne1 k (hI.fp i hli k e1).1 (fun e=>e2 e.symm)⟩
    ·exact hk.elim
   ·dsimp only at hk hk'
    split at hk <;> split at hk'
    ·exact h4 b c b' c' k hk hk'
    ·exact hk'.elim
    ·exact hk.elim
    ·exact hk.elim
   ·by_cases hb1:b < xs.length
    ·rw [List.getElem?_append_left hb1] at hx'
     obtain⟨u',e1,e2⟩:=h5 b x' hx' c hc
     refine⟨u',?_,Ow.move _ _ (fun k hk=>by dsimp only;rw [if_pos hb1];exact hk) (fun k hk=>?_) e2⟩
     ·rw [List.getElem?_append_left (by rw [h1.1];exact FX hb1 hc)]
      exact e1
     ·obtain⟨e3,e4⟩:=h3 b c k hk
      exact rb k (hI.fp i hli k e3).1 (fun e=>e4 e.symm)
    ·rw [List.getElem?_append_right (by omega)] at hx'
     obtain⟨u',e1,e2⟩:=hnw _ x' hx' c hc
     refine⟨u',?_,Ow.move _ _ (fun _ q=>q.elim) (fun _ q=>q.elim) e2⟩
     have hle:xs.length * sz≤b * sz:=Nat.mul_le_mul_right _ (by omega)
     rw [List.getElem?_append_right (by rw [h1.1];omega),h1.1,show b * sz + c - xs.length * sz=(b - xs.length) * sz + c by rw [Nat.sub_mul];omega]
     exact e1
  have hW:=hI.write (w':=w1) (i:=i) (is:=[]) (x:=⟨v1,fun k=>(E i).F k∨v1.ownBlock=some k,True,True⟩) (c7 i []) hli (fun q hq=>by simp at hq) trivial (fun a' ha'=>by
    simp only [c7,List.any_nil,Bool.or_false] at ha'
    exact⟨fun q hq=>by simp at hq,fun hn'=>(by rw [ha'] at hn';cases hn'),fun hr _=>by(rw [r7 hr] at ha';cases ha')⟩)
   (fun k hk=>by
    rcases hk with hk | hk
    ·exact .inl hk
    ·rcases r5 with h5 | h5
     ·rw [h5] at hk;exact .inl (h2 k hk)
     ·have h6:=hfresh h5
      rw [h5] at hk
      cases hk
      exact .inr (.inr ⟨Nat.le_refl _,h6⟩))
   r3 ros rt rop hkeep hobj
  refine⟨_,S,?_,I8 (s:=⟨I5 (c7 i []) s.tm,(i,some (.row none e true sz enc (xs++ys)))::T4 [] (Y6 (c7 i []) s.ob),s.nx⟩) hd hn (O7.cut hW.2 hT) (fun v' e'=>?_),by rw [P8];exact hn,by rw [put_defers];exact hdf⟩
  ·rw [B7,A7];exact hW.1
  ·cases e'
   exact⟨by rw [Q9];trivial,by rw [Q9],hone⟩
 cases A with
 | none=>
  have hy0:ys=[]:=by
   cases ys with
   | nil=>rfl
   | cons y0 ys=>
    obtain⟨ad,h,_⟩:=hrd' 0 y0 rfl
    cases h
  subst hy0
  obtain⟨A',c',hu,hc⟩:=N5 h1
  refine⟨.value (E i).u,w,hexec _ _ ?_,.inl ⟨_,rfl,?_⟩,fun h=>by(cases h)⟩
  ·rw [hu]
   exact n1 t1 t2 A' _ c' cap hc w
  ·exact fin _ w [] (by simpa using h1) (fun b y' hb'=>by simp at hb') (Nat.le_refl _) rfl rfl rfl (fun _ _ _=>rfl) (.inl rfl) (by rw [hu];rfl)
 | some ad=>
  have each:∀q,q < ys.length * sz→∃u,w.cell? (ad.add q)=some u∧u.oneCell'=true∧∃y',ys[q / sz]? =some y'∧Ow w (enc y' (q % sz)) u (fun _=>False):=fun q hq=>by
   have hqs:q / sz < ys.length:=by rw [Nat.div_lt_iff_lt_mul hpos];exact hq
   have hqm:q % sz < sz:=Nat.mod_lt _ hpos
   obtain⟨ad',e0,_,hc⟩:=hrd' (q / sz) _ (List.getElem?_eq_getElem hqs)
   cases e0
   obtain⟨u',e1,e2⟩:=hc (q % sz) hqm
   rw [show q / sz * sz + q % sz=q by rw [Nat.mul_comm];exact Nat.div_add_mod q sz] at e1
   refine⟨u',e1,e2.one,_,List.getElem?_eq_getElem hqs,?_⟩
   obtain⟨v,hv⟩:=hsc ys[q / sz] (q % sz)
   rw [hv] at e2 ⊢
   exact e2
  obtain⟨news,hnl,hnw⟩:=wP _ each
  obtain⟨v1,w1,r1,r2,r3,_,r5⟩:=run_append_own_at (P:=cx.P) w 0 t ty e ti tz sz by' t1 t2 t3 t4 t5 t6 hpos (E i).u xs.length cells h1 ad ys.length cap news hnl (fun j u hu=>(hnw j u hu).1) (fun u hu=>by
   obtain⟨j,hj⟩:=List.getElem?_of_mem hu
   exact(hnw j u hj).2.1) (by simp only [maxLen];omega) hlen (Nat.zero_le _)
  refine⟨.value v1,w1,hexec _ _ r1,.inl ⟨_,rfl,?_⟩,fun h=>by(cases h)⟩
  refine fin v1 w1 news r2 (fun b y' hb' c hc=>?_) r3.size r3.os r3.tape r3.output r3.block r5 ?_
  ·have hbl:=(List.getElem?_eq_some_iff.1 hb').1
   have hq:b * sz + c < ys.length * sz:=FX hbl hc
   have hj:news[b * sz + c]? =some (news[b * sz + c]'(by omega)):=List.getElem?_eq_getElem (by omega)
   obtain⟨_,_,y2,e1,e2⟩:=hnw _ _ hj
   rw [show(b * sz + c) / sz=b by rw [Nat.mul_comm,Nat.mul_add_div hpos,Nat.div_eq_of_lt hc,Nat.add_zero],hb'] at e1
   cases e1
   rw [show(b * sz + c) % sz=c by rw [Nat.mul_comm,Nat.mul_add_mod];exact Nat.mod_eq_of_lt hc] at e2
   obtain⟨v,hv⟩:=hsc y' c
   rw [hv] at e2 ⊢
   exact⟨_,hj,e2⟩
  ·obtain⟨A',c',hu,_⟩:=N5 r2
   rw [hu];rfl
theorem a7 (i:Nat) {pn:Option Value} {t e:TypeId} {sz by':Nat} {x y:Operand} {r:Option Nat} {α:Type} {enc:α→Nat→T} {xs ys:List α} (hd:Q6 dst cx.n=true)(he:CV cx.P t=some (e,sz,by'))(hpos:Nat.blt 0 sz=true)
  (hx:s.ev x=some (.c (.own i))) (hb:y9 s.ob i=some (.row pn e true sz enc xs)) (hy:s.ev y=some (.c (.t r (.sl sz enc ys)))) (hsc:∀y j,∃v,enc y j= .v v) (hlen:(xs.length + ys.length) * by'≤140737488355328) (hl63:xs.length + ys.length≤9223372036854775807):
  Os cx s ⟨dst,.call {callee:=.builtin .append,args:=#[x,y],argTypes:=#[t,t]},ty,pos,aft,none⟩ ((⟨I5 (c7 i []) s.tm,(i,some (.row none e true sz enc (xs++ys)))::T4 [] (Y6 (c7 i []) s.ob),s.nx⟩:St).sets dst (some (.c (.own i)))) false:=by
 exact zS i hd he hpos hx hb (fun a E S w hI hT=>⟨_,(J9 hT hy).2⟩) hsc hlen hl63
theorem fX (i:Nat) {pn:Option Value} {t e:TypeId} {sz by':Nat} {x y:Operand} {q e2:Nat} {pn2:Option Value} {deep2:Bool} {α:Type} {enc:α→Nat→T} {xs ys:List α} (hd:Q6 dst cx.n=true)(he:CV cx.P t=some (e,sz,by'))(hpos:Nat.blt 0 sz=true)
  (hx:s.ev x=some (.c (.own i))) (hb:y9 s.ob i=some (.row pn e true sz enc xs)) (hy:s.ev y=some (.c (.own q))) (hq:y9 s.ob q=some (.row pn2 e2 deep2 sz enc ys)) (hqi:q≠i) (hsc:∀y j,∃v,enc y j= .v v) (hlen:(xs.length + ys.length) * by'≤140737488355328) (hl63:xs.length + ys.length≤9223372036854775807):
  Os cx s ⟨dst,.call {callee:=.builtin .append,args:=#[x,y],argTypes:=#[t,t]},ty,pos,aft,none⟩ ((⟨I5 (c7 i []) s.tm,(i,some (.row none e true sz enc (xs++ys)))::T4 [] (Y6 (c7 i []) s.ob),s.nx⟩:St).sets dst (some (.c (.own i)))) false:=by
 exact zS i hd he hpos hx hb (fun a E S w hI hT=>⟨_,by obtain⟨_,h,_⟩:=J9 hT hy;rw [h];exact UP hI hq⟩) hsc hlen hl63
theorem fH {t:TypeId} {x:Operand} {lo hi mx:Option Operand} {i e0:Nat} {pn:Option Value} {α:Type} {sz:Nat} {enc:α→Nat→T} {xs:List α} {l h:Nat} (hs:Q5 cx.P t=some sz)(hx:s.ev x=some (.c (.own i)))(hob:y9 s.ob i=some (.row pn e0 true sz enc xs))(hb:Bo s xs.length lo hi mx l h):
  Ps cx s (.slice t x lo hi mx) (.c (.t (some i) (.sl sz enc ((xs.take h).drop l)))):=
 fun A w E S hI hT=>by
  obtain⟨hlv,hux,_⟩:=J9 hT hx
  obtain⟨_,hrd,_,ho⟩:=hI.obs _ _ hob
  simp only [if_true] at ho
  have hr:Rd w (E i).F (.sl sz enc xs) (E i).u:=Ow.rd (.sl sz enc xs) _ ⟨e0,ho⟩
  obtain⟨A',cap,hu,hc,hr'⟩:=hr
  obtain⟨hl,m,hbd⟩:=hb.bd hT hc
  have hrun:=fun w'=>(hbd.run hs A' w').1
  obtain⟨_,h1,h2⟩:=hbd.run hs A' w
  refine⟨sliced A' l h m sz,fun w' hW _ _ _ _ _=>?_,⟨hlv,hrd⟩,MK (w:=w) (cap:=cap) ⟨A',cap,rfl,hc,hr'⟩ h1 hl h2⟩
  simp only [execOp,hux,hu]
  rw [Sem.run_bind,hrun w']
  rfl
theorem iZ {t:TypeId} {x:Operand} {lo hi mx:Option Operand} {i e0:Nat} {pn:Option Value} {α:Type} {sz:Nat} {enc:α→Nat→T} {xs:List α} {l h:Nat} (hd:Q6 dst cx.n=true)(hs:Q5 cx.P t=some sz)(hx:s.ev x=some (.c (.own i)))(hob:y9 s.ob i=some (.row pn e0 true sz enc xs))(hb:Bo s xs.length lo hi mx l h):
  Os cx s ⟨dst,.slice t x lo hi mx,ty,pos,aft,none⟩ (s.sets dst (some (.c (.t (some i) (.sl sz enc ((xs.take h).drop l)))))) true:=C8 hd (fH hs hx hob hb)
theorem UY {R:Ending→World→Prop} {todo:List Item} (t i:Nat) {pn:Option Value} {e sz:Nat} {deep:Bool} {α:Type} {enc:α→Nat→T} {xs:List α} (ht:y9 s.tm t=some (.c (.own i)))(hb:y9 s.ob i=some (.row pn e deep sz enc xs))
  (h:Wt cx ⟨[(t,some (.c (.own 0)))],[(0,some (.row none e deep sz enc xs))],1⟩ todo R):Wt cx s todo R:=by
 intro a w hg
 refine h a w ?_
 obtain⟨E,S,hI,hT,hsz,hdf⟩:=hg
 obtain⟨h1,h2,h3,h4⟩:=hI.obs _ _ hb
 let X:Nat→EE:=fun j=>if j=0 then E i else A5
 have e0:X 0=E i:=rfl
 have hl:∀j,(X j).live→j=0:=fun j hj=>by
  match j,hj with
  | 0,_=>rfl
  | j + 1,hj=>exact hj.elim
 refine⟨X,S,⟨hI.slt,hI.snew,fun j o hj=>?_,fun j j' hij hj hj'=>absurd ((hl j hj).trans (hl j' hj').symm) hij,fun j hj k hk=>?_,fun j hj=>by rw [hl j hj];exact Nat.one_pos,hI.kept⟩,fun t' v' ht'=>?_,hsz,hdf⟩
 ·rw [D9] at hj
  split at hj
  ·rename_i ej
   subst ej
   cases hj
   refine⟨by rw [e0];exact h1,by rw [e0];exact h2,fun v hv=>(by cases hv),?_⟩
   rw [e0]
   exact h4
  ·simp [y9] at hj
 ·have ej:=hl j hj
  subst ej
  rw [e0] at hk
  exact hI.fp i h1 k hk
 ·rw [D9] at ht'
  split at ht'
  ·rename_i ej
   subst ej
   cases ht'
   obtain⟨q1,q2,q3⟩:=hT _ _ ht
   exact⟨by rw [e0];exact q1,by rw [e0];exact q2,q3⟩
  ·simp [y9] at ht'
end rules
end Go.Eng

set_option linter.unusedVariables false
set_option linter.unusedSimpArgs false
namespace Go.Eng
open Go Go.RowKit
def C6 (l:List Int):List Int:=l.filter fun t=>decide (0≤t)
def F9 (l:List (Int × List Int)):List Int:=l.flatMap fun a=>C6 a.2
theorem xV {l:List Int} {n:Nat} {z:Int} (h:l[n]? =some z)(hz:0≤z):C6 (l.take (n + 1))=C6 (l.take n)++[z]:=by
 unfold C6
 rw [List.take_add_one,h,List.filter_append]
 simp [hz]
theorem DV {l:List Int} {n:Nat} {z:Int} (h:l[n]? =some z)(hz:¬0≤z):C6 (l.take (n + 1))=C6 (l.take n):=by
 unfold C6
 rw [List.take_add_one,h,List.filter_append]
 simp [hz]
theorem EV (l:List Int):C6 (l.take 0)=[]:=rfl
theorem TX {l:List (Int × List Int)} {m:Nat} {z:Int × List Int} (h:l[m]? =some z):F9 (l.take (m + 1))=F9 (l.take m)++C6 z.2:=by
 unfold F9
 rw [List.take_add_one,h,List.flatMap_append]
 simp
theorem JP (l:List Int):(C6 l).length≤l.length:=List.length_filter_le _ _
theorem NU {l:List (Int × List Int)} {m n:Nat} {z:Int × List Int} (h:l[m]? =some z):(F9 (l.take m)).length +(C6 (z.2.take n)).length≤(F9 l).length:=by
 have h1:F9 l=F9 (l.take (m + 1))++F9 (l.drop (m + 1)):=by unfold F9;rw [← List.flatMap_append,List.take_append_drop]
 have h2:C6 z.2=C6 (z.2.take n)++C6 (z.2.drop n):=by unfold C6;rw [← List.filter_append,List.take_append_drop]
 rw [h1,TX h,h2]
 simp only [List.length_append]
 omega
theorem H7 (l:List (Int × List Int)):(F9 l).length≤l7 (fun x=>x.2.length) l:=by
 unfold l7
 induction l with
 | nil=>simp [F9]
 | cons a l ih=>
  have:=JP a.2
  simp only [F9,List.flatMap_cons,List.length_append,List.map_cons,List.sum_cons,List.length_cons] at ih ⊢
  omega
theorem jX {l:List (Int × List Int)} {m:Nat} (h:l.length≤m):F9 (l.take m)=F9 l:=by rw [List.take_of_length_le h]
theorem lT:∀(l:List Int) (x:Int) (m:Nat),(∀j y,j < m→l[j]? =some y→y < x)→m≤l.length→(∀y,l[m]? =some y→¬y < x)→U3 l x=if l[m]? =some x then l else l.take m++x::l.drop m
 | [],x,m,_,h2,_=>by
  have:m=0:=by simpa using h2
  subst this
  simp [U3]
 | y::l,x,0,_,_,h3=>by
  have h3:=h3 y rfl
  unfold U3
  rw [if_neg h3]
  simp only [List.getElem?_cons_zero,Option.some.injEq,List.take_zero,List.drop_zero,List.nil_append]
 | y::l,x,m + 1,h1,h2,h3=>by
  have h0:=h1 0 y (by omega) rfl
  unfold U3
  rw [if_pos h0,lT l x m (fun j z hj hz=>h1 (j + 1) z (by omega) hz) (by simpa using h2) (fun z hz=>h3 z hz)]
  simp only [List.getElem?_cons_succ,List.take_succ_cons,List.drop_succ_cons,List.cons_append]
  split <;> rfl
theorem CU {l:List Int} {x y:Int} {m:Nat} (h1:∀j y,j < m→l[j]? =some y→y < x)(hy:l[m]? =some y)(e:y=x):U3 l x=l:=by
 subst e
 rw [lT l y m h1 (by have:=(List.getElem?_eq_some_iff.1 hy).1;omega) (fun z hz=>by rw [hy] at hz;cases hz;omega),if_pos hy]
theorem wW {l:List Int} {x:Int} {m:Nat} (h1:∀j y,j < m→l[j]? =some y→y < x)(h2:m≤l.length)(h3:∀y,l[m]? =some y→x < y):U3 l x=l.take m++x::l.drop m:=by
 rw [lT l x m h1 h2 (fun y hy=>by have:=h3 y hy;omega),if_neg (fun e=>by have:=h3 x e;omega)]
theorem cI {l:List Int} {x z:Int} {m n:Nat} (h:∀j y,j < m→l[j]? =some y→y < x)(hz:l[n]? =some z)(e:n=m)(hx:z < x):∀j y,j < m + 1→l[j]? =some y→y < x:=by
 intro j y hj hy
 by_cases q:j < m
 ·exact h j y q hy
 ·obtain rfl:j=m:=by omega
  subst e
  rw [hz] at hy
  cases hy
  exact hx
theorem cJ {l:List (Int × List Int)} {m:Nat} (h:m < l.length):l[m]? =some (l.getD m (0,[])):=by simp [h]
def kZ (l:List Int) (x:Int):Bool:=l.any fun y=>decide (y=x)
theorem CK {l:List Int} {x:Int}:decide (0≤V1 (CS x) l)=kZ l x:=eZ
end Go.Eng

set_option linter.unusedVariables false
set_option linter.unusedSimpArgs false
namespace Go.Eng
open Go Go.RowKit
abbrev V9:=List (List UInt8 × Int × Bool)
abbrev p9:=List (Int × List Int)
def G7 (rs:V9):Int × List Int→Bool:=fun x=>!F5 rs x.1 x.2
def I2 (rs:V9):Int × List Int→Bool:=fun x=>match rs[x.1.toNat]? with | some y=>y.2.2 | none=>false
def I7 (rs:V9) (l:p9) (most:Int):Bool:=decide (1≤(l.length:Int)∧(l.length:Int)≤most)&&!l.any (G7 rs)
def D6 (rs:V9) (b h:p9) (e:Bool) (lv rv:Int):Bool:=
 I7 rs b 2&&(if e=true then decide (h.length=0)&&(decide (lv < rv)&&(kZ (G9 (F9 b)) lv&&kZ (G9 (F9 b)) rv))
  else I7 rs h 2&&(decide (lv=0)&&(decide (rv=0)&&!h.any (I2 rs))))
theorem B3 {rs:V9} {r:Int} {ts:List Int} (h:F5 rs r ts=true):S5 rs=true∧0≤r∧r < rs.length∧ts.length≤3∧∃x,rs[r.toNat]? =some x∧(ts.length:Int)=x.2.1:=by
 unfold F5 at h
 simp only [Bool.and_eq_true,decide_eq_true_eq] at h
 obtain⟨h1,⟨h2,h3⟩,h4,_⟩:=h
 cases hx:rs[r.toNat]? with
 | none=>rw [hx] at h4;cases h4
 | some x=>
  rw [hx] at h4
  have h4:((ts.length:Nat):Int)=x.2.1:=by simpa using h4
  refine⟨h1,h2,by omega,?_,x,rfl,h4⟩
  unfold S5 at h1
  simp only [Bool.and_eq_true,decide_eq_true_eq] at h1
  have h5:=h1.1 r.toNat (by omega)
  unfold R3 at h5
  rw [hx] at h5
  simp only [Bool.and_eq_true] at h5
  have h6:=h5.1
  unfold I1 at h6
  simp only [Bool.and_eq_true,decide_eq_true_eq] at h6
  omega
theorem bZ {rs:V9} {l:p9} {most:Int} (h:I7 rs l most=true):1≤l.length∧(l.length:Int)≤most∧∀x∈l,F5 rs x.1 x.2=true:=by
 unfold I7 at h
 simp only [Bool.and_eq_true,decide_eq_true_eq,Bool.not_eq_true',List.any_eq_false] at h
 refine⟨by omega,h.1.2,fun x hx=>?_⟩
 have:=h.2 x hx
 simpa [G7] using this
theorem HM {rs:V9} {l:p9} {most:Int} (h:I7 rs l most=true) {x:Int × List Int} (hx:x∈l):0≤x.1∧x.1 < rs.length:=by
 have:=B3 ((bZ h).2.2 x hx)
 exact⟨this.2.1,this.2.2.1⟩
theorem LQ {rs:V9} {r:Int} {ts:List Int} (h:F5 rs r ts=true):0≤r∧r < rs.length:=⟨(B3 h).2.1,(B3 h).2.2.1⟩
theorem B8 {rs:V9} {r:Int} {ts:List Int} {x:List UInt8 × Int × Bool} (h:rs[r.toNat]? =some x):I2 rs (r,ts)=x.2.2:=by unfold I2;rw [h]
end Go.Eng

set_option linter.unusedVariables false
set_option linter.unusedSimpArgs false
namespace Go.Eng
open Go Go.RowKit
abbrev AN:=p9 × p9 × Bool × Int × Int
end Go.Eng

set_option linter.unusedVariables false
set_option linter.unusedSimpArgs false
namespace Go.Eng
open Go Go.RowKit
section rules
variable {cx:Cx} {s:St} {k:List Item} {R:Ending→World→Prop} {ops:Array Oper} {rest:List Oper} {dst:Option Nat} {ty:TypeId} {pos:String} {aft:Array Edge}
theorem nN {t yt:TypeId} {x:Operand} {r:Option Nat} {α:Type} {sz:Nat} {enc:α→Nat→T} {xs:List α} (hd:Q6 dst cx.n=true)(ht:MT cx.P t=true)(hx:s.ev x=some (.c (.t r (.sl sz enc xs))))
  (h1:xs=[]→Wr cx (s.sets dst (some (sc (.bool true)))) ops rest k R) (h2:Wr cx (s.sets dst (some (sc (.bool false)))) ops rest k R):
  Wr cx s ops (⟨dst,.binOp .eql t x (.const (.slice none 0 0)) yt,ty,pos,aft,none⟩::rest) k R:=by
 intro a w hg
 refine wpList_plain rfl fun K hK=>?_
 obtain⟨E,S,hI,hT,hn,hdf⟩:=hg
 obtain⟨e,he⟩:=oP ht
 obtain⟨_,A,cap,hu,hc,hr⟩:=J9 hT hx
 have hrun:(execOp a.eval ⟨dst,.binOp .eql t x (.const (.slice none 0 0)) yt,ty,pos,aft,none⟩).run cx.P w= .ok (.value (.bool A.isNone)) w:=by
  simp only [execOp,hu]
  have e1:(eqGuard .eql t x (.const (.slice none 0 0)) (.slice A xs.length cap) (a.eval (.const (.slice none 0 0)))).run cx.P w= .ok () w:=rfl
  have e2:(binOp .eql t (.slice A xs.length cap) (a.eval (.const (.slice none 0 0)))).run cx.P w= .ok (.bool A.isNone) w:=Go.Lib.run_eql_slice_nil w t e A _ _ 0 0 he
  rw [Sem.run_bind,Sem.run_bind,e1,Result.andThen_ok,e2]
  rfl
 have fin:∀b:Bool,Gm cx (s.sets dst (some (sc (.bool b)))) (a.put dst (.bool b)) w:=fun b=>
  ⟨E,S,by rw [B7,A7];exact hI,I8 hd hn hT (fun v' e=>by cases e;exact D2 rfl),by rw [P8];exact hn,by rw [put_defers];exact hdf⟩
 unfold Oper.wp
 rw [hrun]
 cases A with
 | none=>
  have:xs=[]:=by
   cases xs with
   | nil=>rfl
   | cons y ys=>
    obtain⟨ad,h,_⟩:=hr 0 y rfl
    cases h
  exact hK _ _ (h1 this _ _ (fin true))
 | some ad=>exact hK _ _ (h2 _ _ (fin false))
theorem WH {t t':TypeId} {x y:Operand} {kk:IntKind} {a b:Int} (hx:s.ev x=some (sc (.int kk a)))(hy:s.ev y=some (sc (.int kk b))):
  Ps cx s (.call {callee:=.builtin .min,args:=#[x,y],argTypes:=#[t,t']}) (sc (.int kk (if b < a then b else a))):=
 fun A w E S hI hT=>by
  refine⟨_,fun w' hW _ _ _ _ _=>?_,D2 rfl⟩
  have hm:Array.map A.eval #[x,y]=#[.int kk a,.int kk b]:=by simp [Z8 (J9 hT hx),Z8 (J9 hT hy)]
  simp only [execOp,resolve,invoke,builtin,hm,Sem.run_bind,Sem.run_pure,Result.andThen_ok]
  rw [run_min_int2]
  rfl
theorem rN {t t':TypeId} {x y:Operand} {kk:IntKind} {a b:Int} (hd:Q6 dst cx.n=true)(hx:s.ev x=some (sc (.int kk a)))(hy:s.ev y=some (sc (.int kk b))):
  Os cx s ⟨dst,.call {callee:=.builtin .min,args:=#[x,y],argTypes:=#[t,t']},ty,pos,aft,none⟩ (s.sets dst (some (sc (.int kk (if b < a then b else a))))) true:=C8 hd (WH hx hy)
theorem ZH {t t':TypeId} {x y:Operand} {kk:IntKind} {a b:Int} (hx:s.ev x=some (sc (.int kk a)))(hy:s.ev y=some (sc (.int kk b))):
  Ps cx s (.call {callee:=.builtin .max,args:=#[x,y],argTypes:=#[t,t']}) (sc (.int kk (if a < b then b else a))):=
 fun A w E S hI hT=>by
  refine⟨_,fun w' hW _ _ _ _ _=>?_,D2 rfl⟩
  have hm:Array.map A.eval #[x,y]=#[.int kk a,.int kk b]:=by simp [Z8 (J9 hT hx),Z8 (J9 hT hy)]
  simp only [execOp,resolve,invoke,builtin,hm,Sem.run_bind,Sem.run_pure,Result.andThen_ok]
  rw [run_max_int2]
  rfl
theorem hN {t t':TypeId} {x y:Operand} {kk:IntKind} {a b:Int} (hd:Q6 dst cx.n=true)(hx:s.ev x=some (sc (.int kk a)))(hy:s.ev y=some (sc (.int kk b))):
  Os cx s ⟨dst,.call {callee:=.builtin .max,args:=#[x,y],argTypes:=#[t,t']},ty,pos,aft,none⟩ (s.sets dst (some (sc (.int kk (if a < b then b else a))))) true:=C8 hd (ZH hx hy)
end rules
section
variable {l:List Int} {f:Int→Int} {m:Nat} {z:Int}
end
end Go.Eng
