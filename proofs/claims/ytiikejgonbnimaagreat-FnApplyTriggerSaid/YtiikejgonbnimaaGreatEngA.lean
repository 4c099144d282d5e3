import Derived.Below
import Derived.Deep.Draws
import Derived.OwnWalk
import Derived.Laws.BytesArg
import Derived.Laws.MakeOwn
import Derived.Laws.OwnMore
import Derived.Deep.OwnRows
import Derived.Tactics
import Derived.WalkKit
import Derived.KernelRfl
import Derived.RowKit3
import Derived.RowKit
import Derived.Laws.Rows
import Derived.Deep.Quiet
import Derived.Lib.ConvBytes
import Derived.Great.BuildSlice
import Derived.Shelf.Abstract
import Derived.Maps.AppendAt
set_option linter.unusedVariables false
set_option linter.unusedSimpArgs false
namespace Go.Eng
open Go Go.RowKit

inductive T:Type 1
 | v (x:Value)
 | ab (Q:Value→List (Nat × Obj)→Prop)
 | sl {α:Type} (sz:Nat) (enc:α→Nat→T) (xs:List α)

def Rd (w:World) (S:Nat→Prop):T→Value→Prop
 | .v x,u=>u=x∧x.oneCell'=true
 | .ab Q,u=>u.oneCell'=true∧∃l,Q u l∧∀p∈l,S p.1∧w.heap[p.1]? =some p.2
 | .sl sz enc xs,u=>∃A cap,u= .slice A xs.length cap∧xs.length≤cap∧∀i x,xs[i]? =some x→∃ad:Addr,A=some ad∧S ad.block∧∀j,j < sz→∃u',w.cell? (ad.add (i * sz + j))=some u'∧Rd w S (enc x j) u'

theorem E3 (ad:Addr)(n:Nat):(ad.add n).block=ad.block:=by unfold Addr.add;split <;> rfl
theorem X1 {w w':World} {a:Addr} (h:w'.heap[a.block]? =w.heap[a.block]?):w'.cell? a=w.cell? a:=World.cell?_of_block h

theorem Rd.move {w w':World} {S S':Nat→Prop} (hS:∀k,S k→S' k)(hw:∀k,S k→w'.heap[k]? =w.heap[k]?):∀(t:T) (u:Value),Rd w S t u→Rd w' S' t u
 | .v x,u,h=>h
 | .ab Q,u,h=>by
  obtain⟨h1,l,h2,h3⟩:=h
  exact⟨h1,l,h2,fun p hp=>⟨hS _ (h3 p hp).1,(hw _ (h3 p hp).1).trans (h3 p hp).2⟩⟩
 | .sl sz enc xs,u,h=>by
  obtain⟨A,cap,rfl,hc,h⟩:=h
  refine⟨A,cap,rfl,hc,fun i x hx=>?_⟩
  obtain⟨ad,rfl,hs,h⟩:=h i x hx
  refine⟨ad,rfl,hS _ hs,fun j hj=>?_⟩
  obtain⟨u',h1,h2⟩:=h j hj
  exact⟨u',by rw [X1 (hw _ (by rw [E3];exact hs))];exact h1,Rd.move hS hw _ _ h2⟩
theorem Rd.one {w:World} {S:Nat→Prop}:∀ {t:T} {u:Value},Rd w S t u→u.oneCell'=true
 | .v x,u,h=>by rw [h.1];exact h.2
 | .ab Q,u,h=>h.1
 | .sl sz enc xs,u,h=>by obtain⟨A,cap,rfl,_⟩:=h;rfl

def Ow (w:World):T→Value→(Nat→Prop)→Prop
 | .v x,u,_=>u=x∧x.oneCell'=true
 | .ab Q,u,F=>u.oneCell'=true∧∃l,Q u l∧∀p∈l,F p.1∧w.heap[p.1]? =some p.2
 | .sl sz enc xs,u,F=>∃e cells,∃G:Nat→Nat→Nat→Prop,w.ownsRow 0 e sz u xs.length cells∧(∀g,u.ownBlock=some g→F g)∧(∀i j k,G i j k→F k∧u.ownBlock≠some k)∧(∀i j i' j' k,G i j k→G i' j' k→i=i'∧j=j')∧∀i x,xs[i]? =some x→∀j,j < sz→∃u',cells[i * sz + j]? =some u'∧Ow w (enc x j) u' (G i j)
def AP (w:World) (e:Nat) {α:Type} (sz:Nat) (enc:α→Nat→T) (xs:List α) (u:Value) (F:Nat→Prop):Prop:=
 ∃cells,∃G:Nat→Nat→Nat→Prop,w.ownsRow 0 e sz u xs.length cells∧(∀g,u.ownBlock=some g→F g)∧(∀i j k,G i j k→F k∧u.ownBlock≠some k)∧(∀i j i' j' k,G i j k→G i' j' k→i=i'∧j=j')∧∀i x,xs[i]? =some x→∀j,j < sz→∃u',cells[i * sz + j]? =some u'∧Ow w (enc x j) u' (G i j)
theorem MI {w:World} {α:Type} {sz:Nat} {enc:α→Nat→T} {xs:List α} {u:Value} {F:Nat→Prop}:Ow w (.sl sz enc xs) u F↔∃e,AP w e sz enc xs u F:=Iff.rfl
def Ro (w:World) (S:Nat→Prop) (e:Nat) {α:Type} (sz:Nat) (enc:α→Nat→T) (xs:List α) (u:Value) (F:Nat→Prop):Prop:=
 ∃cells,w.ownsRow 0 e sz u xs.length cells∧(∀g,u.ownBlock=some g→F g)∧∀i x,xs[i]? =some x→∀j,j < sz→∃u',cells[i * sz + j]? =some u'∧Rd w S (enc x j) u'

theorem VW {w w':World} {e:TypeId} {size n:Nat} {v:Value} {xs:List Value} (h:w.ownsRow 0 e size v n xs)(hm:∀k,v.ownBlock=some k→w'.heap[k]? =w.heap[k]?):w'.ownsRow 0 e size v n xs:=by
 obtain⟨h1,h2⟩:=h
 refine⟨h1,?_⟩
 rcases h2 with h2 | ⟨g,cap,cur,rfl,hg,hh,r⟩
 ·exact .inl h2
 ·exact .inr ⟨g,cap,cur,rfl,hg,(hm g (by simp [Value.ownBlock])).trans hh,r⟩
theorem Ow.move {w w':World}:∀(t:T) (u:Value) {F F':Nat→Prop},(∀k,F k→F' k)→(∀k,F k→w'.heap[k]? =w.heap[k]?)→Ow w t u F→Ow w' t u F'
 | .v x,u,F,F',hF,hw,h=>h
 | .ab Q,u,F,F',hF,hw,h=>by
  obtain⟨h1,l,h2,h3⟩:=h
  exact⟨h1,l,h2,fun p hp=>⟨hF _ (h3 p hp).1,(hw _ (h3 p hp).1).trans (h3 p hp).2⟩⟩
 | .sl sz enc xs,u,F,F',hF,hw,h=>by
  obtain⟨e,cells,G,ho,hf,hg,hd,h⟩:=h
  refine⟨e,cells,G,VW ho (fun k hk=>hw k (hf k hk)),fun g q=>hF _ (hf g q),fun i j k q=>⟨hF _ (hg i j k q).1,(hg i j k q).2⟩,hd,fun i x hx j hj=>?_⟩
  obtain⟨u',h1,h2⟩:=h i x hx j hj
  exact⟨u',h1,Ow.move _ _ (fun _ q=>q) (fun k q=>hw k (hg i j k q).1) h2⟩
theorem Ro.move {w w':World} {S S' F F':Nat→Prop} {e:Nat} {α:Type} {sz:Nat} {enc:α→Nat→T} {xs:List α} {u:Value} (hS:∀k,S k→S' k)(hw:∀k,S k→w'.heap[k]? =w.heap[k]?)(hF:∀k,F k→F' k)(hw2:∀k,F k→w'.heap[k]? =w.heap[k]?)(h:Ro w S e sz enc xs u F):Ro w' S' e sz enc xs u F':=by
 obtain⟨cells,ho,hf,h⟩:=h
 refine⟨cells,VW ho (fun k hk=>hw2 k (hf k hk)),fun g q=>hF _ (hf g q),fun i x hx j hj=>?_⟩
 obtain⟨u',h1,h2⟩:=h i x hx j hj
 exact⟨u',h1,Rd.move hS hw _ _ h2⟩
theorem AP.move {w w':World} {e:Nat} {α:Type} {sz:Nat} {enc:α→Nat→T} {xs:List α} {u:Value} {F F':Nat→Prop} (hF:∀k,F k→F' k)(hw:∀k,F k→w'.heap[k]? =w.heap[k]?)(h:AP w e sz enc xs u F):AP w' e sz enc xs u F':=by
 obtain⟨cells,G,ho,hf,hg,hd,h⟩:=h
 refine⟨cells,G,VW ho (fun k hk=>hw k (hf k hk)),fun g q=>hF _ (hf g q),fun i j k q=>⟨hF _ (hg i j k q).1,(hg i j k q).2⟩,hd,fun i x hx j hj=>?_⟩
 obtain⟨u',h1,h2⟩:=h i x hx j hj
 exact⟨u',h1,Ow.move _ _ (fun _ q=>q) (fun k q=>hw k (hg i j k q).1) h2⟩
theorem LY {w:World} {e:TypeId} {size n:Nat} {v:Value} {xs:List Value} (h:w.ownsRow 0 e size v n xs):∃A cap,v= .slice A n cap∧n≤cap∧∀q u,xs[q]? =some u→∃g,A=some ⟨g,0,none⟩∧v.ownBlock=some g∧w.cell? ((⟨g,0,none⟩:Addr).add q)=some u:=by
 have hc:=h
 obtain⟨h1,h2⟩:=h
 rcases h2 with⟨rfl,rfl⟩ | ⟨g,cap,cur,rfl,hg,hh,hn,hm,hs,ht⟩
 ·refine⟨none,0,rfl,Nat.le_refl _,fun q u hq=>?_⟩
  have:xs=[]:=List.eq_nil_of_length_eq_zero (by simpa using h1)
  subst this
  simp at hq
 ·exact⟨_,cap,rfl,hn,fun q u hq=>⟨g,rfl,rfl,World.ownsRow.cells hc (g:=g) rfl q u hq⟩⟩
theorem Ow.rd {w:World}:∀(t:T) (u:Value) {F:Nat→Prop},Ow w t u F→Rd w F t u
 | .v x,u,F,h=>h
 | .ab Q,u,F,h=>h
 | .sl sz enc xs,u,F,h=>by
  obtain⟨e,cells,G,ho,hf,hg,hd,h⟩:=h
  obtain⟨A,cap,hu,hc,hr⟩:=LY ho
  refine⟨A,cap,hu,hc,fun i x hx=>?_⟩
  by_cases hz:0 < sz
  ·obtain⟨u0,h0,_⟩:=h i x hx 0 hz
   obtain⟨g,hA,hb,_⟩:=hr _ _ h0
   refine⟨⟨g,0,none⟩,hA,hf g hb,fun j hj=>?_⟩
   obtain⟨u',h1,h2⟩:=h i x hx j hj
   obtain⟨g',hA',_,hcell⟩:=hr _ _ h1
   rw [hA] at hA'
   cases hA'
   exact⟨u',hcell,Rd.move (fun k q=>(hg i j k q).1) (fun _ _=>rfl) _ _ (Ow.rd _ _ h2)⟩
  ·cases A with
   | none=>
    have hl:=ho.2
    rcases hl with⟨rfl,hn⟩ | ⟨g,cap',cur,rfl,_⟩
    ·have:xs=[]:=List.eq_nil_of_length_eq_zero hn
     subst this
     simp at hx
    ·cases hu
   | some ad=>
    subst hu
    refine⟨ad,rfl,hf _ rfl,fun j hj=>absurd hj (by omega)⟩

inductive AC:Type 1
 | top
 | t (r:Option Nat) (x:T)
 | ptr (i o:Nat)
 | own (i:Nat)
 | bsl (i n:Nat)
 | pel (r:Option Nat) (c:Nat→T) (m:Nat)
 | poe (i e sz o:Nat)
 | clo (f:Nat) (caps:List (Nat × Nat))
 | fv (f:Nat) (cs:List ((Nat→T) × Nat))
 | cel (i e sz o:Nat)
 | vw (i off n sz:Nat)
inductive AV:Type 1
 | c (a:AC)
 | agg (cs:List AC)
 | tup (vs:List (Bool × List AC))
inductive Ob:Type 1
 | box (cells:List AC)
 | row {α:Type} (pn:Option Value) (e:Nat) (deep:Bool) (sz:Nat) (enc:α→Nat→T) (xs:List α)
 | pbox (v:Value) (cells:List AC)
 | bag (x:T)
structure St:Type 1 where
 tm:List (Nat × Option AV)
 ob:List (Nat × Option Ob)
 nx:Nat
structure EE where
 u:Value
 F:Nat→Prop
 live:Prop
 rd:Prop

def y9 {β:Type 1}:List (Nat × Option β)→Nat→Option β
 | [],_=>none
 | (k,v)::r,t=>cond (Nat.beq k t) v (y9 r t)

def NV (E:Nat→EE) (i o:Nat) (u:Value):Prop:=(E i).live∧∃g,(E i).u= .pointer (some ⟨g,0,none⟩)∧u= .pointer (some ⟨g,o,none⟩)
def place (E:Nat→EE) (S:Nat→Prop):Option Nat→Nat→Prop
 | none=>S
 | some i=>(E i).F
def TO (E:Nat→EE):Option Nat→Prop
 | none=>True
 | some i=>(E i).live∧(E i).rd
def S6 (E:Nat→EE) (S:Nat→Prop) (w:World):AC→Value→Prop
 | .top,u=>u.oneCell'=true
 | .t r x,u=>TO E r∧Rd w (place E S r) x u
 | .ptr i o,u=>NV E i o u
 | .own i,u=>(E i).live∧u=(E i).u∧u.oneCell'=true
 | .bsl i n,u=>(E i).live∧∃g,(E i).u= .pointer (some ⟨g,0,none⟩)∧u= .slice (some ⟨g,0,none⟩) n n
 | .pel r c m,u=>TO E r∧∃ad:Addr,u= .pointer (some ad)∧place E S r ad.block∧∀j,j < m→∃u',w.cell? (ad.add j)=some u'∧Rd w (place E S r) (c j) u'
 | .poe i e sz o,u=>(E i).live∧∃g n cap,(E i).u= .slice (some ⟨g,0,none⟩) n cap∧u= .pointer (some ⟨g,e * sz + o,none⟩)
 | .clo f caps,u=>∃us:List Value,u= .func (.func f) #[] us.toArray∧us.length=caps.length∧∀(j:Nat) (p:Nat × Nat),caps[j]? =some p→∃u',us[j]? =some u'∧NV E p.1 p.2 u'
 | .cel i e sz o,u=>((E i).live∧(E i).rd)∧u.oneCell'=true∧∃g n cap,(E i).u= .slice (some ⟨g,0,none⟩) n cap∧(E i).F g∧w.cell? ⟨g,e * sz + o,none⟩=some u
 | .vw i off n sz,u=>(E i).live∧∃g m cap cap',(E i).u= .slice (some ⟨g,0,none⟩) m cap∧u= .slice (some ⟨g,off * sz,none⟩) n cap'∧off + cap'=cap
 | .fv f cs,u=>∃us:List Value,u= .func (.func f) #[] us.toArray∧us.length=cs.length∧∀(j:Nat) (p:(Nat→T) × Nat),cs[j]? =some p→∃ad:Addr,us[j]? =some (.pointer (some ad))∧S ad.block∧∀q,q < p.2→∃u',w.cell? (ad.add q)=some u'∧Rd w S (p.1 q) u'
def r6 (E:Nat→EE) (S:Nat→Prop) (w:World) (cs:List AC) (us:List Value):Prop:=
 us.length=cs.length∧∀(j:Nat) (c:AC),cs[j]? =some c→∃u',us[j]? =some u'∧S6 E S w c u'
def KW (E:Nat→EE) (S:Nat→Prop) (w:World) (b:Bool) (cs:List AC) (u:Value):Prop:=
 if b=true then∃us:List Value,u= .agg us.toArray∧r6 E S w cs us else r6 E S w cs [u]
def M6 (E:Nat→EE) (S:Nat→Prop) (w:World):AV→Value→Prop
 | .c a,u=>S6 E S w a u
 | .agg cs,u=>∃us:List Value,u= .agg us.toArray∧r6 E S w cs us
 | .tup vs,u=>∃us:List Value,u= .tuple us.toArray∧us.length=vs.length∧∀(j:Nat) (b:Bool) (cs:List AC),vs[j]? =some (b,cs)→∃u',us[j]? =some u'∧KW E S w b cs u'

theorem S6.one {E:Nat→EE} {S:Nat→Prop} {w:World} {a:AC} {u:Value} (h:S6 E S w a u):u.oneCell'=true:=by
 cases a with
 | top=>exact h
 | t r x=>exact Rd.one h.2
 | ptr i o=>obtain⟨_,g,_,rfl⟩:=h;rfl
 | own i=>exact h.2.2
 | bsl i n=>obtain⟨_,g,_,rfl⟩:=h;rfl
 | pel r c m=>obtain⟨_,ad,rfl,_⟩:=h;rfl
 | poe i e sz o=>obtain⟨_,g,n,cap,_,rfl⟩:=h;rfl
 | clo f caps=>obtain⟨us,rfl,_⟩:=h;rfl
 | fv f cs=>obtain⟨us,rfl,_⟩:=h;rfl
 | cel i e sz o=>exact h.2.1
 | vw i off n sz=>obtain⟨_,g,m,cap,cap',_,rfl,_⟩:=h;rfl

def AC.reads (i:Nat):AC→Bool
 | .t (some k) _ | .pel (some k) _ _ | .cel k _ _ _=>Nat.beq k i
 | _=>false
def AC.names (i:Nat):AC→Bool
 | .ptr k _ | .own k | .bsl k _ | .poe k _ _ _ | .cel k _ _ _ | .vw k _ _ _ | .t (some k) _ | .pel (some k) _ _=>Nat.beq k i
 | .clo _ caps=>caps.any fun p=>Nat.beq p.1 i
 | _=>false
def AC.lt (n:Nat):AC→Bool
 | .ptr k _ | .own k | .bsl k _ | .poe k _ _ _ | .cel k _ _ _ | .vw k _ _ _ | .t (some k) _ | .pel (some k) _ _=>Nat.blt k n
 | .clo _ caps=>caps.all fun p=>Nat.blt p.1 n
 | _=>true
def AC.cut (p:AC→Bool) (a:AC):AC:=cond (p a) .top a
def AV.cut (p:AC→Bool):AV→AV
 | .c a=> .c (a.cut p)
 | .agg cs=> .agg (cs.map (AC.cut p))
 | .tup vs=> .tup (vs.map fun x=>(x.1,x.2.map (AC.cut p)))
def AV.all (p:AC→Bool):AV→Bool
 | .c a=>p a
 | .agg cs=>cs.all p
 | .tup vs=>vs.all fun x=>x.2.all p
def Ob.cut (p:AC→Bool):Ob→Ob
 | .box cs=> .box (cs.map (AC.cut p))
 | .pbox v cs=> .pbox v (cs.map (AC.cut p))
 | o=>o
def Ob.all (p:AC→Bool):Ob→Bool
 | .box cs=>cs.all p
 | .pbox _ cs=>cs.all p
 | _=>true

structure Carry (E E':Nat→EE) (S S':Nat→Prop) (w w':World) (p:AC→Bool):Prop where
 sub:∀k,S k→S' k
 keep:∀k,S k→w'.heap[k]? =w.heap[k]?
 place:∀a,p a=false→∀i,a.names i=true→(E i).live→(E' i).live∧(E' i).u=(E i).u
 reads:∀a,p a=false→∀i,a.reads i=true→(E i).live∧(E i).rd→((E' i).live∧(E' i).rd)∧(∀k,(E i).F k→(E' i).F k)∧∀k,(E i).F k→w'.heap[k]? =w.heap[k]?

theorem Carry.c {E E':Nat→EE} {S S':Nat→Prop} {w w':World} {p:AC→Bool} (h:Carry E E' S S' w w' p) {a:AC} {u:Value} (hd:S6 E S w a u):S6 E' S' w' (a.cut p) u:=by
 unfold AC.cut
 cases hp:p a
 ·have hpl:=h.place a hp
  have hrd:=h.reads a hp
  cases a with
  | top=>exact hd
  | t r x=>
   obtain⟨hl,hd⟩:=hd
   cases r with
   | none=>exact⟨trivial,Rd.move h.sub h.keep _ _ hd⟩
   | some i=>
    obtain⟨h1,h2,h3⟩:=hrd i (by simp [AC.reads]) hl
    exact⟨h1,Rd.move h2 h3 _ _ hd⟩
  | ptr i o=>
   obtain⟨hl,g,h1,rfl⟩:=hd
   obtain⟨q1,q2⟩:=hpl i (by simp [AC.names]) hl
   exact⟨q1,g,q2.trans h1,rfl⟩
  | own i=>
   obtain⟨q1,q2⟩:=hpl i (by simp [AC.names]) hd.1
   exact⟨q1,hd.2.1.trans q2.symm,hd.2.2⟩
  | bsl i n=>
   obtain⟨hl,g,h1,rfl⟩:=hd
   obtain⟨q1,q2⟩:=hpl i (by simp [AC.names]) hl
   exact⟨q1,g,q2.trans h1,rfl⟩
  | pel r c m=>
   obtain⟨hl,ad,rfl,hs,hd⟩:=hd
   cases r with
   | none=>
    refine⟨trivial,ad,rfl,h.sub _ hs,fun j hj=>?_⟩
    obtain⟨u',h1,h2⟩:=hd j hj
    exact⟨u',by rw [X1 (h.keep _ (by rw [E3];exact hs))];exact h1,Rd.move h.sub h.keep _ _ h2⟩
   | some i=>
    obtain⟨q1,q2,q3⟩:=hrd i (by simp [AC.reads]) hl
    refine⟨q1,ad,rfl,q2 _ hs,fun j hj=>?_⟩
    obtain⟨u',h1,h2⟩:=hd j hj
    exact⟨u',by rw [X1 (q3 _ (by rw [E3];exact hs))];exact h1,Rd.move q2 q3 _ _ h2⟩
  | poe i e sz o=>
   obtain⟨hl,g,n,cap,h1,rfl⟩:=hd
   obtain⟨q1,q2⟩:=hpl i (by simp [AC.names]) hl
   exact⟨q1,g,n,cap,q2.trans h1,rfl⟩
  | vw i off n sz=>
   obtain⟨hl,g,m,cap,cap',h1,h2,h3⟩:=hd
   obtain⟨q1,q2⟩:=hpl i (by simp [AC.names]) hl
   exact⟨q1,g,m,cap,cap',q2.trans h1,h2,h3⟩
  | cel i e sz o=>
   obtain⟨hl,h1,g,n,cap,h2,h3,h4⟩:=hd
   obtain⟨q1,q2,q3⟩:=hrd i (by simp [AC.reads]) hl
   obtain⟨_,q5⟩:=hpl i (by simp [AC.names]) hl.1
   exact⟨q1,h1,g,n,cap,q5.trans h2,q2 _ h3,by rw [X1 (q3 _ h3)];exact h4⟩
  | fv f cs=>
   obtain⟨us,rfl,hl,hd⟩:=hd
   refine⟨us,rfl,hl,fun j q hq=>?_⟩
   obtain⟨ad,h1,h2,h3⟩:=hd j q hq
   refine⟨ad,h1,h.sub _ h2,fun i hi=>?_⟩
   obtain⟨u',e1,e2⟩:=h3 i hi
   exact⟨u',by rw [X1 (h.keep _ (by rw [E3];exact h2))];exact e1,Rd.move h.sub h.keep _ _ e2⟩
  | clo f caps=>
   obtain⟨us,rfl,hl,hd⟩:=hd
   refine⟨us,rfl,hl,fun j q hq=>?_⟩
   obtain⟨u',h1,hlv,g,h2,h3⟩:=hd j q hq
   have hn:(AC.clo f caps).names q.1=true:=by
    simp only [AC.names,List.any_eq_true]
    exact⟨q,List.mem_of_getElem? hq,by simp⟩
   obtain⟨q1,q2⟩:=hpl q.1 hn hlv
   exact⟨u',h1,q1,g,q2.trans h2,h3⟩
 ·exact hd.one
theorem Carry.l {E E':Nat→EE} {S S':Nat→Prop} {w w':World} {p:AC→Bool} (h:Carry E E' S S' w w' p) {cs:List AC} {us:List Value} (hd:r6 E S w cs us):r6 E' S' w' (cs.map (AC.cut p)) us:=by
 refine⟨by rw [hd.1,List.length_map],fun j c hc=>?_⟩
 rw [List.getElem?_map] at hc
 obtain⟨c0,h0,rfl⟩:=Option.map_eq_some_iff.mp hc
 obtain⟨u',h1,h2⟩:=hd.2 j c0 h0
 exact⟨u',h1,h.c h2⟩
theorem Carry.v {E E':Nat→EE} {S S':Nat→Prop} {w w':World} {p:AC→Bool} (h:Carry E E' S S' w w' p) {a:AV} {u:Value} (hd:M6 E S w a u):M6 E' S' w' (a.cut p) u:=by
 cases a with
 | c a=>exact h.c hd
 | agg cs=>obtain⟨us,rfl,hd⟩:=hd;exact⟨us,rfl,h.l hd⟩
 | tup vs=>
  obtain⟨us,rfl,hl,hd⟩:=hd
  refine⟨us,rfl,by rw [hl,List.length_map],fun j b cs hc=>?_⟩
  rw [List.getElem?_map] at hc
  obtain⟨⟨b0,c0⟩,h0,hc⟩:=Option.map_eq_some_iff.mp hc
  cases hc
  obtain⟨u',h1,h2⟩:=hd j b0 c0 h0
  refine⟨u',h1,?_⟩
  unfold KW at *
  split
  ·rename_i hb
   rw [if_pos hb] at h2
   obtain⟨us,rfl,h2⟩:=h2
   exact⟨us,rfl,h.l h2⟩
  ·rename_i hb
   rw [if_neg hb] at h2
   exact h.l h2
theorem AC.cut_none (a:AC):a.cut (fun _=>false)=a:=rfl
theorem H3 (cs:List AC):cs.map (AC.cut fun _=>false)=cs:=by
 rw [show(AC.cut fun _=>false)=id from rfl,List.map_id]
theorem AV.cut_none (a:AV):a.cut (fun _=>false)=a:=by
 cases a with
 | c a=>rfl
 | agg cs=>simp [AV.cut,H3]
 | tup vs=>simp [AV.cut,H3]

end Go.Eng

set_option linter.unusedVariables false
set_option linter.unusedSimpArgs false
namespace Go.Eng
open Go Go.RowKit

structure Cx where
 P:Program
 f:FuncId
 n:Nat
 w0:World
 S0:Nat→Prop
 M:Nat→Prop
structure xZ (M:Nat→Prop) (w w':World):Prop where
 os:w'.os=w.os
 tape:w'.tape=w.tape
 output:w'.output=w.output
 size:w.heap.size≤w'.heap.size
 block:∀k,k < w.heap.size→¬M k→w'.heap[k]? =w.heap[k]?
theorem xZ.refl (M:Nat→Prop)(w:World):xZ M w w:=⟨rfl,rfl,rfl,Nat.le_refl _,fun _ _ _=>rfl⟩

def x6 (E:Nat→EE) (S:Nat→Prop) (w:World) (i:Nat):Ob→Prop
 | .box cells=>¬(E i).rd∧∃g e,∃cs:List Value,(E i).u= .pointer (some ⟨g,0,none⟩)∧(∀k,(E i).F k↔k=g)∧w.heap[g]? =some (.cells cs.toArray e (0,0))∧r6 E S w cells cs
 | .row pn e deep sz enc xs=>(E i).rd∧(∀v,pn=some v→(E i).u=v)∧if deep=true then AP w e sz enc xs (E i).u (E i).F else Ro w S e sz enc xs (E i).u (E i).F
 | .pbox v cells=>(E i).u=v∧¬(E i).rd∧∃g e,∃cs:List Value,(E i).u= .pointer (some ⟨g,0,none⟩)∧(∀k,(E i).F k↔k=g)∧w.heap[g]? =some (.cells cs.toArray e (0,0))∧r6 E S w cells cs
 | .bag x=>(E i).rd∧Rd w (E i).F x (E i).u

structure G6 (cx:Cx) (ob:List (Nat × Option Ob)) (nx:Nat) (E:Nat→EE) (S:Nat→Prop) (w:World):Prop where
 slt:∀k,S k→k < w.heap.size
 snew:∀k,S k→cx.S0 k∨cx.w0.heap.size≤k
 obs:∀i o,y9 ob i=some o→(E i).live∧x6 E S w i o
 dis:∀i j,i≠j→(E i).live→(E j).live→∀k,(E i).F k→¬(E j).F k
 fp:∀i,(E i).live→∀k,(E i).F k→k < w.heap.size∧¬S k∧(cx.w0.heap.size≤k∨cx.M k)
 nxt:∀i,(E i).live→i < nx
 kept:xZ cx.M cx.w0 w

def O7 (E:Nat→EE) (S:Nat→Prop) (w:World) (tm:List (Nat × Option AV)) (tmps:Array Value):Prop:=
 ∀t v,y9 tm t=some v→M6 E S w v (tmps.getD t undef)
def Gm (cx:Cx) (s:St) (a:Act) (w:World):Prop:=
 ∃E S,G6 cx s.ob s.nx E S w∧O7 E S w s.tm a.tmps∧a.tmps.size=cx.n∧a.defers=[]

def Wt (cx:Cx) (s:St) (todo:List Item) (R:Ending→World→Prop):Prop:=
 ∀a w,Gm cx s a w→∀(b:Frame) (cs:List Frame),b.fn=cx.f→b.kind= .normal→∃e w' fr,R e w'∧Comes cx.P (lone (b.at a todo) cs w) (lone fr cs w') e∧fr.fn=cx.f∧fr.leaving cx.P w' e
def Wr (cx:Cx) (s:St) (ops:Array Oper) (rest:List Oper) (k:List Item) (R:Ending→World→Prop):Prop:=
 ∀a w,Gm cx s a w→wpList cx.P ops (fun e a' w'=>e= .normal∧∃s',Gm cx s' a' w'∧Wt cx s' k R) rest a w

section code
variable {cx:Cx} {s:St} {k:List Item} {R:Ending→World→Prop}
theorem Wt.step {todo todo':List Item} (h:Wt cx s todo' R)(hs:∀(a:Act) (w:World) (b:Frame) (cs:List Frame),step cx.P (lone (b.at a todo) cs w)= .next (lone (b.at a todo') cs w)):Wt cx s todo R:=by
 intro a w hg b cs hf hk
 obtain⟨e,w',fr,hR,hc,hfr,hl⟩:=h a w hg b cs hf hk
 exact⟨e,w',fr,hR,Comes.of_steps (.one (hs a w b cs)) hc,hfr,hl⟩
theorem k9 {x y:Code} (h:Wt cx s (.code x:: .code y::k) R):Wt cx s (.code (.seq x y)::k) R:=h.step fun _ _ _ _=>step_seq
theorem m9 (h:Wt cx s k R):Wt cx s (.code .skip::k) R:=h.step fun _ _ _ _=>step_skip
theorem r9 {id:Nat} {c:Code} (h:Wt cx s (.code c:: .inBlock id::k) R):Wt cx s (.code (.block id c)::k) R:=h.step fun _ _ _ _=>step_block
theorem i9 {id:Nat} (h:Wt cx s k R):Wt cx s (.inBlock id::k) R:=h.step fun _ _ _ _=>step_inBlock
theorem R9 {id:Nat} {k':List Item} (hk:exitTo id k=some k')(h:Wt cx s k' R):Wt cx s (.code (.exit id)::k) R:=h.step fun _ _ _ _=>step_exit hk
theorem MJ {c:Code} (h:Wt cx s (.code c:: .inLoop c::k) R):Wt cx s (.inLoop c::k) R:=h.step fun _ _ _ _=>step_inLoop
theorem xJ {c:Code} (h:Wt cx s (.code c:: .inLoop c::k) R):Wt cx s (.code (.loop c)::k) R:=h.step fun _ _ _ _=>step_loop
theorem xH {ι:Type} {c:Code} (st:ι→St)(I:ι→Prop)(μ:ι→Nat)
  (round:∀x,I x→(∀y,μ y < μ x→I y→Wt cx (st y) (.inLoop c::k) R)→Wt cx (st x) (.code c:: .inLoop c::k) R) (x:ι) (hx:I x):
  Wt cx (st x) (.code (.loop c)::k) R:=by
 refine xJ ?_
 have key:∀n x,μ x=n→I x→Wt cx (st x) (.code c:: .inLoop c::k) R:=by
  intro n
  induction n using Nat.strongRecOn with
  | _ n ih=>exact fun x hn hx=>round x hx fun y hy hI=>MJ (ih _ (hn ▸ hy) y rfl hI)
 exact key _ x rfl hx

def St.ev (s:St):Operand→Option AV
 | .tmp t=>y9 s.tm t
 | .const v=>cond v.oneCell' (some (.c (.t none (.v v)))) none
 | .func f=>some (.c (.clo f []))
 | .global _=>none
def St.set (s:St) (d:Nat) (v:AV):St:=⟨(d,some v)::s.tm,s.ob,s.nx⟩
def St.sets (s:St) (d:Option Nat) (v:Option AV):St:=match d with | some d=>⟨(d,v)::s.tm,s.ob,s.nx⟩ | none=>s
theorem J9 {E:Nat→EE} {S:Nat→Prop} {w:World} {a:Act} {x:Operand} {v:AV} (h:O7 E S w s.tm a.tmps)(hx:s.ev x=some v):M6 E S w v (a.eval x):=by
 cases x with
 | tmp t=>exact h t v hx
 | const u=>
  simp only [St.ev] at hx
  cases hu:u.oneCell'
  ·rw [hu] at hx;simp at hx
  ·rw [hu] at hx
   simp only [cond_true,Option.some.injEq] at hx
   subst hx
   exact⟨trivial,rfl,hu⟩
 | func f=>
  simp only [St.ev,Option.some.injEq] at hx
  subst hx
  exact⟨[],rfl,rfl,fun j p h=>by simp at h⟩
 | global g=>simp [St.ev] at hx

theorem IM {a:Act} {d t n:Nat} {u:Value} (hd:Nat.blt d n=true)(hs:a.tmps.size=n):(a.put (some d) u).tmps.getD t undef=if t=d then u else a.tmps.getD t undef:=by
 have hd:d < n:=by simpa using hd
 simp only [Act.put,Array.getD_eq_getD_getElem?,Array.getElem?_setIfInBounds]
 by_cases h:d=t
 ·subst h
  rw [if_pos rfl,if_pos (by omega),if_pos rfl]
  rfl
 ·rw [if_neg h,if_neg (fun e=>h e.symm)]
theorem D9 {β:Type 1} (k:Nat)(v:Option β)(r:List (Nat × Option β))(t:Nat):y9 ((k,v)::r) t=if t=k then v else y9 r t:=by
 simp only [y9]
 by_cases h:k=t
 ·subst h;simp
 ·have:Nat.beq k t=false:=by
   cases hb:Nat.beq k t
   ·rfl
   ·exact absurd (Nat.eq_of_beq_eq_true hb) h
  rw [this,if_neg (fun e=>h e.symm)]
  rfl
theorem OK {E:Nat→EE} {S:Nat→Prop} {w:World} {tm:List (Nat × Option AV)} {a:Act} {d n:Nat} {v:Option AV} {u:Value} (hd:Nat.blt d n=true)(hs:a.tmps.size=n)(h:O7 E S w tm a.tmps)(hv:∀v',v=some v'→M6 E S w v' u):
  O7 E S w ((d,v)::tm) (a.put (some d) u).tmps:=by
 intro t v' ht
 rw [D9] at ht
 rw [IM hd hs]
 by_cases e:t=d
 ·rw [if_pos e] at ht ⊢;exact hv _ ht
 ·rw [if_neg e] at ht ⊢;exact h t v' ht
theorem P8 {a:Act} {d:Option Nat} {u:Value}:(a.put d u).tmps.size=a.tmps.size:=by cases d <;> simp [Act.put]
theorem put_defers {a:Act} {d:Option Nat} {u:Value}:(a.put d u).defers=a.defers:=by cases d <;> rfl
def Q6 (d:Option Nat) (n:Nat):Bool:=match d with | some d=>Nat.blt d n | none=>true
theorem I8 {E:Nat→EE} {S:Nat→Prop} {w:World} {a:Act} {d:Option Nat} {n:Nat} {v:Option AV} {u:Value} (hd:Q6 d n=true)(hs:a.tmps.size=n)(h:O7 E S w s.tm a.tmps)(hv:∀v',v=some v'→M6 E S w v' u):
  O7 E S w (s.sets d v).tm (a.put d u).tmps:=by
 cases d with
 | none=>exact h
 | some d=>exact OK hd hs h hv
theorem B7 {d:Option Nat} {v:Option AV}:(s.sets d v).ob=s.ob:=by cases d <;> rfl
theorem A7 {d:Option Nat} {v:Option AV}:(s.sets d v).nx=s.nx:=by cases d <;> rfl

theorem l9 {id:Nat} {l:List Oper} (h:Wr cx s l.toArray l k R):Wt cx s (.code (.region id l.toArray false)::k) R:=by
 intro a w hg b cs hf hk
 obtain⟨e,a',w',⟨rfl,s',hg',hW⟩,harr⟩:=wp_region_lit (id:=id) (h a w hg) b k cs
 obtain⟨e,w'',fr,hR,hc,hfr,hl⟩:=hW a' w' hg' b cs hf hk
 exact⟨e,w'',fr,hR,Comes.of_steps harr hc,hfr,hl⟩
variable {ops:Array Oper} {rest:List Oper}
theorem c9 (h:Wt cx s k R):Wr cx s ops [] k R:=fun a w hg=>wpList_nil ⟨rfl,s,hg,h⟩
structure aX (w w':World):Prop where
 size:w.heap.size≤w'.heap.size
 block:∀k,k < w.heap.size→w'.heap[k]? =w.heap[k]?
theorem aX.refl (w:World):aX w w:=⟨Nat.le_refl _,fun _ _=>rfl⟩
theorem aX.trans {a b c:World} (h:aX a b)(k:aX b c):aX a c:=⟨Nat.le_trans h.size k.size,fun i hi=>(k.block i (Nat.lt_of_lt_of_le hi h.size)).trans (h.block i hi)⟩
def Os (cx:Cx) (s:St) (o:Oper) (s':St) (x:Bool):Prop:=
 ∀(Q:Exit→Act→World→Prop) (a:Act) (w:World),Gm cx s a w→o.wp cx.P a w (fun a' w'=>Gm cx s' a' w'∧(x=true→aX w w')) Q
theorem B6 {P:Program} {o:Oper} {a:Act} {K K':Act→World→Prop} {Q Q':Exit→Act→World→Prop} {r:Result Next} (h:∀a w,K a w→K' a w)(hQ:∀e a w,Q e a w→Q' e a w)(hr:o.upon P a K Q r):o.upon P a K' Q' r:=by
 cases r with
 | ok n w=>
  cases n <;> simp only [Oper.upon] at hr ⊢
  case value v=>exact h _ _ hr
  case skip=>exact h _ _ hr
  case defer d=>exact h _ _ hr
  case enter f args=>
   refine Calls.mono hr fun e w' he=>?_
   cases e with
   | returned v=>exact h _ _ he
   | panicked c=>exact hQ _ _ _ he
   | outgrown=>obtain⟨a,w,q⟩:=he;exact⟨a,w,hQ _ _ _ q⟩
  case row row args=>exact Rows.mono hr fun v w' he=>h _ _ he
 | halt x w=>
  cases x <;> simp only [Oper.upon] at hr ⊢
  case panic v=>exact hQ _ _ _ hr
theorem d9 {dst:Option Nat} {op:Op} {ty:TypeId} {pos:String} {aft:Array Edge} {s':St} {x:Bool} (h:Os cx s ⟨dst,op,ty,pos,aft,none⟩ s' x)(hW:Wr cx s' ops rest k R):Wr cx s ops (⟨dst,op,ty,pos,aft,none⟩::rest) k R:=by
 intro a w hg
 refine wpList_plain rfl fun K hK=>?_
 exact B6 (fun a' w' h'=>hK _ _ (hW a' w' h'.1)) (fun _ _ _ h=>h) (h _ a w hg)
def Ps (cx:Cx) (s:St) (op:Op) (v:AV):Prop:=
 ∀(a:Act) (w:World) (E:Nat→EE) (S:Nat→Prop),G6 cx s.ob s.nx E S w→O7 E S w s.tm a.tmps→∃u,(∀w',aX w w'→∀(dst:Option Nat) (ty:TypeId) (pos:String) (aft:Array Edge) (gd:Option (Nat × Bool)),(execOp a.eval ⟨dst,op,ty,pos,aft,gd⟩).run cx.P w'= .ok (.value u) w')∧M6 E S w v u
theorem aX.cell {w w':World} (h:aX w w') {ad:Addr} {v:Value} (hc:w.cell? ad=some v):w'.cell? ad=some v:=by
 rw [X1 (h.block ad.block (World.block_lt_of_cell? w ad hc))]
 exact hc
theorem C8 {dst:Option Nat} {op:Op} {ty:TypeId} {pos:String} {aft:Array Edge} {v:AV} (hd:Q6 dst cx.n=true)
  (hrun:Ps cx s op v):
  Os cx s ⟨dst,op,ty,pos,aft,none⟩ (s.sets dst (some v)) true:=by
 intro Q a w hg
 obtain⟨E,S,hI,hT,hn,hdf⟩:=hg
 obtain⟨u,hr,hv⟩:=hrun a w E S hI hT
 unfold Oper.wp
 rw [hr w (aX.refl w)]
 refine⟨⟨E,S,?_,I8 hd hn hT (fun v' e=>?_),by rw [P8];exact hn,by rw [put_defers];exact hdf⟩,fun _=>aX.refl _⟩
 ·rw [B7,A7];exact hI
 ·cases e;exact hv
theorem Z3 {dst:Option Nat} {op:Op} {ty:TypeId} {pos:String} {aft:Array Edge} {s':St} {x:Bool}
  (hrun:∀(a:Act) (w:World),Gm cx s a w→∃nx w',(execOp a.eval ⟨dst,op,ty,pos,aft,none⟩).run cx.P w= .ok nx w'∧((∃u,nx= .value u∧Gm cx s' (a.put dst u) w')∨(nx= .skip∧Gm cx s' (a.put dst undef) w'))∧(x=true→aX w w')):
  Os cx s ⟨dst,op,ty,pos,aft,none⟩ s' x:=by
 intro Q a w hg
 obtain⟨nx,w',hr,hv,hx⟩:=hrun a w hg
 unfold Oper.wp
 rw [hr]
 rcases hv with⟨u,rfl,hg'⟩ | ⟨rfl,hg'⟩
 ·exact⟨hg',hx⟩
 ·exact⟨hg',hx⟩
theorem aX.alloc (w:World)(o:Obj):aX w (w.alloc o):=⟨by simp,fun k hk=>heap_alloc_old w o hk⟩
theorem tZ {E:Nat→EE} {S:Nat→Prop} {w:World}:M6 E S w (.tup []) undef:=⟨[],rfl,rfl,fun j b cs h=>by simp at h⟩
theorem n4 {dst:Option Nat} {op:Op} {ty:TypeId} {pos:String} {aft:Array Edge} {j t:Nat} {b:Bool} (hd:Q6 dst cx.n=true)(hj:(ops[j]?).bind (·.dst)=some t)(ht:y9 s.tm t=some (.tup []))
  (h:Wr cx (s.sets dst (some (.tup []))) ops rest k R):Wr cx s ops (⟨dst,op,ty,pos,aft,some (j,b)⟩::rest) k R:=by
 intro a w hg
 obtain⟨E,S,hI,hT,hn,hdf⟩:=hg
 obtain⟨us,hu,hl,_⟩:=hT t _ ht
 have hy:yielded ops a.tmps j=none:=by
  unfold yielded
  rw [hj]
  rw [Array.getD_eq_getD_getElem?] at hu
  cases h:a.tmps[t]? with
  | none=>simp [h]
  | some x=>
   rw [h] at hu
   have hu:x= .tuple us.toArray:=hu
   simp [h,hu]
 unfold wpList
 rw [show Region.wanted ⟨dst,op,ty,pos,aft,some (j,b)⟩ (yielded ops a.tmps)=false by simp [Region.wanted,hy]]
 rw [if_neg (by simp)]
 refine h _ _ ⟨E,S,?_,I8 hd hn hT (fun v' e=>by cases e;exact tZ),by rw [P8];exact hn,by rw [put_defers];exact hdf⟩
 rw [B7,A7];exact hI
theorem PJ {dst:Option Nat} {op:Op} {ty:TypeId} {pos:String} {aft:Array Edge} {j t:Nat} {b b':Bool} (hd:Q6 dst cx.n=true)(hj:(ops[j]?).bind (·.dst)=some t)(ht:y9 s.tm t=some (.c (.t none (.v (.bool b')))))
  (h1:b'=b→Wr cx s ops (⟨dst,op,ty,pos,aft,none⟩::rest) k R) (h2:b'=(!b)→Wr cx (s.sets dst (some (.tup []))) ops rest k R):
  Wr cx s ops (⟨dst,op,ty,pos,aft,some (j,b)⟩::rest) k R:=by
 intro a w hg
 have hg0:=hg
 obtain⟨E,S,hI,hT,hn,hdf⟩:=hg
 have hb:=(hT t _ ht).2.1
 have hy:yielded ops a.tmps j=some b':=by
  unfold yielded
  rw [hj]
  have:a.tmps[t]? =some (.bool b'):=by
   rw [Array.getD_eq_getD_getElem?] at hb
   cases h:a.tmps[t]? with
   | none=>rw [h] at hb;simp [undef] at hb
   | some x=>rw [h] at hb;simpa using hb
  simp [this]
 have hw:Region.wanted ⟨dst,op,ty,pos,aft,some (j,b)⟩ (yielded ops a.tmps)=decide (b'=b):=by
  simp only [Region.wanted,hy]
  cases b <;> cases b' <;> rfl
 unfold wpList
 rw [hw]
 by_cases e:b'=b
 ·rw [if_pos (by simp [e])]
  have:=h1 e a w hg0
  unfold wpList at this
  rw [if_pos (by rfl)] at this
  exact this
 ·rw [if_neg (by simp [e])]
  refine h2 (by cases b <;> cases b' <;> simp_all) _ _ ⟨E,S,?_,I8 hd hn hT (fun v' e=>by cases e;exact tZ),by rw [P8];exact hn,by rw [put_defers];exact hdf⟩
  rw [B7,A7];exact hI
end code
end Go.Eng

set_option linter.unusedVariables false
set_option linter.unusedSimpArgs false
namespace Go.Eng
open Go Go.RowKit

def eH:TypeDesc→Bool
 | .struct _ | .array _ _=>true
 | _=>false
def D0 (P:Program) (t:TypeId):Option Nat:=(P.info? t).map (·.size)
def d5 (P:Program) (t:TypeId):Option Bool:=(P.underlying t).map eH

theorem yS {P:Program} {t:TypeId} {b:Bool} (h:d5 P t=some b)(w:World):(isAgg t).run P w= .ok b w:=by
 unfold d5 at h
 obtain⟨d,hd,rfl⟩:=Option.map_eq_some_iff.mp h
 unfold isAgg
 rw [Sem.run_bind,run_underlying hd w]
 cases d <;> rfl
theorem R0 {P:Program} {t:TypeId} {n:Nat} (h:D0 P t=some n)(w:World):(sizeOf t).run P w= .ok n w:=by
 unfold D0 at h
 obtain⟨i,hi,rfl⟩:=Option.map_eq_some_iff.mp h
 simp [sizeOf,typeInfo,hi]
theorem W1 {P:Program} {t:TypeId} (h:d5 P t=some false) {w:World} {ad:Addr} {v:Value} (hc:w.cell? ad=some v):(Instr.loadAt t (.pointer (some ad))).run P w= .ok v w:=by
 simp [Instr.loadAt,Instr.sureAddr,loadVar,Sem.run_bind,yS h,hc]
theorem mX {P:Program} {t:TypeId} {n:Nat} (h:d5 P t=some true)(hn:D0 P t=some n) {w:World} {ad:Addr} {cs:List Value} (hl:cs.length=n)(hc:∀j v,cs[j]? =some v→w.cell? (ad.add j)=some v):(Instr.loadAt t (.pointer (some ad))).run P w= .ok (.agg cs.toArray) w:=by
 have:=run_loadCells_list (P:=P) w ad cs hc
 rw [hl] at this
 simp [Instr.loadAt,Instr.sureAddr,loadVar,Sem.run_bind,yS h,R0 hn,this]

section rules
variable {cx:Cx} {s:St} {k:List Item} {R:Ending→World→Prop} {ops:Array Oper} {rest:List Oper} {dst:Option Nat} {ty:TypeId} {pos:String} {aft:Array Edge}

theorem fK {x:Operand} {v:AV} (hx:s.ev x=some v):
  Ps cx s (.move x) (v):=
 fun a w E S hI hT=>⟨a.eval x,fun _ _ _ _ _ _ _=>rfl,J9 hT hx⟩
theorem rH {x:Operand} {v:AV} (hd:Q6 dst cx.n=true)(hx:s.ev x=some v):
  Os cx s ⟨dst,.move x,ty,pos,aft,none⟩ (s.sets dst (some v)) true:=C8 hd (fK hx)
theorem TR {x:Operand} {v:AV} (hx:s.ev x=some v):
  Ps cx s (.assign x) (v):=
 fun a w E S hI hT=>⟨a.eval x,fun _ _ _ _ _ _ _=>rfl,J9 hT hx⟩
theorem oK {x:Operand} {v:AV} (hd:Q6 dst cx.n=true)(hx:s.ev x=some v):
  Os cx s ⟨dst,.assign x,ty,pos,aft,none⟩ (s.sets dst (some v)) true:=C8 hd (TR hx)
abbrev sc (v:Value):AV:=.c (.t none (.v v))
theorem Z8 {E:Nat→EE} {S:Nat→Prop} {w:World} {v u:Value} (h:M6 E S w (sc v) u):u=v:=h.2.1
theorem D2 {E:Nat→EE} {S:Nat→Prop} {w:World} {v:Value} (h:v.oneCell'=true):M6 E S w (sc v) v:=⟨trivial,rfl,h⟩
def uM (op:BinOp) (k:IntKind) (a b:Int):Option Value:=
 match op with
 | .add=>some (.int k (k.wrap (a + b)))
 | .sub=>some (.int k (k.wrap (a - b)))
 | .mul=>some (.int k (k.wrap (a * b)))
 | .eql=>some (.bool (decide (a=b)))
 | .neq=>some (.bool (decide (a≠b)))
 | .lss=>some (.bool (decide (a < b)))
 | .leq=>some (.bool (decide (a≤b)))
 | .gtr=>some (.bool (decide (b < a)))
 | .geq=>some (.bool (decide (b≤a)))
 | _=>none
theorem JJ (a b:Int):(a == b)=decide (a=b):=by
 by_cases h:a=b <;> simp [h]
theorem vO {P:Program} {op:BinOp} {k:IntKind} {a b:Int} {v:Value} (h:uM op k a b=some v)(t:TypeId)(x y:Operand)(w:World):(do eqGuard op t x y (.int k a) (.int k b);binOp op t (.int k a) (.int k b):Sem Value).run P w= .ok v w∧v.oneCell'=true:=by
 cases op <;> simp only [uM] at h <;> first | (cases h;done) | (cases h;constructor <;> simp [eqGuard,binOp,Op.intArith,Op.intCmp,JJ,bne,Value.oneCell'])
theorem HI {op:BinOp} {t yt:TypeId} {x y:Operand} {kk:IntKind} {a b:Int} {v:Value} (hx:s.ev x=some (sc (.int kk a)))(hy:s.ev y=some (sc (.int kk b)))(hv:uM op kk a b=some v):
  Ps cx s (.binOp op t x y yt) ((sc v)):=
 fun A w E S hI hT=>by
  have h1:=Z8 (J9 hT hx)
  have h2:=Z8 (J9 hT hy)
  have h3:=fun w'=>(vO (P:=cx.P) hv t x y w').1
  have h4:=(vO (P:=cx.P) hv t x y w).2
  refine⟨v,fun w' hW _ _ _ _ _=>?_,D2 h4⟩
  simp only [execOp,h1,h2]
  rw [Sem.run_bind,h3]
  rfl
theorem iG {op:BinOp} {t yt:TypeId} {x y:Operand} {kk:IntKind} {a b:Int} {v:Value} (hd:Q6 dst cx.n=true)(hx:s.ev x=some (sc (.int kk a)))(hy:s.ev y=some (sc (.int kk b)))(hv:uM op kk a b=some v):
  Os cx s ⟨dst,.binOp op t x y yt,ty,pos,aft,none⟩ (s.sets dst (some (sc v))) true:=C8 hd (HI hx hy hv)
theorem T3 {t:TypeId} {x:Operand} {b:Bool} (hx:s.ev x=some (sc (.bool b))):
  Ps cx s (.unOp .not t x) ((sc (.bool (!b)))):=
 fun A w E S hI hT=>by
  have h1:=Z8 (J9 hT hx)
  refine⟨_,fun w' hW _ _ _ _ _=>?_,D2 rfl⟩
  simp [execOp,h1,Op.unary]
theorem Q8 {t:TypeId} {x:Operand} {b:Bool} (hd:Q6 dst cx.n=true)(hx:s.ev x=some (sc (.bool b))):
  Os cx s ⟨dst,.unOp .not t x,ty,pos,aft,none⟩ (s.sets dst (some (sc (.bool (!b))))) true:=C8 hd (T3 hx)
theorem BO {P:Program} {t:TypeId} (ht:P.underlying t=some .bool)(a b:Bool)(x y:Operand)(w:World):
  (do eqGuard .eql t x y (.bool a) (.bool b);binOp .eql t (.bool a) (.bool b):Sem Value).run P w= .ok (.bool (a == b)) w∧(do eqGuard .neq t x y (.bool a) (.bool b);binOp .neq t (.bool a) (.bool b):Sem Value).run P w= .ok (.bool (a != b)) w:=by
 have e1:(eqGuard .eql t x y (.bool a) (.bool b)).run P w= .ok () w:=rfl
 have e2:(eqGuard .neq t x y (.bool a) (.bool b)).run P w= .ok () w:=rfl
 constructor
 ·rw [Sem.run_bind,e1,Result.andThen_ok,run_eql_bool w t a b ht]
 ·rw [Sem.run_bind,e2,Result.andThen_ok,run_neq_bool w t a b ht]
  rfl
theorem xI {t yt:TypeId} {x y:Operand} {a b:Bool} (ht:cx.P.underlying t=some .bool)(hx:s.ev x=some (sc (.bool a)))(hy:s.ev y=some (sc (.bool b))):
  Ps cx s (.binOp .eql t x y yt) ((sc (.bool (a == b)))):=
 fun A w E S hI hT=>by
  have h1:=Z8 (J9 hT hx)
  have h2:=Z8 (J9 hT hy)
  refine⟨_,fun w' hW _ _ _ _ _=>?_,D2 rfl⟩
  simp only [execOp,h1,h2]
  rw [Sem.run_bind,(BO ht a b x y w').1]
  rfl
theorem JI {t yt:TypeId} {x y:Operand} {a b:Bool} (hd:Q6 dst cx.n=true)(ht:cx.P.underlying t=some .bool)(hx:s.ev x=some (sc (.bool a)))(hy:s.ev y=some (sc (.bool b))):
  Os cx s ⟨dst,.binOp .eql t x y yt,ty,pos,aft,none⟩ (s.sets dst (some (sc (.bool (a == b))))) true:=C8 hd (xI ht hx hy)
theorem aG {t yt:TypeId} {x y:Operand} {a b:Bool} (ht:cx.P.underlying t=some .bool)(hx:s.ev x=some (sc (.bool a)))(hy:s.ev y=some (sc (.bool b))):
  Ps cx s (.binOp .neq t x y yt) ((sc (.bool (a != b)))):=
 fun A w E S hI hT=>by
  have h1:=Z8 (J9 hT hx)
  have h2:=Z8 (J9 hT hy)
  refine⟨_,fun w' hW _ _ _ _ _=>?_,D2 rfl⟩
  simp only [execOp,h1,h2]
  rw [Sem.run_bind,(BO ht a b x y w').2]
  rfl
theorem XH {t yt:TypeId} {x y:Operand} {a b:Bool} (hd:Q6 dst cx.n=true)(ht:cx.P.underlying t=some .bool)(hx:s.ev x=some (sc (.bool a)))(hy:s.ev y=some (sc (.bool b))):
  Os cx s ⟨dst,.binOp .neq t x y yt,ty,pos,aft,none⟩ (s.sets dst (some (sc (.bool (a != b))))) true:=C8 hd (aG ht hx hy)
theorem H8 {c x y:Operand} {b:Bool} {v:AV} (hc:s.ev c=some (sc (.bool b)))(hb:b=true)(hx:s.ev x=some v):
  Ps cx s (.pick c x y) (v):=
 fun A w E S hI hT=>by
  have h1:=Z8 (J9 hT hc)
  refine⟨A.eval x,fun w' hW _ _ _ _ _=>?_,J9 hT hx⟩
  simp [execOp,h1,hb,asBool]
theorem M9 {c x y:Operand} {b:Bool} {v:AV} (hd:Q6 dst cx.n=true)(hc:s.ev c=some (sc (.bool b)))(hb:b=true)(hx:s.ev x=some v):
  Os cx s ⟨dst,.pick c x y,ty,pos,aft,none⟩ (s.sets dst (some v)) true:=C8 hd (H8 hc hb hx)
theorem o8 {c x y:Operand} {b:Bool} {v:AV} (hc:s.ev c=some (sc (.bool b)))(hb:b=false)(hx:s.ev y=some v):
  Ps cx s (.pick c x y) (v):=
 fun A w E S hI hT=>by
  have h1:=Z8 (J9 hT hc)
  refine⟨A.eval y,fun w' hW _ _ _ _ _=>?_,J9 hT hx⟩
  simp [execOp,h1,hb,asBool]
theorem H9 {c x y:Operand} {b:Bool} {v:AV} (hd:Q6 dst cx.n=true)(hc:s.ev c=some (sc (.bool b)))(hb:b=false)(hx:s.ev y=some v):
  Os cx s ⟨dst,.pick c x y,ty,pos,aft,none⟩ (s.sets dst (some v)) true:=C8 hd (o8 hc hb hx)
end rules
end Go.Eng

set_option linter.unusedVariables false
set_option linter.unusedSimpArgs false
namespace Go.Eng
open Go Go.RowKit

def tv (r:Option Nat):T→AC
 | .v x=> .t none (.v x)
 | .sl sz enc xs=> .t r (.sl sz enc xs)
 | .ab Q=> .t r (.ab Q)
theorem sR {E:Nat→EE} {S:Nat→Prop} {w:World} {r:Option Nat} {t:T} {u:Value} (hl:TO E r)(h:Rd w (place E S r) t u):S6 E S w (tv r t) u:=by
 cases t with
 | v x=>exact⟨trivial,h⟩
 | sl sz enc xs=>exact⟨hl,h⟩
 | ab Q=>exact⟨hl,h⟩
def sJ (r:Option Nat) (c:Nat→T):Nat→Nat→List AC
 | _,0=>[]
 | i,m + 1=>tv r (c i)::sJ r c (i + 1) m
theorem BW (r:Option Nat)(c:Nat→T):∀m i,(sJ r c i m).length=m
 | 0,i=>rfl
 | m + 1,i=>by simp [sJ,BW r c m]
theorem OS (r:Option Nat)(c:Nat→T):∀m i j,j < m→(sJ r c i m)[j]? =some (tv r (c (i + j)))
 | 0,i,j,h=>by omega
 | m + 1,i,0,h=>rfl
 | m + 1,i,j + 1,h=>by
  simp only [sJ,List.getElem?_cons_succ]
  rw [OS r c m (i + 1) j (by omega),Nat.add_right_comm,Nat.add_assoc]
theorem add_add (a:Addr)(n m:Nat):(a.add n).add m=a.add (n + m):=by
 unfold Addr.add
 by_cases h1:n=0 <;> by_cases h2:m=0 <;> simp [h1,h2,Nat.add_assoc]
theorem U6 (g o n:Nat):(⟨g,o,none⟩:Addr).add n=⟨g,o + n,none⟩:=by
 unfold Addr.add
 by_cases h:n=0 <;> simp [h]
theorem wP {p:Nat→Value→Prop}:∀m,(∀j,j < m→∃u,p j u)→∃us:List Value,us.length=m∧∀j u,us[j]? =some u→p j u
 | 0,h=>⟨[],rfl,fun j u h=>by simp at h⟩
 | m + 1,h=>by
  obtain⟨us,hl,hu⟩:=wP m (fun j hj=>h j (by omega))
  obtain⟨u,hp⟩:=h m (by omega)
  refine⟨us++[u],by simp [hl],fun j v hv=>?_⟩
  by_cases hj:j < m
  ·rw [List.getElem?_append_left (by omega)] at hv
   exact hu j v hv
  ·have:j=m:=by
    have:=(List.getElem?_eq_some_iff.1 hv).1
    simp at this
    omega
   subst this
   rw [List.getElem?_append_right (by omega),hl] at hv
   simp at hv
   exact hv ▸ hp
def Q5 (P:Program) (t:TypeId):Option Nat:=match P.underlying t with | some (.slice e)=>D0 P e | _=>none
def d4 (P:Program) (t:TypeId) (f:Nat):Option Nat:=match P.underlying t with | some (.struct fs)=>(match fs[f]? with | some fl=>(match D0 P fl.type with | some (_ + 1)=>some fl.offset | _=>none) | none=>none) | _=>none
theorem fZ {P:Program} {t:TypeId} {f off:Nat} (h:d4 P t f=some off)(w:World)(ad:Addr):(Instr.fieldAt t (.pointer (some ad)) f).run P w= .ok (.pointer (some (ad.add off))) w:=by
 unfold d4 at h
 split at h
 ·rename_i fs hu
  split at h
  ·rename_i fl hf
   split at h
   ·rename_i n hs
    cases h
    simp [Instr.fieldAt,Sem.run_bind,run_underlying hu,hf,Instr.sureAddr,fieldPlace,R0 hs]
   ·cases h
  ·cases h
 ·cases h
theorem qY {P:Program} {t:TypeId} {sz:Nat} (h:Q5 P t=some sz)(w:World)(ad:Addr)(len cap:Nat)(k:IntKind)(i:Int)(h0:0≤i)(h1:i < len):
  (Instr.indexAt t (.slice (some ad) len cap) (.int k i)).run P w= .ok (.pointer (some (ad.add (i.toNat * sz)))) w:=by
 unfold Q5 at h
 split at h
 ·rename_i e hu
  simp [Instr.indexAt,asIntOf,Sem.run_bind,run_underlying hu,h0,h1,R0 h]
 ·cases h

section rules
variable {cx:Cx} {s:St} {k:List Item} {R:Ending→World→Prop} {ops:Array Oper} {rest:List Oper} {dst:Option Nat} {ty:TypeId} {pos:String} {aft:Array Edge}
theorem t7 {t:TypeId} {x:Operand} {r:Option Nat} {c:Nat→T} {m:Nat} (ha:d5 cx.P t=some false)(hx:s.ev x=some (.c (.pel r c m)))(hm:Nat.blt 0 m=true):
  Ps cx s (.load t x) ((.c (tv r (c 0)))):=
 fun A w E S hI hT=>by
  obtain⟨hl,ad,hu,hp,hc⟩:=J9 hT hx
  obtain⟨u,h1,h2⟩:=hc 0 (by simpa using hm)
  refine⟨u,fun w' hW _ _ _ _ _=>?_,sR hl h2⟩
  simp only [execOp,hu]
  rw [Sem.run_bind,W1 ha (hW.cell (show w.cell? ad=some u from h1))]
  rfl
theorem c8 {t:TypeId} {x:Operand} {r:Option Nat} {c:Nat→T} {m:Nat} (hd:Q6 dst cx.n=true)(ha:d5 cx.P t=some false)(hx:s.ev x=some (.c (.pel r c m)))(hm:Nat.blt 0 m=true):
  Os cx s ⟨dst,.load t x,ty,pos,aft,none⟩ (s.sets dst (some (.c (tv r (c 0))))) true:=C8 hd (t7 ha hx hm)
theorem p6 {t:TypeId} {x:Operand} {r:Option Nat} {c:Nat→T} {m n:Nat} (ha:d5 cx.P t=some true)(hn:D0 cx.P t=some n)(hx:s.ev x=some (.c (.pel r c m)))(hm:Nat.ble n m=true):
  Ps cx s (.load t x) ((.agg (sJ r c 0 n))):=
 fun A w E S hI hT=>by
  have hm:n≤m:=by simpa using hm
  obtain⟨hl,ad,hu,hp,hc⟩:=J9 hT hx
  obtain⟨us,hul,hus⟩:=wP n (fun j hj=>hc j (by omega))
  refine⟨.agg us.toArray,fun w' hW _ _ _ _ _=>?_,us,rfl,by rw [hul,BW],fun j c' hc'=>?_⟩
  ·simp only [execOp,hu]
   rw [Sem.run_bind,mX ha hn hul (fun j v hv=>hW.cell (hus j v hv).1)]
   rfl
  ·have hj:j < n:=by have:=(List.getElem?_eq_some_iff.1 hc').1;rwa [BW] at this
   rw [OS _ _ _ _ _ hj,Nat.zero_add] at hc'
   cases hc'
   have hj2:us[j]? =some us[j]:=List.getElem?_eq_getElem (by omega)
   exact⟨_,hj2,sR hl (hus j _ hj2).2⟩
theorem A6 {t:TypeId} {x:Operand} {r:Option Nat} {c:Nat→T} {m n:Nat} (hd:Q6 dst cx.n=true)(ha:d5 cx.P t=some true)(hn:D0 cx.P t=some n)(hx:s.ev x=some (.c (.pel r c m)))(hm:Nat.ble n m=true):
  Os cx s ⟨dst,.load t x,ty,pos,aft,none⟩ (s.sets dst (some (.agg (sJ r c 0 n)))) true:=C8 hd (p6 ha hn hx hm)
theorem FR {t:TypeId} {x:Operand} {i o:Nat} {cells:List AC} {c:AC} (ha:d5 cx.P t=some false)(hx:s.ev x=some (.c (.ptr i o)))(hb:y9 s.ob i=some (.box cells))(hc:cells[o]? =some c):
  Ps cx s (.load t x) ((.c c)):=
 fun A w E S hI hT=>by
  obtain⟨hlv,g,h1,h2⟩:=J9 hT hx
  obtain⟨_,_,g',e,cs,h3,_,h4,h5⟩:=hI.obs _ _ hb
  rw [h3] at h1
  cases h1
  obtain⟨u,h6,h7⟩:=h5.2 _ _ hc
  refine⟨u,fun w' hW _ _ _ _ _=>?_,h7⟩
  simp only [execOp,h2]
  rw [Sem.run_bind,W1 ha (hW.cell ((cell_of_row w g o _ e _ h4).trans (by simpa using h6)))]
  rfl
theorem SR {t:TypeId} {x:Operand} {i o:Nat} {cells:List AC} {c:AC} (hd:Q6 dst cx.n=true)(ha:d5 cx.P t=some false)(hx:s.ev x=some (.c (.ptr i o)))(hb:y9 s.ob i=some (.box cells))(hc:cells[o]? =some c):
  Os cx s ⟨dst,.load t x,ty,pos,aft,none⟩ (s.sets dst (some (.c c))) true:=C8 hd (FR ha hx hb hc)
theorem BQ {t:TypeId} {x:Operand} {i o n:Nat} {cells:List AC} (ha:d5 cx.P t=some true)(hn:D0 cx.P t=some n)(hx:s.ev x=some (.c (.ptr i o)))(hb:y9 s.ob i=some (.box cells))(hm:Nat.ble (o + n) cells.length=true):
  Ps cx s (.load t x) ((.agg ((cells.drop o).take n))):=
 fun A w E S hI hT=>by
  have hm:o + n≤cells.length:=by simpa using hm
  obtain⟨hlv,g,h1,h2⟩:=J9 hT hx
  obtain⟨_,_,g',e,cs,h3,_,h4,h5⟩:=hI.obs _ _ hb
  rw [h3] at h1
  cases h1
  refine⟨.agg ((cs.drop o).take n).toArray,fun w' hW _ _ _ _ _=>?_,_,rfl,by simp [h5.1],fun j c' hc'=>?_⟩
  ·simp only [execOp,h2]
   rw [Sem.run_bind,mX (cs:=(cs.drop o).take n) ha hn (by simp [h5.1];omega) (fun j v hv=>?_)]
   ·rfl
   ·refine hW.cell ?_
    rw [U6,cell_of_row w g _ _ e _ h4]
    rw [List.getElem?_take] at hv
    split at hv
    ·rw [List.getElem?_drop] at hv
     simpa using hv
    ·cases hv
  ·rw [List.getElem?_take] at hc'
   split at hc'
   ·rename_i hj
    rw [List.getElem?_drop] at hc'
    obtain⟨u,h6,h7⟩:=h5.2 _ _ hc'
    exact⟨u,by rw [List.getElem?_take,if_pos hj,List.getElem?_drop];exact h6,h7⟩
   ·cases hc'
theorem uQ {t:TypeId} {x:Operand} {i o n:Nat} {cells:List AC} (hd:Q6 dst cx.n=true)(ha:d5 cx.P t=some true)(hn:D0 cx.P t=some n)(hx:s.ev x=some (.c (.ptr i o)))(hb:y9 s.ob i=some (.box cells))(hm:Nat.ble (o + n) cells.length=true):
  Os cx s ⟨dst,.load t x,ty,pos,aft,none⟩ (s.sets dst (some (.agg ((cells.drop o).take n)))) true:=C8 hd (BQ ha hn hx hb hm)
theorem s0 {E:Nat→EE} {S:Nat→Prop} {w:World} {i e0:Nat} {pn:Option Value} {deep:Bool} {α:Type} {sz:Nat} {enc:α→Nat→T} {xs:List α} (hl:(E i).live)(h:x6 E S w i (.row pn e0 deep sz enc xs)):
  ∃A cap,(E i).u= .slice A xs.length cap∧xs.length≤cap∧(xs≠ []→∃g,A=some ⟨g,0,none⟩)∧∀g,A=some ⟨g,0,none⟩→∀e y,xs[e]? =some y→∀o,o < sz→∃u,w.cell? ⟨g,e * sz + o,none⟩=some u∧S6 E S w (tv (if deep=true then some i else none) (enc y o)) u:=by
 have key:∀(e:TypeId) (cells:List Value),w.ownsRow 0 e sz (E i).u xs.length cells→(∀e y,xs[e]? =some y→∀o,o < sz→∃u,cells[e * sz + o]? =some u∧S6 E S w (tv (if deep=true then some i else none) (enc y o)) u)→
   ∃A cap,(E i).u= .slice A xs.length cap∧xs.length≤cap∧(xs≠ []→∃g,A=some ⟨g,0,none⟩)∧∀g,A=some ⟨g,0,none⟩→∀e y,xs[e]? =some y→∀o,o < sz→∃u,w.cell? ⟨g,e * sz + o,none⟩=some u∧S6 E S w (tv (if deep=true then some i else none) (enc y o)) u:=by
  intro e cells ho hc
  have ho':=ho
  obtain⟨h1,h2⟩:=ho
  rcases h2 with⟨h2,h3⟩ | ⟨g,cap,cur,h2,_,h4,h5,_,h6,h7⟩
  ·refine⟨none,0,by rw [h2,h3],by omega,fun hx=>?_,fun g hg=>by cases hg⟩
   exact absurd (List.eq_nil_of_length_eq_zero h3) hx
  ·refine⟨some ⟨g,0,none⟩,cap,h2,h5,fun _=>⟨g,rfl⟩,fun g' hg e' y hy o ho=>?_⟩
   cases hg
   obtain⟨u,h8,h9⟩:=hc e' y hy o ho
   refine⟨u,?_,h9⟩
   have:=World.ownsRow.cells ho' (g:=g) (by rw [h2];rfl) _ _ h8
   rwa [U6,Nat.zero_add] at this
 unfold x6 at h
 obtain⟨hrd,_,h⟩:=h
 cases deep
 ·simp only [Bool.false_eq_true,if_false] at h
  obtain⟨cells,ho,_,hc⟩:=h
  exact key e0 cells ho fun e y hy o hj=>by
   obtain⟨u,h1,h2⟩:=hc e y hy o hj
   exact⟨u,h1,sR trivial h2⟩
 ·simp only [if_true] at h
  obtain⟨cells,G,ho,hf,hg,_,hc⟩:=h
  exact key e0 cells ho fun e y hy o hj=>by
   obtain⟨u,h1,h2⟩:=hc e y hy o hj
   refine⟨u,h1,sR ⟨hl,hrd⟩ ?_⟩
   exact Rd.move (fun k q=>(hg e o k q).1) (fun _ _=>rfl) _ _ (Ow.rd _ _ h2)
theorem E8 {t:TypeId} {x:Operand} {i e sz o e0:Nat} {pn:Option Value} {deep:Bool} {α:Type} {enc:α→Nat→T} {xs:List α} {y:α} (ha:d5 cx.P t=some false)(hx:s.ev x=some (.c (.poe i e sz o)))(hb:y9 s.ob i=some (.row pn e0 deep sz enc xs))(ho:Nat.blt o sz=true)(hy:xs[e]? =some y):
  Ps cx s (.load t x) ((.c (tv (if deep=true then some i else none) (enc y o)))):=
 fun A w E S hI hT=>by
  obtain⟨hlv,g,n,cap,h1,h2⟩:=J9 hT hx
  obtain⟨hl,hb⟩:=hI.obs _ _ hb
  obtain⟨A',cap',h3,_,_,h5⟩:=s0 hl hb
  rw [h1] at h3
  cases h3
  obtain⟨u,h6,h7⟩:=h5 g rfl e y hy o (by simpa using ho)
  refine⟨u,fun w' hW _ _ _ _ _=>?_,h7⟩
  simp only [execOp,h2]
  rw [Sem.run_bind,W1 ha (hW.cell h6)]
  rfl
theorem p8 {t:TypeId} {x:Operand} {i e sz o e0:Nat} {pn:Option Value} {deep:Bool} {α:Type} {enc:α→Nat→T} {xs:List α} {y:α} (hd:Q6 dst cx.n=true)(ha:d5 cx.P t=some false)(hx:s.ev x=some (.c (.poe i e sz o)))(hb:y9 s.ob i=some (.row pn e0 deep sz enc xs))(ho:Nat.blt o sz=true)(hy:xs[e]? =some y):
  Os cx s ⟨dst,.load t x,ty,pos,aft,none⟩ (s.sets dst (some (.c (tv (if deep=true then some i else none) (enc y o))))) true:=C8 hd (E8 ha hx hb ho hy)
theorem RY {t:TypeId} {x:Operand} {i e sz e0:Nat} {pn:Option Value} {deep:Bool} {α:Type} {enc:α→Nat→T} {xs:List α} {y:α} (ha:d5 cx.P t=some true)(hn:D0 cx.P t=some sz)(hx:s.ev x=some (.c (.poe i e sz 0)))(hb:y9 s.ob i=some (.row pn e0 deep sz enc xs))(hy:xs[e]? =some y):
  Ps cx s (.load t x) ((.agg (sJ (if deep=true then some i else none) (enc y) 0 sz))):=
 fun A w E S hI hT=>by
  obtain⟨hlv,g,n,cap,h1,h2⟩:=J9 hT hx
  obtain⟨hl,hb⟩:=hI.obs _ _ hb
  obtain⟨A',cap',h3,_,_,h5⟩:=s0 hl hb
  rw [h1] at h3
  cases h3
  obtain⟨us,hul,hus⟩:=wP sz (fun j hj=>h5 g rfl e y hy j hj)
  refine⟨.agg us.toArray,fun w' hW _ _ _ _ _=>?_,us,rfl,by rw [hul,BW],fun j c' hc'=>?_⟩
  ·simp only [execOp,h2]
   rw [Sem.run_bind,mX ha hn hul (fun j v hv=>hW.cell (by rw [U6];exact(hus j v hv).1))]
   rfl
  ·have hj:j < sz:=by have:=(List.getElem?_eq_some_iff.1 hc').1;rwa [BW] at this
   rw [OS _ _ _ _ _ hj,Nat.zero_add] at hc'
   cases hc'
   have hj2:us[j]? =some us[j]:=List.getElem?_eq_getElem (by omega)
   exact⟨_,hj2,(hus j _ hj2).2⟩
theorem AK {t:TypeId} {x:Operand} {i e sz e0:Nat} {pn:Option Value} {deep:Bool} {α:Type} {enc:α→Nat→T} {xs:List α} {y:α} (hd:Q6 dst cx.n=true)(ha:d5 cx.P t=some true)(hn:D0 cx.P t=some sz)(hx:s.ev x=some (.c (.poe i e sz 0)))(hb:y9 s.ob i=some (.row pn e0 deep sz enc xs))(hy:xs[e]? =some y):
  Os cx s ⟨dst,.load t x,ty,pos,aft,none⟩ (s.sets dst (some (.agg (sJ (if deep=true then some i else none) (enc y) 0 sz)))) true:=C8 hd (RY ha hn hx hb hy)
theorem N2 {t:TypeId} {x:Operand} {f off:Nat} {r:Option Nat} {c:Nat→T} {m:Nat} (hf:d4 cx.P t f=some off)(hx:s.ev x=some (.c (.pel r c m))):
  Ps cx s (.fieldAddr t x f) ((.c (.pel r (fun j=>c (off + j)) (m - off)))):=
 fun A w E S hI hT=>by
  obtain⟨hl,ad,hu,hp,hc⟩:=J9 hT hx
  refine⟨.pointer (some (ad.add off)),fun w' hW _ _ _ _ _=>?_,hl,_,rfl,by rw [E3];exact hp,fun j hj=>?_⟩
  ·simp only [execOp,hu]
   rw [Sem.run_bind,fZ hf]
   rfl
  ·rw [add_add]
   exact hc _ (by omega)
theorem K1 {t:TypeId} {x:Operand} {f off:Nat} {r:Option Nat} {c:Nat→T} {m:Nat} (hd:Q6 dst cx.n=true)(hf:d4 cx.P t f=some off)(hx:s.ev x=some (.c (.pel r c m))):
  Os cx s ⟨dst,.fieldAddr t x f,ty,pos,aft,none⟩ (s.sets dst (some (.c (.pel r (fun j=>c (off + j)) (m - off))))) true:=C8 hd (N2 hf hx)
theorem xP {t:TypeId} {x:Operand} {f off i o:Nat} (hf:d4 cx.P t f=some off)(hx:s.ev x=some (.c (.ptr i o))):
  Ps cx s (.fieldAddr t x f) ((.c (.ptr i (o + off)))):=
 fun A w E S hI hT=>by
  obtain⟨hlv,g,h1,h2⟩:=J9 hT hx
  refine⟨.pointer (some ⟨g,o + off,none⟩),fun w' hW _ _ _ _ _=>?_,hlv,g,h1,rfl⟩
  simp only [execOp,h2]
  rw [Sem.run_bind,fZ hf,U6]
  rfl
theorem XQ {t:TypeId} {x:Operand} {f off i o:Nat} (hd:Q6 dst cx.n=true)(hf:d4 cx.P t f=some off)(hx:s.ev x=some (.c (.ptr i o))):
  Os cx s ⟨dst,.fieldAddr t x f,ty,pos,aft,none⟩ (s.sets dst (some (.c (.ptr i (o + off))))) true:=C8 hd (xP hf hx)
theorem C4 {t:TypeId} {x:Operand} {f off i e sz o:Nat} (hf:d4 cx.P t f=some off)(hx:s.ev x=some (.c (.poe i e sz o))):
  Ps cx s (.fieldAddr t x f) ((.c (.poe i e sz (o + off)))):=
 fun A w E S hI hT=>by
  obtain⟨hlv,g,n,cap,h1,h2⟩:=J9 hT hx
  refine⟨.pointer (some ⟨g,e * sz +(o + off),none⟩),fun w' hW _ _ _ _ _=>?_,hlv,g,n,cap,h1,rfl⟩
  simp only [execOp,h2]
  rw [Sem.run_bind,fZ hf,U6,Nat.add_assoc]
  rfl
theorem DW {t:TypeId} {x:Operand} {f off i e sz o:Nat} (hd:Q6 dst cx.n=true)(hf:d4 cx.P t f=some off)(hx:s.ev x=some (.c (.poe i e sz o))):
  Os cx s ⟨dst,.fieldAddr t x f,ty,pos,aft,none⟩ (s.sets dst (some (.c (.poe i e sz (o + off))))) true:=C8 hd (C4 hf hx)
theorem w8 {t:TypeId} {x y:Operand} {r:Option Nat} {α:Type} {sz:Nat} {enc:α→Nat→T} {xs:List α} {kk:IntKind} {n:Int} {z:α} (hs:Q5 cx.P t=some sz)(hx:s.ev x=some (.c (.t r (.sl sz enc xs))))(hy:s.ev y=some (sc (.int kk n)))(h0:0≤n)(hz:xs[n.toNat]? =some z):
  Ps cx s (.indexAddr t x y) ((.c (.pel r (enc z) sz))):=by
 have h1:n < xs.length:=by have:=(List.getElem?_eq_some_iff.1 hz).1;omega
 refine fun A w E S hI hT=>?_
 obtain⟨hl,A',cap,hu,hcap,hc⟩:=J9 hT hx
 have h2:=Z8 (J9 hT hy)
 obtain⟨ad,rfl,hp,hc⟩:=hc _ _ hz
 refine⟨.pointer (some (ad.add (n.toNat * sz))),fun w' hW _ _ _ _ _=>?_,hl,_,rfl,by rw [E3];exact hp,fun j hj=>?_⟩
 ·simp only [execOp,hu,h2]
  rw [Sem.run_bind,qY hs w' ad _ _ _ _ h0 h1]
  rfl
 ·rw [add_add]
  exact hc j hj
theorem P9 {t:TypeId} {x y:Operand} {r:Option Nat} {α:Type} {sz:Nat} {enc:α→Nat→T} {xs:List α} {kk:IntKind} {n:Int} {z:α} (hd:Q6 dst cx.n=true)(hs:Q5 cx.P t=some sz)(hx:s.ev x=some (.c (.t r (.sl sz enc xs))))(hy:s.ev y=some (sc (.int kk n)))(h0:0≤n)(hz:xs[n.toNat]? =some z):
  Os cx s ⟨dst,.indexAddr t x y,ty,pos,aft,none⟩ (s.sets dst (some (.c (.pel r (enc z) sz)))) true:=C8 hd (w8 hs hx hy h0 hz)
theorem T9 {t:TypeId} {x y:Operand} {i e0:Nat} {pn:Option Value} {deep:Bool} {α:Type} {sz:Nat} {enc:α→Nat→T} {xs:List α} {kk:IntKind} {n:Int} (hs:Q5 cx.P t=some sz)(hx:s.ev x=some (.c (.own i)))(hb:y9 s.ob i=some (.row pn e0 deep sz enc xs))(hy:s.ev y=some (sc (.int kk n)))(h0:0≤n)(h1:n < xs.length):
  Ps cx s (.indexAddr t x y) ((.c (.poe i n.toNat sz 0))):=by
 refine fun A w E S hI hT=>?_
 obtain⟨hlv,hu,_⟩:=J9 hT hx
 have h2:=Z8 (J9 hT hy)
 obtain⟨hl,hb⟩:=hI.obs _ _ hb
 obtain⟨A',cap',h3,_,hne,h5⟩:=s0 hl hb
 obtain⟨g,rfl⟩:=hne (by intro e;subst e;simp at h1;omega)
 refine⟨.pointer (some ⟨g,n.toNat * sz + 0,none⟩),fun w' hW _ _ _ _ _=>?_,hlv,g,_,_,h3,rfl⟩
 simp only [execOp,hu,h2,h3]
 rw [Sem.run_bind,qY hs w' _ _ _ _ _ h0 h1,U6,Nat.zero_add]
 rfl
theorem t8 {t:TypeId} {x y:Operand} {i e0:Nat} {pn:Option Value} {deep:Bool} {α:Type} {sz:Nat} {enc:α→Nat→T} {xs:List α} {kk:IntKind} {n:Int} (hd:Q6 dst cx.n=true)(hs:Q5 cx.P t=some sz)(hx:s.ev x=some (.c (.own i)))(hb:y9 s.ob i=some (.row pn e0 deep sz enc xs))(hy:s.ev y=some (sc (.int kk n)))(h0:0≤n)(h1:n < xs.length):
  Os cx s ⟨dst,.indexAddr t x y,ty,pos,aft,none⟩ (s.sets dst (some (.c (.poe i n.toNat sz 0)))) true:=C8 hd (T9 hs hx hb hy h0 h1)
theorem FM {P:Program} {t e:TypeId} (h:P.underlying t=some (.slice e))(w:World)(ty:TypeId)(A:Option Addr)(n c:Nat):(Builtin.len_ #[t] ty #[.slice A n c]).run P w= .ok (.int .i64 n) w:=by
 simp [Builtin.len_,run_underlying h,goInt]
def MT (P:Program) (t:TypeId):Bool:=match P.underlying t with | some (.slice _)=>true | _=>false
theorem oP {P:Program} {t:TypeId} (h:MT P t=true):∃e,P.underlying t=some (.slice e):=by
 unfold MT at h
 split at h
 ·exact⟨_,‹_›⟩
 ·cases h
theorem yU {gd:Option (Nat × Bool)} {P:Program} {t:TypeId} (h:MT P t=true) {A:Option Addr} {n c:Nat} {a:Act} {x:Operand} (hx:a.eval x= .slice A n c)(w:World):
  (execOp a.eval ⟨dst,.call {callee:=.builtin .len,args:=#[x],argTypes:=#[t]},ty,pos,aft,gd⟩).run P w= .ok (.value (.int .i64 n)) w:=by
 obtain⟨e,he⟩:=oP h
 simp [execOp,resolve,invoke,builtin,hx,FM he]
theorem BZ {t:TypeId} {x:Operand} {r:Option Nat} {α:Type} {sz:Nat} {enc:α→Nat→T} {xs:List α} (ht:MT cx.P t=true)(hx:s.ev x=some (.c (.t r (.sl sz enc xs)))):
  Ps cx s (.call {callee:=.builtin .len,args:=#[x],argTypes:=#[t]}) ((sc (.int .i64 xs.length))):=
 fun A w E S hI hT=>by
  obtain⟨hl,A',cap,hu,_⟩:=J9 hT hx
  exact⟨_,fun w' hW _ _ _ _ _=>yU ht hu w',D2 rfl⟩
theorem S9 {t:TypeId} {x:Operand} {r:Option Nat} {α:Type} {sz:Nat} {enc:α→Nat→T} {xs:List α} (hd:Q6 dst cx.n=true)(ht:MT cx.P t=true)(hx:s.ev x=some (.c (.t r (.sl sz enc xs)))):
  Os cx s ⟨dst,.call {callee:=.builtin .len,args:=#[x],argTypes:=#[t]},ty,pos,aft,none⟩ (s.sets dst (some (sc (.int .i64 xs.length)))) true:=C8 hd (BZ ht hx)
theorem J2 {t:TypeId} {x:Operand} {i e0:Nat} {pn:Option Value} {deep:Bool} {α:Type} {sz:Nat} {enc:α→Nat→T} {xs:List α} (ht:MT cx.P t=true)(hx:s.ev x=some (.c (.own i)))(hb:y9 s.ob i=some (.row pn e0 deep sz enc xs)):
  Ps cx s (.call {callee:=.builtin .len,args:=#[x],argTypes:=#[t]}) ((sc (.int .i64 xs.length))):=
 fun A w E S hI hT=>by
  obtain⟨hlv,hu,_⟩:=J9 hT hx
  obtain⟨hl,hb⟩:=hI.obs _ _ hb
  obtain⟨A',cap',h3,_⟩:=s0 hl hb
  exact⟨_,fun w' hW _ _ _ _ _=>yU ht (hu.trans h3) w',D2 rfl⟩
theorem M7 {t:TypeId} {x:Operand} {i e0:Nat} {pn:Option Value} {deep:Bool} {α:Type} {sz:Nat} {enc:α→Nat→T} {xs:List α} (hd:Q6 dst cx.n=true)(ht:MT cx.P t=true)(hx:s.ev x=some (.c (.own i)))(hb:y9 s.ob i=some (.row pn e0 deep sz enc xs)):
  Os cx s ⟨dst,.call {callee:=.builtin .len,args:=#[x],argTypes:=#[t]},ty,pos,aft,none⟩ (s.sets dst (some (sc (.int .i64 xs.length)))) true:=C8 hd (J2 ht hx hb)
theorem bH {t:TypeId} {x:Operand} {b:ByteArray} (ht:cx.P.underlying t=some .string)(hx:s.ev x=some (sc (.string b))):
  Ps cx s (.call {callee:=.builtin .len,args:=#[x],argTypes:=#[t]}) ((sc (.int .i64 b.size))):=
 fun A w E S hI hT=>by
  refine⟨_,fun w' hW _ _ _ _ _=>?_,D2 rfl⟩
  simp [execOp,resolve,invoke,builtin,Z8 (J9 hT hx),Builtin.len_,run_underlying ht,goInt]
def pG:Bool × List AC→Option AV
 | (true,cs)=>some (.agg cs)
 | (false,[c])=>some (.c c)
 | _=>none
theorem VO {E:Nat→EE} {S:Nat→Prop} {w:World} {b:Bool} {cs:List AC} {v:AV} {u:Value} (h:pG (b,cs)=some v)(hd:KW E S w b cs u):M6 E S w v u:=by
 unfold KW at hd
 cases b with
 | true=>cases h;exact hd
 | false=>
  match cs,h with
  | [c],h=>
   cases h
   obtain⟨_,hd⟩:=hd
   obtain⟨u',h1,h2⟩:=hd 0 c rfl
   simp at h1
   exact h1 ▸ h2
theorem G4 {x:Operand} {j:Nat} {vs:List (Bool × List AC)} {y:Bool × List AC} {v:AV} (hx:s.ev x=some (.tup vs))(hy:vs[j]? =some y)(hv:pG y=some v):
  Ps cx s (.extract x j) (v):=
 fun A w E S hI hT=>by
  obtain⟨us,hu,hl,hus⟩:=J9 hT hx
  obtain⟨b,cs⟩:=y
  obtain⟨u',h1,h2⟩:=hus _ _ _ hy
  refine⟨u',fun w' hW _ _ _ _ _=>?_,VO hv h2⟩
  simp [execOp,hu,Instr.extract,h1]
theorem O9 {x:Operand} {j:Nat} {vs:List (Bool × List AC)} {y:Bool × List AC} {v:AV} (hd:Q6 dst cx.n=true)(hx:s.ev x=some (.tup vs))(hy:vs[j]? =some y)(hv:pG y=some v):
  Os cx s ⟨dst,.extract x j,ty,pos,aft,none⟩ (s.sets dst (some v)) true:=C8 hd (G4 hx hy hv)
theorem j9 {c:Operand} {x y:Code} {b:Bool} (hc:s.ev c=some (sc (.bool b)))(h1:b=true→Wt cx s (.code x::k) R)(h2:b=false→Wt cx s (.code y::k) R):Wt cx s (.code (.cond c x y)::k) R:=by
 intro a w hg
 have hg0:=hg
 obtain⟨E,S,hI,hT,_⟩:=hg
 have hb:=Z8 (J9 hT hc)
 intro fr cs hf hk
 have:Wt cx s (.code (if b=true then x else y)::k) R:=by
  cases b
  ·exact h2 rfl
  ·exact h1 rfl
 obtain⟨e,w',fr',hR,hcm,hfr,hl⟩:=this a w hg0 fr cs hf hk
 exact⟨e,w',fr',hR,Comes.of_steps (.one (step_cond hb)) hcm,hfr,hl⟩
end rules
end Go.Eng

set_option linter.unusedVariables false
set_option linter.unusedSimpArgs false
namespace Go.Eng
open Go Go.RowKit

def no:AC→Bool:=fun _=>false
def c5 (E:Nat→EE) (i:Nat) (x:EE):Nat→EE:=fun j=>if j=i then x else E j
theorem W8 (E:Nat→EE)(i:Nat)(x:EE):c5 E i x i=x:=if_pos rfl
theorem A8 {E:Nat→EE} {i j:Nat} {x:EE} (h:j≠i):c5 E i x j=E j:=if_neg h
theorem Ob.cut_none (o:Ob):o.cut no=o:=by
 cases o with
 | box cells=>show Ob.box (cells.map (AC.cut fun _=>false))=_;rw [H3]
 | row=>rfl
 | pbox v cells=>show Ob.pbox v (cells.map (AC.cut fun _=>false))=_;rw [H3]
 | bag=>rfl
theorem x6.carry {E E':Nat→EE} {S S':Nat→Prop} {w w':World} {p:AC→Bool} (h:Carry E E' S S' w w' p) {i:Nat} {o:Ob} (hu:(E' i).u=(E i).u)(hF:∀k,(E' i).F k↔(E i).F k)(hr:(E' i).rd↔(E i).rd)(hk:∀k,(E i).F k→w'.heap[k]? =w.heap[k]?)(ho:x6 E S w i o):x6 E' S' w' i (o.cut p):=by
 cases o with
 | box cells=>
  obtain⟨h1,g,e,cs,h2,h3,h4,h5⟩:=ho
  exact⟨fun q=>h1 (hr.1 q),g,e,cs,hu.trans h2,fun k=>(hF k).trans (h3 k),(hk g ((h3 g).2 rfl)).trans h4,h.l h5⟩
 | row pn e deep sz enc xs=>
  obtain⟨h1,hpn,h2⟩:=ho
  refine⟨hr.2 h1,fun v hv=>hu.trans (hpn v hv),?_⟩
  cases deep
  ·simp only [Bool.false_eq_true,if_false] at h2 ⊢
   rw [hu]
   exact Ro.move h.sub h.keep (fun k q=>(hF k).2 q) hk h2
  ·simp only [if_true] at h2 ⊢
   rw [hu]
   exact AP.move (fun k q=>(hF k).2 q) hk h2
 | pbox v cells=>
  obtain⟨h0,h1,g,e,cs,h2,h3,h4,h5⟩:=ho
  exact⟨hu.trans h0,fun q=>h1 (hr.1 q),g,e,cs,hu.trans h2,fun k=>(hF k).trans (h3 k),(hk g ((h3 g).2 rfl)).trans h4,h.l h5⟩
 | bag x=>
  obtain⟨h1,h2⟩:=ho
  refine⟨hr.2 h1,?_⟩
  rw [hu]
  exact Rd.move (fun k q=>(hF k).2 q) hk _ _ h2
theorem O7.carry {E E':Nat→EE} {S S':Nat→Prop} {w w':World} (h:Carry E E' S S' w w' no) {tm:List (Nat × Option AV)} {tmps:Array Value} (ht:O7 E S w tm tmps):O7 E' S' w' tm tmps:=by
 intro t v hv
 have:=h.v (ht t v hv)
 rwa [show v.cut no=v from AV.cut_none v] at this
theorem r6.carry {E E':Nat→EE} {S S':Nat→Prop} {w w':World} (h:Carry E E' S S' w w' no) {cs:List AC} {us:List Value} (ht:r6 E S w cs us):r6 E' S' w' cs us:=by
 have:=h.l ht
 rwa [show cs.map (AC.cut no)=cs from H3 cs] at this
theorem xZ.alloc {M:Nat→Prop} {w0 w:World} (h:xZ M w0 w)(o:Obj):xZ M w0 (w.alloc o):=
 ⟨h.os,h.tape,h.output,Nat.le_trans h.size (by simp),fun k hk hm=>(heap_alloc_old w o (Nat.lt_of_lt_of_le hk h.size)).trans (h.block k hk hm)⟩
theorem Q2 {cx:Cx} {ob:List (Nat × Option Ob)} {nx:Nat} {E:Nat→EE} {S:Nat→Prop} {w:World} (hI:G6 cx ob nx E S w)(o:Obj)(x:EE):Carry E (c5 E nx x) S S w (w.alloc o) no where
 sub:=fun _ h=>h
 keep:=fun k hk=>heap_alloc_old w o (hI.slt k hk)
 place:=fun a _ i _ hl=>by
  have:=hI.nxt i hl
  rw [A8 (by omega)]
  exact⟨hl,rfl⟩
 reads:=fun a _ i _ hl=>by
  have:=hI.nxt i hl.1
  rw [A8 (by omega)]
  exact⟨hl,fun _ q=>q,fun k hk=>heap_alloc_old w o (hI.fp i hl.1 k hk).1⟩
theorem G6.new {cx:Cx} {ob:List (Nat × Option Ob)} {nx:Nat} {E:Nat→EE} {S:Nat→Prop} {w:World} (hI:G6 cx ob nx E S w)(o:Obj) {u:Value} {rd:Prop} {n:Ob}
  (hn:x6 (c5 E nx ⟨u,(· =w.heap.size),True,rd⟩) S (w.alloc o) nx n):G6 cx ((nx,some n)::ob) (nx + 1) (c5 E nx ⟨u,(· =w.heap.size),True,rd⟩) S (w.alloc o) where
 slt:=fun k hk=>by have:=hI.slt k hk;simp;omega
 snew:=hI.snew
 obs:=fun i o' h=>by
  rw [D9] at h
  by_cases e:i=nx
  ·subst e
   rw [if_pos rfl] at h
   cases h
   exact⟨by rw [W8];trivial,hn⟩
  ·rw [if_neg e] at h
   obtain⟨h1,h2⟩:=hI.obs i o' h
   refine⟨by rw [A8 e];exact h1,?_⟩
   have:=x6.carry (Q2 hI o ⟨u,(· =w.heap.size),True,rd⟩) (i:=i) (by rw [A8 e]) (fun k=>by rw [A8 e]) (by rw [A8 e]) (fun k hk=>heap_alloc_old w o (hI.fp i h1 k hk).1) h2
   rwa [Ob.cut_none] at this
 dis:=fun i j hij hi hj k h1 h2=>by
  by_cases e1:i=nx
  ·subst e1
   have e2:j≠i:=fun e=>hij e.symm
   rw [A8 e2] at hj h2
   rw [W8] at h1
   have:=(hI.fp j hj k h2).1
   have h1:k=w.heap.size:=h1
   omega
  ·rw [A8 e1] at hi h1
   by_cases e2:j=nx
   ·subst e2
    rw [W8] at h2
    have:=(hI.fp i hi k h1).1
    have h2:k=w.heap.size:=h2
    omega
   ·rw [A8 e2] at hj h2
    exact hI.dis i j hij hi hj k h1 h2
 fp:=fun i hi k hk=>by
  by_cases e:i=nx
  ·subst e
   rw [W8] at hk
   have hk:k=w.heap.size:=hk
   subst hk
   refine⟨by simp,fun h=>?_,.inl hI.kept.size⟩
   have:=hI.slt _ h
   omega
  ·rw [A8 e] at hi hk
   obtain⟨h1,h2⟩:=hI.fp i hi k hk
   exact⟨by simp;omega,h2⟩
 nxt:=fun i hi=>by
  by_cases e:i=nx
  ·omega
  ·rw [A8 e] at hi
   have:=hI.nxt i hi
   omega
 kept:=hI.kept.alloc o
theorem G6.newBox {cx:Cx} {ob:List (Nat × Option Ob)} {nx:Nat} {E:Nat→EE} {S:Nat→Prop} {w:World} (hI:G6 cx ob nx E S w)(e:TypeId) {cells:List AC} {cs:List Value} (hd:r6 E S w cells cs):
  G6 cx ((nx,some (.box cells))::ob) (nx + 1) (c5 E nx ⟨.pointer (some ⟨w.heap.size,0,none⟩),(· =w.heap.size),True,False⟩) S (w.alloc (.cells cs.toArray e (0,0))):=
 hI.new _ ⟨by rw [W8];exact fun q=>q,w.heap.size,e,cs,by rw [W8],fun k=>by rw [W8],heap_alloc_new w _,r6.carry (Q2 hI _ _) hd⟩

def AV.cells:AV→Option (List AC)
 | .c a=>some [a]
 | .agg cs=>some cs
 | .tup _=>none
theorem pZ {E:Nat→EE} {S:Nat→Prop} {w:World} {v:AV} {u:Value} {cs:List AC} (hc:v.cells=some cs)(h:M6 E S w v u):r6 E S w cs u.cells.toList:=by
 cases v with
 | c a=>
  cases hc
  have h:S6 E S w a u:=h
  have:u.cells=#[u]:=by have:=h.one;cases u <;> first | rfl | (simp [Value.oneCell'] at this)
  rw [this]
  refine⟨rfl,fun j c hj=>?_⟩
  match j,hj with
  | 0,hj=>cases hj;exact⟨u,rfl,h⟩
 | agg cs'=>
  cases hc
  obtain⟨us,rfl,h⟩:=h
  exact h
 | tup=>cases hc

section rules
variable {cx:Cx} {s:St} {k:List Item} {R:Ending→World→Prop} {ops:Array Oper} {rest:List Oper} {dst:Option Nat} {ty:TypeId} {pos:String} {aft:Array Edge}
def St.obj (s:St) (i:Nat) (o:Ob):St:=⟨s.tm,(i,some o)::s.ob,i + 1⟩
theorem Gm.box {a:Act} {w:World} {E:Nat→EE} {S:Nat→Prop} (hI:G6 cx s.ob s.nx E S w)(hT:O7 E S w s.tm a.tmps)(hn:a.tmps.size=cx.n)(hdf:a.defers=[])(hd:Q6 dst cx.n=true)(e:TypeId) {cells:List AC} {cs:List Value} (hc:r6 E S w cells cs) {v:AV} {u:Value}
  (hv:∀E',(E' s.nx).live→(E' s.nx).u= .pointer (some ⟨w.heap.size,0,none⟩)→M6 E' S (w.alloc (.cells cs.toArray e (0,0))) v u):
  Gm cx ((s.obj s.nx (.box cells)).sets dst (some v)) (a.put dst u) (w.alloc (.cells cs.toArray e (0,0))):=by
 refine⟨c5 E s.nx ⟨.pointer (some ⟨w.heap.size,0,none⟩),(· =w.heap.size),True,False⟩,S,?_,I8 (s:=s.obj s.nx (.box cells)) hd hn (O7.carry (Q2 hI _ _) hT) (fun v' e=>?_),by rw [P8];exact hn,by rw [put_defers];exact hdf⟩
 ·rw [B7,A7]
  exact hI.newBox e hc
 ·cases e
  exact hv _ (by rw [W8];trivial) (by rw [W8])
theorem X9 (i:Nat) {t:TypeId} {x:Operand} {v:AV} {cs:List AC} (hi:s.nx=i)(hd:Q6 dst cx.n=true)(hx:s.ev x=some v)(hc:v.cells=some cs):
  Os cx s ⟨dst,.box t x,ty,pos,aft,none⟩ ((s.obj i (.box cs)).sets dst (some (.c (.ptr i 0)))) true:=by
 subst hi
 refine Z3 fun a w hg=>?_
 obtain⟨E,S,hI,hT,hn,hdf⟩:=hg
 have hv:=pZ hc (J9 hT hx)
 refine⟨.value (.pointer (some ⟨w.heap.size,0,none⟩)),w.alloc (.cells (a.eval x).cells.toList.toArray t (0,0)),?_,.inl ⟨_,rfl,?_⟩,fun _=>aX.alloc _ _⟩
 ·simp [execOp,Instr.box,newVar,newRow]
 ·exact Gm.box hI hT hn hdf hd t hv fun E' hl hu=>⟨hl,_,hu,rfl⟩
def F0 (P:Program) (t:TypeId):Option (List Value):=((P.info? t).bind (·.zero)).map (·.cells.toList)
def lJ (zs:List Value):List AC:=zs.map fun z=> .t none (.v z)
theorem zO {E:Nat→EE} {S:Nat→Prop} {w:World} {zs:List Value} (h:zs.all (·.oneCell')=true):r6 E S w (lJ zs) zs:=by
 refine⟨by simp [lJ],fun j c hj=>?_⟩
 simp only [lJ,List.getElem?_map] at hj
 obtain⟨z,h1,rfl⟩:=Option.map_eq_some_iff.mp hj
 exact⟨z,h1,trivial,rfl,(List.all_eq_true.1 h) z (List.mem_of_getElem? h1)⟩
theorem pW {P:Program} {t:TypeId} {zs:List Value} (h:F0 P t=some zs)(w:World):∃z,(zeroValue t).run P w= .ok z w∧z.cells=zs.toArray:=by
 unfold F0 at h
 obtain⟨z,h1,rfl⟩:=Option.map_eq_some_iff.mp h
 obtain⟨i,h2,h3⟩:=Option.bind_eq_some_iff.mp h1
 exact⟨z,by simp [zeroValue,typeInfo,h2,h3],by simp⟩
theorem I9 (i:Nat) {t:TypeId} {zs:List Value} (hi:s.nx=i)(hd:Q6 dst cx.n=true)(hz:F0 cx.P t=some zs)(h1:zs.all (·.oneCell')=true):
  Os cx s ⟨dst,.alloc t,ty,pos,aft,none⟩ ((s.obj i (.box (lJ zs))).sets dst (some (.c (.ptr i 0)))) true:=by
 subst hi
 refine Z3 fun a w hg=>?_
 obtain⟨E,S,hI,hT,hn,hdf⟩:=hg
 obtain⟨z,h2,h3⟩:=pW hz w
 refine⟨.value (.pointer (some ⟨w.heap.size,0,none⟩)),w.alloc (.cells zs.toArray t (0,0)),?_,.inl ⟨_,rfl,?_⟩,fun _=>aX.alloc _ _⟩
 ·simp [execOp,Instr.alloc,newVar,newRow,h2,h3]
 ·exact Gm.box hI hT hn hdf hd t (zO h1) fun E' hl hu=>⟨hl,_,hu,rfl⟩

def O6 {β:Type _} (cs:List β) (o:Nat) (us:List β):List β:=cs.take o++us++cs.drop (o + us.length)
def MY (pl:Nat→Option (Nat × Nat)):List AC→List (Nat × AV)→Option (List AC)
 | cs,[]=>some cs
 | cs,(i,v)::r=>match pl i,v.cells with
  | some (off,size),some us=>cond (Nat.beq us.length size&&Nat.ble (off + us.length) cs.length) (MY pl (O6 cs off us) r) none
  | _,_=>none
theorem XU {E:Nat→EE} {S:Nat→Prop} {w:World} {cs us:List AC} {vs ws:List Value} {o:Nat} (hb:o + us.length≤cs.length)(h:r6 E S w cs vs)(h2:r6 E S w us ws):r6 E S w (O6 cs o us) (O6 vs o ws):=by
 have l1:=h.1
 have l2:=h2.1
 refine⟨by simp [O6];omega,fun j c hj=>?_⟩
 unfold O6 at hj ⊢
 by_cases h1:j < o
 ·rw [List.append_assoc,List.getElem?_append_left (by simp;omega),List.getElem?_take,if_pos h1] at hj
  obtain⟨u,q1,q2⟩:=h.2 j c hj
  exact⟨u,by rw [List.append_assoc,List.getElem?_append_left (by simp;omega),List.getElem?_take,if_pos h1];exact q1,q2⟩
 ·by_cases h3:j < o + us.length
  ·rw [List.getElem?_append_left (by simp;omega),List.getElem?_append_right (by simp;omega)] at hj
   simp only [List.length_take,Nat.min_eq_left (by omega:o≤cs.length)] at hj
   obtain⟨u,q1,q2⟩:=h2.2 _ c hj
   refine⟨u,?_,q2⟩
   rw [List.getElem?_append_left (by simp;omega),List.getElem?_append_right (by simp;omega)]
   simp only [List.length_take,Nat.min_eq_left (by omega:o≤vs.length)]
   exact q1
  ·rw [List.getElem?_append_right (by simp;omega)] at hj
   simp only [List.length_append,List.length_take,Nat.min_eq_left (by omega:o≤cs.length),List.getElem?_drop] at hj
   obtain⟨u,q1,q2⟩:=h.2 _ c hj
   refine⟨u,?_,q2⟩
   rw [List.getElem?_append_right (by simp;omega)]
   simp only [List.length_append,List.length_take,Nat.min_eq_left (by omega:o≤vs.length),List.getElem?_drop]
   rw [← q1]
   congr 1
   omega
theorem bM (us:List Value):∀(cs:Array Value) (o n:Nat),o + n + us.length≤cs.size→((us.zipIdx n).foldl (fun cs (x:Value × Nat)=>cs.setIfInBounds (o + x.2) x.1) cs).toList=O6 cs.toList (o + n) us:=by
 induction us with
 | nil=>intro cs o n h;simp [O6]
 | cons u us ih=>
  intro cs o n h
  simp only [List.length_cons] at h
  simp only [List.zipIdx_cons,List.foldl_cons]
  rw [ih _ _ _ (by simp;omega)]
  apply List.ext_getElem?
  intro j
  simp only [O6,Array.toList_setIfInBounds,List.length_cons]
  by_cases h1:j < o + n
  ·rw [List.append_assoc,List.getElem?_append_left (by simp;omega),List.append_assoc,List.getElem?_append_left (by simp;omega),List.getElem?_take,List.getElem?_take,if_pos (by omega),if_pos h1,List.getElem?_set,if_neg (by omega)]
  ·by_cases h2:j=o + n
   ·subst h2
    rw [List.append_assoc,List.getElem?_append_left (by simp;omega),List.getElem?_take,if_pos (by omega),List.getElem?_set,if_pos rfl,if_pos (by simp;omega)]
    rw [List.append_assoc,List.getElem?_append_right (by simp;omega)]
    simp [Nat.min_eq_left (by omega:o + n≤cs.size)]
   ·by_cases h3:j < o + n + 1 + us.length
    ·rw [List.getElem?_append_left (by simp;omega),List.getElem?_append_right (by simp;omega),List.getElem?_append_left (by simp;omega),List.getElem?_append_right (by simp;omega)]
     simp only [List.length_take,List.length_set,Array.length_toList,Nat.min_eq_left (by omega:o + n≤cs.size),Nat.min_eq_left (by omega:o +(n + 1)≤cs.size)]
     rw [show j - (o + n)=(j - (o +(n + 1))) + 1 by omega,List.getElem?_cons_succ]
    ·rw [List.getElem?_append_right (by simp;omega),List.getElem?_append_right (by simp;omega)]
     simp only [List.length_append,List.length_take,List.length_set,List.length_cons,Array.length_toList,Nat.min_eq_left (by omega:o + n≤cs.size),Nat.min_eq_left (by omega:o +(n + 1)≤cs.size),List.getElem?_drop]
     rw [List.getElem?_set,if_neg (by omega)]
     congr 1
     omega
def mL (s:St):List (Nat × Operand)→Option (List (Nat × AV))
 | []=>some []
 | (i,x)::r=>match s.ev x,mL s r with
  | some v,some l=>some ((i,v)::l)
  | _,_=>none
theorem CZ {E:Nat→EE} {S:Nat→Prop} {w:World} {a:Act} (hT:O7 E S w s.tm a.tmps) {pl:Nat→Option (Nat × Nat)}:∀(parts:List (Nat × Operand)) (vs:List (Nat × AV)) (cs cs':List AC) (us:Array Value),mL s parts=some vs→MY pl cs vs=some cs'→r6 E S w cs us.toList→
  ∃us',Instr.fill pl us (parts.map fun(i,x)=>(i,a.eval x))=some us'∧r6 E S w cs' us'.toList
 | [],vs,cs,cs',us,h1,h2,h3=>by
  cases h1
  cases h2
  exact⟨us,rfl,h3⟩
 | (i,x)::r,vs,cs,cs',us,h1,h2,h3=>by
  simp only [mL] at h1
  split at h1
  ·rename_i v l hv hl
   cases h1
   simp only [MY] at h2
   split at h2
   ·rename_i off size cl hp hc
    have hcd:=pZ hc (J9 hT hv)
    cases hb:(Nat.beq cl.length size&&Nat.ble (off + cl.length) cs.length)
    ·rw [hb] at h2;cases h2
    ·rw [hb,cond_true] at h2
     rw [Bool.and_eq_true] at hb
     obtain⟨hb1,hb2⟩:=hb
     have hb1:cl.length=size:=Nat.eq_of_beq_eq_true hb1
     have hb2:off + cl.length≤cs.length:=by simpa using hb2
     have q1:=hcd.1
     have q2:=h3.1
     rw [Array.length_toList] at q1 q2
     have hden:=XU (o:=off) hb2 h3 hcd
     have hput:=bM (a.eval x).cells.toList us off 0 (by simp;omega)
     rw [Nat.add_zero] at hput
     rw [← hput] at hden
     obtain⟨us',h4,h5⟩:=CZ hT r l _ cs' _ hl h2 hden
     refine⟨us',?_,h5⟩
     simp only [List.map_cons,Instr.fill,hp]
     rw [if_neg (by simp;omega)]
     rw [← h4]
     congr 1
     rw [← Array.foldl_toList,Array.toList_zipIdx]
   ·cases h2
  ·cases h1
def vY (P:Program) (t:TypeId):Option (List (Nat × Nat)):=
 match P.underlying t with
 | some (.struct fs)=>fs.toList.mapM fun f=>(P.info? f.type).map fun i=>(f.offset,i.size)
 | _=>none
theorem cN {t:TypeId} {parts:Array (Nat × Operand)} {pl:List (Nat × Nat)} {zs:List Value} {vs:List (Nat × AV)} {cs:List AC} (hp:vY cx.P t=some pl)(hz:F0 cx.P t=some zs)(h1:zs.all (·.oneCell')=true)(hv:mL s parts.toList=some vs)(hc:MY (pl[·]?) (lJ zs) vs=some cs):
  Ps cx s (.build t parts) ((.agg cs)):=
 fun a w E S hI hT=>by
  obtain⟨us',h4,h5⟩:=CZ hT parts.toList vs (lJ zs) cs zs.toArray hv hc (by simpa using zO h1)
  refine⟨.agg us',fun w' hW _ _ _ _ _=>?_,us'.toList,by simp,h5⟩
  unfold F0 at hz
  obtain⟨z,e1,rfl⟩:=Option.map_eq_some_iff.mp hz
  obtain⟨i,e2,e3⟩:=Option.bind_eq_some_iff.mp e1
  unfold vY at hp
  split at hp
  ·rename_i fs hu
   have hb:cx.P.built t (parts.map fun(i,x)=>(i,a.eval x)).toList=some us':=by
    unfold Program.built
    rw [e2,hu]
    simp only [e3,hp]
    rw [Array.toList_map]
    simp only [Array.toArray_toList,List.getElem?_toArray] at h4 ⊢
    exact h4
   simp only [execOp]
   rw [Sem.run_bind,run_build w' t _ us' hb]
   rfl
  ·cases hp
theorem AJ {t:TypeId} {parts:Array (Nat × Operand)} {pl:List (Nat × Nat)} {zs:List Value} {vs:List (Nat × AV)} {cs:List AC} (hd:Q6 dst cx.n=true)(hp:vY cx.P t=some pl)(hz:F0 cx.P t=some zs)(h1:zs.all (·.oneCell')=true)(hv:mL s parts.toList=some vs)(hc:MY (pl[·]?) (lJ zs) vs=some cs):
  Os cx s ⟨dst,.build t parts,ty,pos,aft,none⟩ (s.sets dst (some (.agg cs))) true:=C8 hd (cN hp hz h1 hv hc)
end rules
end Go.Eng

set_option linter.unusedVariables false
set_option linter.unusedSimpArgs false
namespace Go.Eng
open Go Go.RowKit

def PZ (P:Program) (t:TypeId):Option (TypeId × Nat × List Value):=
 match P.underlying t with
 | some (.slice e)=>match D0 P e,F0 P e with
  | some sz,some zs=>some (e,sz,zs)
  | _,_=>none
 | _=>none
theorem PY {P:Program} {t e:TypeId} {sz:Nat} {zs:List Value} (h:PZ P t=some (e,sz,zs))(hz:zs.length=sz)(len:Nat)(parts:Array (Nat × Value))(cells:Array Value)(hsmall:len * sz≤2 ^ 24)(w:World)
  (hf:Instr.fill (fun i=>some (i * sz,sz)) ((Array.range (len * sz)).map (zs.toArray[· % zs.length]!)) parts.toList=some cells):
  (Instr.buildSlice t len parts).run P w= .ok (.slice (some ⟨w.heap.size,0,none⟩) len len) (w.alloc (.cells cells e)):=by
 unfold PZ at h
 split at h
 ·rename_i e' hu
  split at h
  ·rename_i sz' zs' h1 h2
   cases h
   obtain⟨z,h3,h4⟩:=pW h2 w
   by_cases h0:len * sz=0
   ·rw [h0] at hf
    have e0:∀f:Nat→Value,(Array.range 0).map f=#[]:=fun f=>by simp
    rw [e0] at hf
    have hs:¬(len * sz > 2 ^ 24):=by omega
    simp only [Instr.buildSlice,Sem.run_bind,run_underlying hu,Result.andThen_ok,R0 h1,Sem.run_ite,if_neg hs,if_pos h0,Sem.run_pure]
    rw [h0,e0,hf]
    simp [newRow]
   ·have hs:¬(len * sz > 2 ^ 24):=by omega
    have h5:z.cells.size=zs.length:=by rw [h4];simp
    simp only [Instr.buildSlice,Sem.run_bind,run_underlying hu,Result.andThen_ok,R0 h1,Sem.run_ite,if_neg hs,if_neg h0,Sem.run_pure,h3,h4]
    simp only [List.size_toArray]
    rw [hf]
    simp [newRow]
  ·cases h
 ·cases h
section rules
variable {cx:Cx} {s:St} {k:List Item} {R:Ending→World→Prop} {ops:Array Oper} {rest:List Oper} {dst:Option Nat} {ty:TypeId} {pos:String} {aft:Array Edge}
theorem G8 (i:Nat) {t e:TypeId} {len sz:Nat} {zs:List Value} {parts:Array (Nat × Operand)} {vs:List (Nat × AV)} {cs:List AC} (hi:s.nx=i)(hd:Q6 dst cx.n=true)(he:PZ cx.P t=some (e,sz,zs))(hz:Nat.beq zs.length sz=true)(h1:zs.all (·.oneCell')=true)(hsmall:Nat.ble (len * sz) 16777216=true)(hv:mL s parts.toList=some vs)(hc:MY (fun i=>some (i * sz,sz)) (List.replicate (len * sz) .top) vs=some cs):
  Os cx s ⟨dst,.buildSlice t len parts,ty,pos,aft,none⟩ ((s.obj i (.box cs)).sets dst (some (.c (.bsl i len)))) true:=by
 subst hi
 refine Z3 fun a w hg=>?_
 obtain⟨E,S,hI,hT,hn,hdf⟩:=hg
 have hz:=Nat.eq_of_beq_eq_true hz
 have htop:r6 E S w (List.replicate (len * sz) .top) ((Array.range (len * sz)).map (zs.toArray[· % zs.length]!)).toList:=by
  refine⟨by simp,fun j c hj=>?_⟩
  rw [List.getElem?_replicate] at hj
  split at hj
  ·rename_i hlt
   cases hj
   have hpos:0 < zs.length:=by
    rcases Nat.eq_zero_or_pos zs.length with h0 | h0
    ·rw [h0] at hz;subst hz;simp at hlt
    ·exact h0
   have hm:j % zs.length < zs.length:=Nat.mod_lt _ hpos
   refine⟨zs[j % zs.length],by simp [hlt,hm],?_⟩
   exact(List.all_eq_true.1 h1) _ (List.getElem_mem hm)
  ·cases hj
 obtain⟨us',h4,h5⟩:=CZ hT parts.toList vs _ cs _ hv hc htop
 have hr:=PY (P:=cx.P) he hz len (parts.map fun(i,x)=>(i,a.eval x)) us' (by simpa using hsmall) w (by rw [Array.toList_map];exact h4)
 refine⟨.value (.slice (some ⟨w.heap.size,0,none⟩) len len),w.alloc (.cells us'.toList.toArray e (0,0)),?_,.inl ⟨_,rfl,?_⟩,fun _=>aX.alloc _ _⟩
 ·simp only [execOp]
  rw [Sem.run_bind,hr]
  rfl
 ·exact Gm.box hI hT hn hdf hd e h5 fun E' hl hu=>⟨hl,_,hu,rfl⟩

theorem KY {P:Program} {t:TypeId} {g o e:Nat} {cur:List Value} {u:Value} {w:World} (hs:D0 P t=some u.cells.size)(hg:w.heap[g]? =some (.cells cur.toArray e (0,0)))(hb:o + u.cells.size≤cur.length)(h1:∀v∈u.cells.toList,v.oneCell'=true):
  (Instr.storeAt t (.pointer (some ⟨g,o,none⟩)) u).run P w= .ok () (w.setRow g (O6 cur o u.cells.toList).toArray):=by
 have:=run_storeCells_at P g o e u.cells.toList 0 cur.toArray w hg (by simpa using hb) h1
 simp only [Nat.add_zero] at this
 simp only [Instr.storeAt,Instr.sureAddr,Sem.run_bind,Sem.run_pure,Result.andThen_ok,storeVar,R0 hs,Sem.run_ite,ne_eq,not_true,if_false,this]
 simp [O6]
theorem r6.ones {E:Nat→EE} {S:Nat→Prop} {w:World} {cs:List AC} {us:List Value} (h:r6 E S w cs us):∀v∈us,v.oneCell'=true:=by
 intro v hv
 obtain⟨j,hj,rfl⟩:=List.getElem_of_mem hv
 have hj2:j < cs.length:=by rw [← h.1];exact hj
 obtain⟨u,h1,h2⟩:=h.2 j cs[j] (List.getElem?_eq_getElem hj2)
 rw [List.getElem?_eq_getElem hj] at h1
 cases h1
 exact h2.one
theorem xZ.setRow {M:Nat→Prop} {w0 w:World} (h:xZ M w0 w) {g:Nat} (hg:w0.heap.size≤g∨M g)(cs:Array Value):xZ M w0 (w.setRow g cs):=
 ⟨h.os,h.tape,h.output,by simpa using h.size,fun k hk hm=>(setRow_other w g k cs (by rintro rfl;exact hg.elim (fun q=>by omega) hm)).trans (h.block k hk hm)⟩
theorem kS {cx:Cx} {ob:List (Nat × Option Ob)} {nx:Nat} {E:Nat→EE} {S:Nat→Prop} {w:World} (hI:G6 cx ob nx E S w) {i g:Nat} (hl:(E i).live)(hg:(E i).F g)(cs:Array Value) {p:AC→Bool} (hp:∀a,p a=false→a.reads i=true→¬(E i).rd):
  Carry E E S S w (w.setRow g cs) p where
 sub:=fun _ h=>h
 keep:=fun k hk=>setRow_other w g k cs (by rintro rfl;exact(hI.fp i hl k hg).2.1 hk)
 place:=fun _ _ _ _ h=>⟨h,rfl⟩
 reads:=fun a ha j hj h=>⟨h,fun _ q=>q,fun k hk=>setRow_other w g k cs (by
  rintro rfl
  by_cases e:j=i
  ·subst e
   exact hp a ha hj h.2
  ·exact hI.dis j i e h.1 hl k hk hg)⟩
theorem rQ {t:TypeId} {x y:Operand} {i o n:Nat} {cells us:List AC} {v:AV} (hs:D0 cx.P t=some n)(hx:s.ev x=some (.c (.ptr i o)))(hb:y9 s.ob i=some (.box cells))(hy:s.ev y=some v)(hv:v.cells=some us)(hn:Nat.beq us.length n=true)(hle:Nat.ble (o + us.length) cells.length=true):
  Os cx s ⟨none,.store t x y,ty,pos,aft,none⟩ ⟨s.tm,(i,some (.box (O6 cells o us)))::s.ob,s.nx⟩ false:=by
 refine Z3 fun a w hg=>?_
 obtain⟨E,S,hI,hT,hsz,hdf⟩:=hg
 have hn:us.length=n:=Nat.eq_of_beq_eq_true hn
 have hle:o + us.length≤cells.length:=by simpa using hle
 obtain⟨hlv,g,h1,h2⟩:=J9 hT hx
 obtain⟨_,hrd,g',e,cs,h3,hF,h4,h5⟩:=hI.obs _ _ hb
 rw [h3] at h1
 cases h1
 have hd:=pZ hv (J9 hT hy)
 have l1:=hd.1
 rw [Array.length_toList] at l1
 have hr:=KY (P:=cx.P) (t:=t) (o:=o) (u:=a.eval y) (by rw [hs,l1,hn]) h4 (by have:=h5.1;omega) hd.ones
 have hgF:(E i).F g:=(hF g).2 rfl
 have hc:Carry E E S S w (w.setRow g (O6 cs o (a.eval y).cells.toList).toArray) no:=kS hI hlv hgF _ (fun _ _ _=>hrd)
 refine⟨.skip,_,?_,.inr ⟨rfl,E,S,?_,O7.carry hc hT,hsz,hdf⟩,fun h=>by(cases h)⟩
 ·simp only [execOp,h2]
  rw [Sem.run_bind,hr]
  rfl
 ·refine⟨fun q hq=>by simpa using hI.slt q hq,hI.snew,fun j o' hj=>?_,hI.dis,fun j hj q hq=>by simpa using hI.fp j hj q hq,hI.nxt,hI.kept.setRow (hI.fp i hlv g hgF).2.2 _⟩
  rw [D9] at hj
  by_cases e':j=i
  ·subst e'
   rw [if_pos rfl] at hj
   cases hj
   exact⟨hlv,hrd,g,e,_,h3,hF,setRow_heap w g _ _ e _ h4,r6.carry hc (XU hle h5 hd)⟩
  ·rw [if_neg e'] at hj
   obtain⟨q1,q2⟩:=hI.obs j o' hj
   refine⟨q1,?_⟩
   have:=x6.carry hc (i:=j) rfl (fun _=>Iff.rfl) Iff.rfl (fun q hq=>setRow_other w g q _ (by rintro rfl;exact hI.dis j i e' q1 hlv q hq hgF)) q2
   rwa [Ob.cut_none] at this

inductive Z2 (P:Program) (s:St):List ResultVar→List (Bool × List AC)→Prop
 | nil:Z2 P s [] []
 | tmp {t:Nat} {a:AC} {rs:List ResultVar} {vs:List (Bool × List AC)} (h:y9 s.tm t=some (.c a)) (hr:Z2 P s rs vs):Z2 P s (.tmp t::rs) ((false,[a])::vs)
 | agg {t:Nat} {cs:List AC} {rs:List ResultVar} {vs:List (Bool × List AC)} (h:y9 s.tm t=some (.agg cs)) (hr:Z2 P s rs vs):Z2 P s (.tmp t::rs) ((true,cs)::vs)
 | cell {p i:Nat} {ty:TypeId} {a:AC} {rs:List ResultVar} {vs:List (Bool × List AC)} (hg:d5 P ty=some false) (h:y9 s.tm p=some (.c (.ptr i 0))) (hb:y9 s.ob i=some (.box [a])) (hr:Z2 P s rs vs):Z2 P s (.cell p ty::rs) ((false,[a])::vs)
 | cells {p i n:Nat} {ty:TypeId} {cs:List AC} {rs:List ResultVar} {vs:List (Bool × List AC)} (hg:d5 P ty=some true) (hn:D0 P ty=some n) (h:y9 s.tm p=some (.c (.ptr i 0))) (hb:y9 s.ob i=some (.box cs)) (hl:Nat.beq cs.length n=true) (hr:Z2 P s rs vs):Z2 P s (.cell p ty::rs) ((true,cs)::vs)
def IL:List (Bool × List AC)→Option AV
 | [x]=>pG x
 | vs=>some (.tup vs)
def vM (tmps:Array Value):ResultVar→Sem Value
 | .tmp t=>pure (tmps.getD t undef)
 | .cell a t=>do loadVar t (← asAddr (tmps.getD a undef))
theorem jO (fn:Func)(tmps:Array Value):results fn tmps=(do let vs ← fn.results.mapM (vM tmps);pure (if h:vs.size=1 then vs[0] else .tuple vs)):=by
 unfold results
 congr
theorem zT {P:Program} (a:Addr)(w:World):(asAddr (.pointer (some a))).run P w= .ok a w:=rfl
theorem ZR {E:Nat→EE} {S:Nat→Prop} {w:World} {tmps:Array Value} (hI:G6 cx s.ob s.nx E S w)(hT:O7 E S w s.tm tmps):∀ {rs:List ResultVar} {vs:List (Bool × List AC)},Z2 cx.P s rs vs→
  ∃us:List Value,(rs.mapM (vM tmps)).run cx.P w= .ok us w∧us.length=vs.length∧∀(j:Nat) (b:Bool) (cs:List AC),vs[j]? =some (b,cs)→∃u',us[j]? =some u'∧KW E S w b cs u':=by
 intro rs vs h
 induction h with
 | nil=>exact⟨[],rfl,rfl,fun j b cs h=>by simp at h⟩
 | @tmp t a rs vs h hr ih=>
  obtain⟨us,h1,h2,h3⟩:=ih
  have hv:=hT t _ h
  refine⟨tmps.getD t undef::us,?_,by simp [h2],fun j b cs hj=>?_⟩
  ·simp only [List.mapM_cons,Sem.run_bind,Sem.run_pure,Result.andThen_ok,h1,vM]
  ·match j with
   | 0=>cases hj;exact⟨_,rfl,by unfold KW;rw [if_neg (by simp)];exact⟨rfl,fun q c hq=>by match q,hq with | 0,hq=>cases hq;exact⟨_,rfl,hv⟩⟩⟩
   | j + 1=>exact h3 j b cs hj
 | @agg t cl rs vs h hr ih=>
  obtain⟨us,h1,h2,h3⟩:=ih
  have hv:=hT t _ h
  refine⟨tmps.getD t undef::us,?_,by simp [h2],fun j b cs hj=>?_⟩
  ·simp only [List.mapM_cons,Sem.run_bind,Sem.run_pure,Result.andThen_ok,h1,vM]
  ·match j with
   | 0=>cases hj;exact⟨_,rfl,by unfold KW;rw [if_pos rfl];exact hv⟩
   | j + 1=>exact h3 j b cs hj
 | @cell p i ty a rs vs hg h hb hr ih=>
  obtain⟨us,h1,h2,h3⟩:=ih
  obtain⟨hlv,g,e1,e2⟩:=hT p _ h
  obtain⟨_,_,g',e,cs,e3,_,e4,e5⟩:=hI.obs _ _ hb
  rw [e3] at e1
  cases e1
  obtain⟨u,e6,e7⟩:=e5.2 0 a rfl
  refine⟨u::us,?_,by simp [h2],fun j b cs' hj=>?_⟩
  ·have hl:=W1 hg ((cell_of_row w g 0 _ e _ e4).trans (by simpa using e6)) (P:=cx.P)
   simp only [Instr.loadAt,Instr.sureAddr,Sem.run_bind,Sem.run_pure,Result.andThen_ok] at hl
   simp only [List.mapM_cons,Sem.run_bind,Sem.run_pure,Result.andThen_ok,h1,vM,e2,zT,hl]
  ·match j with
   | 0=>cases hj;exact⟨_,rfl,by unfold KW;rw [if_neg (by simp)];exact⟨rfl,fun q c hq=>by match q,hq with | 0,hq=>cases hq;exact⟨_,rfl,e7⟩⟩⟩
   | j + 1=>exact h3 j b cs' hj
 | @cells p i n ty cl rs vs hg hn h hb hl hr ih=>
  obtain⟨us,h1,h2,h3⟩:=ih
  obtain⟨hlv,g,e1,e2⟩:=hT p _ h
  obtain⟨_,_,g',e,cs,e3,_,e4,e5⟩:=hI.obs _ _ hb
  rw [e3] at e1
  cases e1
  have hl:=Nat.eq_of_beq_eq_true hl
  refine⟨.agg cs.toArray::us,?_,by simp [h2],fun j b cs' hj=>?_⟩
  ·have hl:=mX (P:=cx.P) (w:=w) (ad:=⟨g,0,none⟩) (cs:=cs) hg hn (by rw [e5.1,hl]) (fun j v hv=>by rw [U6,Nat.zero_add,cell_of_row w g j _ e _ e4];simpa using hv)
   simp only [Instr.loadAt,Instr.sureAddr,Sem.run_bind,Sem.run_pure,Result.andThen_ok] at hl
   simp only [List.mapM_cons,Sem.run_bind,Sem.run_pure,Result.andThen_ok,h1,vM,e2,zT,hl]
  ·match j with
   | 0=>cases hj;exact⟨_,rfl,by unfold KW;rw [if_pos rfl];exact⟨cs,rfl,e5⟩⟩
   | j + 1=>exact h3 j b cs' hj
theorem bR {E:Nat→EE} {S:Nat→Prop} {w:World} {tmps:Array Value} {fn:Func} (hI:G6 cx s.ob s.nx E S w)(hT:O7 E S w s.tm tmps) {vs:List (Bool × List AC)} {v:AV} (h:Z2 cx.P s fn.results.toList vs)(hv:IL vs=some v):
  ∃u,(results fn tmps).run cx.P w= .ok u w∧M6 E S w v u:=by
 obtain⟨us,h1,h2,h3⟩:=ZR hI hT h
 refine⟨if h:us.toArray.size=1 then us.toArray[0] else .tuple us.toArray,?_,?_⟩
 ·rw [jO,Array.mapM_eq_mapM_toList,Sem.run_bind,Sem.run_map,h1]
  rfl
 ·match vs,us,h2,hv,h3 with
  | [],[],_,hv,h3=>cases hv;exact⟨[],rfl,rfl,fun j b cs h=>by simp at h⟩
  | [(b,cs)],[u],_,hv,h3=>
   obtain⟨u',q1,q2⟩:=h3 0 b cs rfl
   cases q1
   exact VO hv q2
  | a::b::vs,u1::u2::us,_,hv,h3=>
   cases hv
   exact⟨_,rfl,by assumption,h3⟩
theorem uZ {fn:Func} {vs:List (Bool × List AC)} {v:AV} (hf:cx.P.funcs[cx.f]? =some fn)(h:Z2 cx.P s fn.results.toList vs)(hv:IL vs=some v)(hR:∀E S w u,G6 cx s.ob s.nx E S w→M6 E S w v u→R (.returned u) w):Wt cx s (.code .ret::k) R:=by
 intro a w hg b cs hfn hk
 obtain⟨E,S,hI,hT,hn,hdf⟩:=hg
 obtain⟨u,h1,h2⟩:=bR hI hT h hv
 exact⟨.returned u,w,_,hR E S w u hI h2,.one step_ret,hfn,rfl,hdf,hk,fn,by rw [show({b.at a (.code .ret::k) with mode:=.returning}:Frame).fn=cx.f from hfn];exact hf,h1⟩
end rules

def A5:EE:=⟨.nilIface,fun _=>False,False,False⟩
def F2 (E:Nat→EE) (S:Nat→Prop) (w:World) (args:List AV) (vs:List Value):Prop:=
 vs.length=args.length∧∀(j:Nat) (v:AV),args[j]? =some v→∃u,vs[j]? =some u∧M6 E S w v u
def Pu (P:Program) (f:FuncId) (args:List AV) (ob:List (Nat × Option Ob)) (nx:Nat) (res:AV):Prop:=
 ∀(n:Nat) (w:World) (S:Nat→Prop) (vs:List Value),(∀k,S k→k < w.heap.size)→F2 (fun _=>A5) S w args vs→
  Calls P f vs.toArray w fun e w'=>∃u E' S',e= .returned u∧G6 ⟨P,f,n,w,S,fun _=>False⟩ ob nx E' S' w'∧M6 E' S' w' res u
def X0:Nat→List AV→List (Nat × Option AV)
 | _,[]=>[]
 | i,v::r=>(i,some v)::X0 (i + 1) r
theorem TY:∀(args:List AV) (i t:Nat),y9 (X0 i args) t=if t < i then none else args[t - i]?
 | [],i,t=>by simp [X0,y9]
 | v::r,i,t=>by
  simp only [X0]
  rw [D9,TY r (i + 1) t]
  by_cases h1:t=i
  ·subst h1;simp
  ·by_cases h2:t < i
   ·rw [if_neg h1,if_pos (by omega),if_pos h2]
   ·rw [if_neg h1,if_neg (by omega),if_neg h2,show t - i=(t - (i + 1)) + 1 by omega,List.getElem?_cons_succ]
def post (P:Program) (f:FuncId) (n:Nat) (w:World) (S:Nat→Prop) (ob:List (Nat × Option Ob)) (nx:Nat) (res:AV):Ending→World→Prop:=
 fun e w'=>∃u E' S',e= .returned u∧G6 ⟨P,f,n,w,S,fun _=>False⟩ ob nx E' S' w'∧M6 E' S' w' res u
theorem TI {P:Program} {f:FuncId} {n n':Nat} {w:World} {S:Nat→Prop} {ob:List (Nat × Option Ob)} {nx:Nat} {res:AV} {e:Ending} {w':World} (h:post P f n w S ob nx res e w'):post P f n' w S ob nx res e w':=by
 obtain⟨u,E',S',h1,h2,h3⟩:=h
 exact⟨u,E',S',h1,⟨h2.slt,h2.snew,h2.obs,h2.dis,h2.fp,h2.nxt,h2.kept⟩,h3⟩
theorem YK {P:Program} {f:FuncId} {fn:Func} {c:Code} {args:List AV} {ob:List (Nat × Option Ob)} {nx:Nat} {res:AV} (hf:P.funcs[f]? =some fn)(hb:fn.body=some c)(ha:args.length≤fn.ntmps)
  (h:∀w S,Wt ⟨P,f,fn.ntmps,w,S,fun _=>False⟩ ⟨X0 0 args,[],0⟩ [.code c] (post P f fn.ntmps w S ob nx res)):Pu P f args ob nx res:=by
 intro n w S vs hS hA cs
 let b:Frame:= {(default:Frame) with fn:=f,kind:=.normal}
 have henter:Frame.enter P f vs.toArray .normal=b.at {tmps:=vs.toArray++Array.replicate (fn.ntmps - vs.toArray.size) undef,defers:=[]} [.code c]:=by
  simp [Frame.enter,Frame.at,hf,hb,b]
 have hg:Gm ⟨P,f,fn.ntmps,w,S,fun _=>False⟩ ⟨X0 0 args,[],0⟩ {tmps:=vs.toArray++Array.replicate (fn.ntmps - vs.toArray.size) undef,defers:=[]} w:=by
  refine⟨fun _=>A5,S,⟨hS,fun k h=> .inl h,fun i o h=>by simp [y9] at h,fun i j _ h=>h.elim,fun i h=>h.elim,fun i h=>h.elim,xZ.refl _ _⟩,fun t v ht=>?_,?_,rfl⟩
  ·rw [show(⟨X0 0 args,[],0⟩:St).tm=X0 0 args from rfl,TY] at ht
   simp only [Nat.not_lt_zero,if_false,Nat.sub_zero] at ht
   obtain⟨u,h1,h2⟩:=hA.2 t v ht
   have:(vs.toArray++Array.replicate (fn.ntmps - vs.toArray.size) undef).getD t undef=u:=by
    rw [Array.getD_eq_getD_getElem?,Array.getElem?_append_left (by simpa using (List.getElem?_eq_some_iff.1 h1).1)]
    simp [h1]
   rw [show({tmps:=vs.toArray++Array.replicate (fn.ntmps - vs.toArray.size) undef,defers:=[]}:Act).tmps=vs.toArray++Array.replicate (fn.ntmps - vs.toArray.size) undef from rfl,this]
   exact h2
  ·have:=hA.1
   simp
   omega
 obtain⟨e,w',fr,hR,hc,hfr,hl⟩:=h w S _ w hg b cs rfl rfl
 rw [← henter] at hc
 exact⟨e,w',fr,TI hR,hc,hfr,hl⟩
end Go.Eng

set_option linter.unusedVariables false
set_option linter.unusedSimpArgs false
namespace Go.Eng
open Go Go.RowKit

inductive YS (s:St):AC→T→Prop
 | t {r:Option Nat} {x:T}:YS s (.t r x) x
 | own {i e:Nat} {pn:Option Value} {deep:Bool} {α:Type} {sz:Nat} {enc:α→Nat→T} {xs:List α} (h:y9 s.ob i=some (.row pn e deep sz enc xs)):YS s (.own i) (.sl sz enc xs)
 | nil {α:Type} {sz:Nat} {enc:α→Nat→T} {n:Nat}:YS s (.t none (.v (.slice none 0 n))) (.sl sz enc [])
inductive QT (s:St):List AC→(Nat→T)→Nat→Prop
 | nil {c:Nat→T} {j:Nat}:QT s [] c j
 | cons {a:AC} {al:List AC} {c:Nat→T} {j:Nat} (h:YS s a (c j)) (hr:QT s al c (j + 1)):QT s (a::al) c j
inductive lQ (s:St):List (Nat × Nat)→List ((Nat→T) × Nat)→Prop
 | nil:lQ s [] []
 | cons {i o m:Nat} {c:Nat→T} {cells al:List AC} {ps:List (Nat × Nat)} {cs:List ((Nat→T) × Nat)} (h:y9 s.ob i=some (.box cells)) (hl:(cells.drop o).take m=al) (hm:al.length=m) (hc:QT s al c 0) (hr:lQ s ps cs):lQ s ((i,o)::ps) ((c,m)::cs)
 | pcons {i o m:Nat} {pv:Value} {c:Nat→T} {cells al:List AC} {ps:List (Nat × Nat)} {cs:List ((Nat→T) × Nat)} (h:y9 s.ob i=some (.pbox pv cells)) (hl:(cells.drop o).take m=al) (hm:al.length=m) (hc:QT s al c 0) (hr:lQ s ps cs):lQ s ((i,o)::ps) ((c,m)::cs)
inductive kO (s:St) {α:Type} (enc:α→Nat→T):List AC→List α→Prop
 | nil {al:List AC}:kO s enc al []
 | cons {a:AC} {x:α} {al:List AC} {xs:List α} (h:YS s a (enc x 0)) (hr:kO s enc al xs):kO s enc (a::al) (x::xs)
inductive CP (s:St):Bool→AC→AC→Prop
 | t0 {sh:Bool} {x:T}:CP s sh (.t none x) (.t none x)
 | t1 {i:Nat} {x:T}:CP s false (.t (some i) x) (.t none x)
 | own {i e:Nat} {pn:Option Value} {deep:Bool} {α:Type} {sz:Nat} {enc:α→Nat→T} {xs:List α} (h:y9 s.ob i=some (.row pn e deep sz enc xs)):CP s false (.own i) (.t none (.sl sz enc xs))
 | nil {sh:Bool} {α:Type} {sz:Nat} {enc:α→Nat→T} {n:Nat}:CP s sh (.t none (.v (.slice none 0 n))) (.t none (.sl sz enc []))
 | p0 {sh:Bool} {c:Nat→T} {m:Nat}:CP s sh (.pel none c m) (.pel none c m)
 | p1 {i:Nat} {c:Nat→T} {m:Nat}:CP s false (.pel (some i) c m) (.pel none c m)
 | fn {sh:Bool} {f:Nat}:CP s sh (.clo f []) (.clo f [])
 | fv {sh:Bool} {f:Nat} {cs:List ((Nat→T) × Nat)}:CP s sh (.fv f cs) (.fv f cs)
 | clo {f:Nat} {ps:List (Nat × Nat)} {cs:List ((Nat→T) × Nat)} (h:lQ s ps cs):CP s false (.clo f ps) (.fv f cs)
 | p2 {i o m:Nat} {c:Nat→T} {cells al:List AC} (h:y9 s.ob i=some (.box cells)) (hl:(cells.drop o).take m=al) (hm:al.length=m) (hc:QT s al c 0):CP s false (.ptr i o) (.pel none c m)
 | top {sh:Bool} {a:AC}:CP s sh a .top
 | bsl {i n:Nat} {α:Type} {enc:α→Nat→T} {xs:List α} {cells:List AC} (h:y9 s.ob i=some (.box cells)) (hn:Nat.beq n xs.length=true) (hc:kO s enc cells xs):CP s false (.bsl i n) (.t none (.sl 1 enc xs))
inductive qM (s:St) (sh:Bool):List AC→List AC→Prop
 | nil:qM s sh [] []
 | cons {a b:AC} {al bs:List AC} (h:CP s sh a b) (hr:qM s sh al bs):qM s sh (a::al) (b::bs)
inductive yN (s:St) (sh:Bool):AV→AV→Prop
 | c {a b:AC} (h:CP s sh a b):yN s sh (.c a) (.c b)
 | agg {al bs:List AC} (h:qM s sh al bs):yN s sh (.agg al) (.agg bs)
inductive pR (s:St) (sh:Bool):List Operand→List AV→Prop
 | nil:pR s sh [] []
 | cons {x:Operand} {v b:AV} {xs:List Operand} {bs:List AV} (hx:s.ev x=some v) (h:yN s sh v b) (hr:pR s sh xs bs):pR s sh (x::xs) (b::bs)
def Sc (sh:Bool) (S:Nat→Prop) (w:World):Nat→Prop:=fun k=>if sh=true then S k else k < w.heap.size
theorem OX {w:World} {S:Nat→Prop} {α:Type} {sz:Nat} {enc:α→Nat→T} {n:Nat}:Rd w S (.sl sz enc []) (.slice none 0 n):=⟨none,n,rfl,Nat.zero_le _,fun i x h=>by simp at h⟩
section
variable {cx:Cx} {s:St} {E:Nat→EE} {S:Nat→Prop} {w:World} {sh:Bool}
theorem ZL (hI:G6 cx s.ob s.nx E S w)(k:Nat)(h:S k):Sc sh S w k:=by
 unfold Sc
 split
 ·exact h
 ·exact hI.slt k h
theorem UP {i e:Nat} {pn:Option Value} {deep:Bool} {α:Type} {sz:Nat} {enc:α→Nat→T} {xs:List α} (hI:G6 cx s.ob s.nx E S w)(h:y9 s.ob i=some (.row pn e deep sz enc xs)):Rd w (fun k=>k < w.heap.size) (.sl sz enc xs) (E i).u:=by
 obtain⟨hl,hrd,_,ho⟩:=hI.obs _ _ h
 cases deep
 ·simp only [Bool.false_eq_true,if_false] at ho
  obtain⟨cells,h1,h2,h3⟩:=ho
  obtain⟨A,cap,hu,hc,hr⟩:=LY h1
  refine⟨A,cap,hu,hc,fun j x hx=>?_⟩
  cases A with
  | none=>
   have hl2:=h1.2
   rcases hl2 with⟨_,hn⟩ | ⟨g,cap',cur,e1,_⟩
   ·have:xs=[]:=List.eq_nil_of_length_eq_zero hn
    subst this
    simp at hx
   ·rw [hu] at e1;cases e1
  | some ad=>
   refine⟨ad,rfl,(hI.fp i hl _ (h2 _ (by rw [hu];rfl))).1,fun q hq=>?_⟩
   obtain⟨u',h4,h5⟩:=h3 j x hx q hq
   obtain⟨g,e1,_,e2⟩:=hr _ _ h4
   cases e1
   exact⟨u',e2,Rd.move (fun k hk=>hI.slt k hk) (fun _ _=>rfl) _ _ h5⟩
 ·simp only [if_true] at ho
  exact Rd.move (fun k hk=>(hI.fp i hl k hk).1) (fun _ _=>rfl) _ _ (Ow.rd (.sl sz enc xs) _ ⟨e,ho⟩)
theorem YS.den {a:AC} {t:T} {u:Value} (h:YS s a t)(hI:G6 cx s.ob s.nx E S w)(hd:S6 E S w a u):Rd w (fun k=>k < w.heap.size) t u:=by
 cases h with
 | @t r x=>
  obtain⟨hl,hd⟩:=hd
  cases r with
  | none=>exact Rd.move (fun k hk=>hI.slt k hk) (fun _ _=>rfl) _ _ hd
  | some i=>exact Rd.move (fun k hk=>(hI.fp i hl.1 k hk).1) (fun _ _=>rfl) _ _ hd
 | own h=>
  obtain⟨_,rfl,_⟩:=hd
  exact UP hI h
 | nil=>
  obtain⟨_,rfl,_⟩:=hd
  exact OX
theorem QT.get {al:List AC} {c:Nat→T} {st:Nat} (h:QT s al c st):∀q a,al[q]? =some a→YS s a (c (st + q)):=by
 induction h with
 | nil=>intro q a h;simp at h
 | @cons a0 al0 c0 j h hr ih=>
  intro q a hq
  match q with
  | 0=>cases hq;exact h
  | q + 1=>
   have:=ih q a (by simpa using hq)
   rwa [show j +(q + 1)=j + 1 + q by omega]
theorem qN {i o m:Nat} {c:Nat→T} {cells al:List AC} {u:Value} (h:y9 s.ob i=some (.box cells))(hl:(cells.drop o).take m=al)(hm:al.length=m)(hc:QT s al c 0)(hI:G6 cx s.ob s.nx E S w)(hp:NV E i o u):
  ∃ad:Addr,u= .pointer (some ad)∧ad.block < w.heap.size∧∀q,q < m→∃u',w.cell? (ad.add q)=some u'∧Rd w (fun k=>k < w.heap.size) (c q) u':=by
 obtain⟨hlv,g,h1,rfl⟩:=hp
 obtain⟨_,_,g',e,cs,h3,hF,h4,h5⟩:=hI.obs _ _ h
 rw [h3] at h1
 cases h1
 refine⟨_,rfl,(hI.fp i hlv g ((hF g).2 rfl)).1,fun q hq=>?_⟩
 obtain⟨a,ha⟩:∃a,al[q]? =some a:=⟨_,List.getElem?_eq_getElem (by omega)⟩
 have hcc:=hc.get q a ha
 rw [Nat.zero_add] at hcc
 rw [← hl,List.getElem?_take,if_pos hq,List.getElem?_drop] at ha
 obtain⟨u',e1,e2⟩:=h5.2 _ _ ha
 refine⟨u',?_,hcc.den hI e2⟩
 rw [U6,cell_of_row w g _ _ e _ h4]
 simpa using e1
theorem tL {i o m:Nat} {c:Nat→T} {cells al:List AC} {u pv:Value} (h:y9 s.ob i=some (.pbox pv cells))(hl:(cells.drop o).take m=al)(hm:al.length=m)(hc:QT s al c 0)(hI:G6 cx s.ob s.nx E S w)(hp:NV E i o u):
  ∃ad:Addr,u= .pointer (some ad)∧ad.block < w.heap.size∧∀q,q < m→∃u',w.cell? (ad.add q)=some u'∧Rd w (fun k=>k < w.heap.size) (c q) u':=by
 obtain⟨hlv,g,h1,rfl⟩:=hp
 obtain⟨_,_,_,g',e,cs,h3,hF,h4,h5⟩:=hI.obs _ _ h
 rw [h3] at h1
 cases h1
 refine⟨_,rfl,(hI.fp i hlv g ((hF g).2 rfl)).1,fun q hq=>?_⟩
 obtain⟨a,ha⟩:∃a,al[q]? =some a:=⟨_,List.getElem?_eq_getElem (by omega)⟩
 have hcc:=hc.get q a ha
 rw [Nat.zero_add] at hcc
 rw [← hl,List.getElem?_take,if_pos hq,List.getElem?_drop] at ha
 obtain⟨u',e1,e2⟩:=h5.2 _ _ ha
 refine⟨u',?_,hcc.den hI e2⟩
 rw [U6,cell_of_row w g _ _ e _ h4]
 simpa using e1
theorem lQ.den {ps:List (Nat × Nat)} {cs:List ((Nat→T) × Nat)} {us:List Value} (h:lQ s ps cs)(hI:G6 cx s.ob s.nx E S w)(hu:us.length=ps.length)(hd:∀(j:Nat) (p:Nat × Nat),ps[j]? =some p→∃u',us[j]? =some u'∧NV E p.1 p.2 u'):
  us.length=cs.length∧∀(j:Nat) (p:(Nat→T) × Nat),cs[j]? =some p→∃ad:Addr,us[j]? =some (.pointer (some ad))∧ad.block < w.heap.size∧∀q,q < p.2→∃u',w.cell? (ad.add q)=some u'∧Rd w (fun k=>k < w.heap.size) (p.1 q) u':=by
 induction h generalizing us with
 | nil=>exact⟨hu,fun j p hj=>by simp at hj⟩
 | cons h hl hm hc hr ih=>
  cases us with
  | nil=>simp at hu
  | cons u us=>
   have:=ih (us:=us) (by simpa using hu) (fun j p hj=>hd (j + 1) p hj)
   refine⟨by simp [this.1],fun j p hj=>?_⟩
   match j with
   | 0=>
    cases hj
    obtain⟨u',e1,e2⟩:=hd 0 _ rfl
    cases e1
    obtain⟨ad,q1,q2,q3⟩:=qN h hl hm hc hI e2
    exact⟨ad,by rw [q1];rfl,q2,q3⟩
   | j + 1=>exact this.2 j p hj
 | pcons h hl hm hc hr ih=>
  cases us with
  | nil=>simp at hu
  | cons u us=>
   have:=ih (us:=us) (by simpa using hu) (fun j p hj=>hd (j + 1) p hj)
   refine⟨by simp [this.1],fun j p hj=>?_⟩
   match j with
   | 0=>
    cases hj
    obtain⟨u',e1,e2⟩:=hd 0 _ rfl
    cases e1
    obtain⟨ad,q1,q2,q3⟩:=tL h hl hm hc hI e2
    exact⟨ad,by rw [q1];rfl,q2,q3⟩
   | j + 1=>exact this.2 j p hj
theorem kO.get {α:Type} {enc:α→Nat→T} {al:List AC} {xs:List α} (h:kO s enc al xs):∀(q:Nat) (x:α),xs[q]? =some x→∃a,al[q]? =some a∧YS s a (enc x 0):=by
 induction h with
 | nil=>intro q x h;simp at h
 | cons h hr ih=>
  intro q x hq
  match q with
  | 0=>cases hq;exact⟨_,rfl,h⟩
  | q + 1=>exact ih q x (by simpa using hq)
theorem PI {i n:Nat} {α:Type} {enc:α→Nat→T} {xs:List α} {cells:List AC} {u:Value} (h:y9 s.ob i=some (.box cells))(hn:Nat.beq n xs.length=true)(hc:kO s enc cells xs)(hI:G6 cx s.ob s.nx E S w)(hd:S6 E S w (.bsl i n) u):Rd w (fun k=>k < w.heap.size) (.sl 1 enc xs) u:=by
 obtain⟨hlv,g,h1,rfl⟩:=hd
 obtain⟨_,_,g',e,cs,h3,hF,h4,h5⟩:=hI.obs _ _ h
 rw [h3] at h1
 cases h1
 have hn':n=xs.length:=Nat.eq_of_beq_eq_true hn
 subst hn'
 refine⟨_,_,rfl,Nat.le_refl _,fun j x hx=>⟨_,rfl,(hI.fp i hlv g ((hF g).2 rfl)).1,fun q hq=>?_⟩⟩
 obtain rfl:q=0:=by omega
 obtain⟨a,ha,hcc⟩:=hc.get j x hx
 obtain⟨u',e1,e2⟩:=h5.2 _ _ ha
 refine⟨u',?_,hcc.den hI e2⟩
 rw [U6,cell_of_row w g _ _ e _ h4]
 simpa using e1
theorem CP.den {a b:AC} {u:Value} (h:CP s sh a b)(hI:G6 cx s.ob s.nx E S w)(hd:S6 E S w a u):S6 (fun _=>A5) (Sc sh S w) w b u:=by
 cases h with
 | t0=>exact⟨trivial,Rd.move (ZL hI) (fun _ _=>rfl) _ _ hd.2⟩
 | @t1 i x=>exact⟨trivial,Rd.move (fun k hk=>show Sc false S w k from by unfold Sc;exact(hI.fp i hd.1.1 k hk).1) (fun _ _=>rfl) _ _ hd.2⟩
 | own h=>
  obtain⟨_,rfl,_⟩:=hd
  exact⟨trivial,UP hI h⟩
 | nil=>
  obtain⟨_,rfl,_⟩:=hd
  exact⟨trivial,OX⟩
 | p0=>
  obtain⟨_,ad,rfl,h1,h2⟩:=hd
  refine⟨trivial,ad,rfl,ZL hI _ h1,fun j hj=>?_⟩
  obtain⟨u',h3,h4⟩:=h2 j hj
  exact⟨u',h3,Rd.move (ZL hI) (fun _ _=>rfl) _ _ h4⟩
 | @p1 i c m=>
  obtain⟨hl,ad,rfl,h1,h2⟩:=hd
  have hk:∀k,(E i).F k→Sc false S w k:=fun k hk=>by unfold Sc;exact(hI.fp i hl.1 k hk).1
  refine⟨trivial,ad,rfl,hk _ h1,fun j hj=>?_⟩
  obtain⟨u',h3,h4⟩:=h2 j hj
  exact⟨u',h3,Rd.move hk (fun _ _=>rfl) _ _ h4⟩
 | fn=>
  obtain⟨us,rfl,h1,h2⟩:=hd
  exact⟨us,rfl,h1,fun j p hp=>by simp at hp⟩
 | fv=>
  obtain⟨us,rfl,h1,h2⟩:=hd
  refine⟨us,rfl,h1,fun j p hp=>?_⟩
  obtain⟨ad,q1,q2,q3⟩:=h2 j p hp
  refine⟨ad,q1,ZL hI _ q2,fun q hq=>?_⟩
  obtain⟨u',e1,e2⟩:=q3 q hq
  exact⟨u',e1,Rd.move (ZL hI) (fun _ _=>rfl) _ _ e2⟩
 | clo h=>
  obtain⟨us,rfl,h1,h2⟩:=hd
  obtain⟨q1,q2⟩:=h.den hI h1 h2
  exact⟨us,rfl,q1,q2⟩
 | p2 h hl hm hc=>
  obtain⟨ad,q1,q2,q3⟩:=qN h hl hm hc hI hd
  exact⟨trivial,ad,q1,q2,q3⟩
 | top=>exact hd.one
 | bsl h hn hc=>
  have:=PI h hn hc hI hd
  exact⟨trivial,this⟩
theorem qM.den {al bs:List AC} {us:List Value} (h:qM s sh al bs)(hI:G6 cx s.ob s.nx E S w)(hd:r6 E S w al us):r6 (fun _=>A5) (Sc sh S w) w bs us:=by
 induction h generalizing us with
 | nil=>exact⟨hd.1,fun j c hj=>by simp at hj⟩
 | cons h hr ih=>
  obtain⟨h1,h2⟩:=hd
  cases us with
  | nil=>simp at h1
  | cons u us=>
   have:=ih (us:=us) ⟨by simpa using h1,fun j c hj=>h2 (j + 1) c hj⟩
   refine⟨by simp [this.1],fun j c hj=>?_⟩
   match j with
   | 0=>
    cases hj
    obtain⟨u',e1,e2⟩:=h2 0 _ rfl
    cases e1
    exact⟨u,rfl,h.den hI e2⟩
   | j + 1=>exact this.2 j c hj
theorem yN.den {a b:AV} {u:Value} (h:yN s sh a b)(hI:G6 cx s.ob s.nx E S w)(hd:M6 E S w a u):M6 (fun _=>A5) (Sc sh S w) w b u:=by
 cases h with
 | c h=>exact h.den hI hd
 | agg h=>
  obtain⟨us,rfl,hd⟩:=hd
  exact⟨us,rfl,h.den hI hd⟩
theorem pR.den {xs:List Operand} {bs:List AV} {a:Act} (h:pR s sh xs bs)(hI:G6 cx s.ob s.nx E S w)(hT:O7 E S w s.tm a.tmps):F2 (fun _=>A5) (Sc sh S w) w bs (xs.map a.eval):=by
 induction h with
 | nil=>exact⟨rfl,fun j v hj=>by simp at hj⟩
 | cons hx h hr ih=>
  refine⟨by simp [ih.1],fun j v hj=>?_⟩
  match j with
  | 0=>cases hj;exact⟨_,rfl,h.den hI (J9 hT hx)⟩
  | j + 1=>exact ih.2 j v hj
end

def AC.up (d:Nat):AC→AC
 | .t (some i) x=> .t (some (d + i)) x
 | .pel (some i) c m=> .pel (some (d + i)) c m
 | .ptr i o=> .ptr (d + i) o
 | .own i=> .own (d + i)
 | .bsl i n=> .bsl (d + i) n
 | .poe i e sz o=> .poe (d + i) e sz o
 | .cel i e sz o=> .cel (d + i) e sz o
 | .vw i off n sz=> .vw (d + i) off n sz
 | .clo f caps=> .clo f (caps.map fun p=>(d + p.1,p.2))
 | a=>a
def AV.up (d:Nat):AV→AV
 | .c a=> .c (a.up d)
 | .agg cs=> .agg (cs.map (AC.up d))
 | .tup vs=> .tup (vs.map fun x=>(x.1,x.2.map (AC.up d)))
def Ob.up (d:Nat):Ob→Ob
 | .box cs=> .box (cs.map (AC.up d))
 | .pbox v cs=> .pbox v (cs.map (AC.up d))
 | o=>o
def BP (d:Nat):List (Nat × Option Ob)→List (Nat × Option Ob)→List (Nat × Option Ob)
 | [],r=>r
 | (i,o)::l,r=>(d + i,o.map (Ob.up d))::BP d l r
def AC.ns:AC→Bool
 | .t none (.sl ..)=>false
 | .t none (.ab _)=>false
 | .pel none _ _=>false
 | .fv _ _=>false
 | _=>true
def Ob.ns:Ob→Bool
 | .box cs=>cs.all AC.ns
 | .row _ _ deep _ _ _=>deep
 | .pbox _ cs=>cs.all AC.ns
 | .bag ..=>true
def JH (l:List (Nat × Option Ob)):Bool:=l.all fun x=>match x.2 with | some o=>o.ns | none=>true
def S7 (d:Nat) (E E':Nat→EE):Nat→EE:=fun i=>if i < d then E i else E' (i - d)
theorem X8 (d:Nat)(E E':Nat→EE)(i:Nat):S7 d E E' (d + i)=E' i:=by
 unfold S7
 rw [if_neg (by omega),Nat.add_sub_cancel_left]
theorem H5 {d:Nat} {E E':Nat→EE} {i:Nat} (h:i < d):S7 d E E' i=E i:=if_pos h
section
variable {d:Nat} {E E':Nat→EE} {S' S'':Nat→Prop} {w:World}
theorem bG (hS:∀k,S' k→S'' k) {a:AC} {u:Value} (hd:S6 E' S' w a u):S6 (S7 d E E') S'' w (a.up d) u:=by
 cases a with
 | top=>exact hd
 | t r x=>
  cases r with
  | none=>exact⟨trivial,Rd.move hS (fun _ _=>rfl) _ _ hd.2⟩
  | some i=>
   show((S7 d E E' (d + i)).live∧(S7 d E E' (d + i)).rd)∧Rd w (S7 d E E' (d + i)).F x u
   rw [X8]
   exact hd
 | ptr i o=>show NV _ (d + i) o u;unfold NV;rw [X8];exact hd
 | own i=>show _∧_;rw [X8];exact hd
 | bsl i n=>show _∧_;rw [X8];exact hd
 | pel r c m=>
  cases r with
  | none=>
   obtain⟨_,ad,h1,h2,h3⟩:=hd
   exact⟨trivial,ad,h1,hS _ h2,fun j hj=>by
    obtain⟨u',e1,e2⟩:=h3 j hj
    exact⟨u',e1,Rd.move hS (fun _ _=>rfl) _ _ e2⟩⟩
  | some i=>
   show((S7 d E E' (d + i)).live∧(S7 d E E' (d + i)).rd)∧∃ad:Addr,u= .pointer (some ad)∧(S7 d E E' (d + i)).F ad.block∧∀j,j < m→∃u',w.cell? (ad.add j)=some u'∧Rd w (S7 d E E' (d + i)).F (c j) u'
   rw [X8]
   exact hd
 | poe i e sz o=>show _∧_;rw [X8];exact hd
 | vw i off n sz=>show(S7 d E E' (d + i)).live∧∃g m cap cap',(S7 d E E' (d + i)).u= .slice (some ⟨g,0,none⟩) m cap∧u= .slice (some ⟨g,off * sz,none⟩) n cap'∧off + cap'=cap;rw [X8];exact hd
 | cel i e sz o=>show((S7 d E E' (d + i)).live∧(S7 d E E' (d + i)).rd)∧u.oneCell'=true∧∃g n cap,(S7 d E E' (d + i)).u= .slice (some ⟨g,0,none⟩) n cap∧(S7 d E E' (d + i)).F g∧w.cell? ⟨g,e * sz + o,none⟩=some u;rw [X8];exact hd
 | fv f cs=>
  obtain⟨us,h1,h2,h3⟩:=hd
  refine⟨us,h1,h2,fun j p hp=>?_⟩
  obtain⟨ad,q1,q2,q3⟩:=h3 j p hp
  refine⟨ad,q1,hS _ q2,fun q hq=>?_⟩
  obtain⟨u',e1,e2⟩:=q3 q hq
  exact⟨u',e1,Rd.move hS (fun _ _=>rfl) _ _ e2⟩
 | clo f caps=>
  obtain⟨us,h1,h2,h3⟩:=hd
  refine⟨us,h1,by rw [h2,List.length_map],fun j p hp=>?_⟩
  rw [List.getElem?_map] at hp
  obtain⟨q,e1,rfl⟩:=Option.map_eq_some_iff.mp hp
  obtain⟨u',e2,e3⟩:=h3 j q e1
  refine⟨u',e2,?_⟩
  unfold NV at *
  rw [X8]
  exact e3
theorem kG {S1 S2:Nat→Prop} {a:AC} {u:Value} (hn:a.ns=true)(hd:S6 E' S1 w a u):S6 E' S2 w a u:=by
 cases a with
 | t r x=>
  cases r with
  | none=>
   cases x with
   | v x=>exact hd
   | sl=>simp [AC.ns] at hn
   | ab=>simp [AC.ns] at hn
  | some i=>exact hd
 | pel r c m=>
  cases r with
  | none=>simp [AC.ns] at hn
  | some i=>exact hd
 | fv f cs=>simp [AC.ns] at hn
 | _=>exact hd
theorem PL (hS:∀k,S' k→S'' k) {cs:List AC} {us:List Value} (hd:r6 E' S' w cs us):r6 (S7 d E E') S'' w (cs.map (AC.up d)) us:=by
 refine⟨by rw [hd.1,List.length_map],fun j c hj=>?_⟩
 rw [List.getElem?_map] at hj
 obtain⟨q,e1,rfl⟩:=Option.map_eq_some_iff.mp hj
 obtain⟨u',e2,e3⟩:=hd.2 j q e1
 exact⟨u',e2,bG hS e3⟩
theorem sK {S1 S2:Nat→Prop} {cs:List AC} {us:List Value} (hn:cs.all AC.ns=true)(hd:r6 E' S1 w cs us):r6 E' S2 w cs us:=
 ⟨hd.1,fun j c hj=>by
  obtain⟨u',e2,e3⟩:=hd.2 j c hj
  exact⟨u',e2,kG (List.all_eq_true.1 hn c (List.mem_of_getElem? hj)) e3⟩⟩
theorem cP (hS:∀k,S' k→S'' k) {a:AV} {u:Value} (hd:M6 E' S' w a u):M6 (S7 d E E') S'' w (a.up d) u:=by
 cases a with
 | c a=>exact bG hS hd
 | agg cs=>obtain⟨us,rfl,hd⟩:=hd;exact⟨us,rfl,PL hS hd⟩
 | tup vs=>
  obtain⟨us,rfl,hl,hd⟩:=hd
  refine⟨us,rfl,by rw [hl,List.length_map],fun j b cs hj=>?_⟩
  rw [List.getElem?_map] at hj
  obtain⟨⟨b0,c0⟩,e1,e2⟩:=Option.map_eq_some_iff.mp hj
  cases e2
  obtain⟨u',e2,e3⟩:=hd j b0 c0 e1
  refine⟨u',e2,?_⟩
  unfold KW at *
  split
  ·rename_i hb
   rw [if_pos hb] at e3
   obtain⟨us,rfl,e3⟩:=e3
   exact⟨us,rfl,PL hS e3⟩
  ·rename_i hb
   rw [if_neg hb] at e3
   exact PL hS e3
theorem pH {S1 S2:Nat→Prop} {a:AV} {u:Value} (hn:a.all AC.ns=true)(hd:M6 E' S1 w a u):M6 E' S2 w a u:=by
 cases a with
 | c a=>exact kG hn hd
 | agg cs=>obtain⟨us,rfl,hd⟩:=hd;exact⟨us,rfl,sK hn hd⟩
 | tup vs=>
  obtain⟨us,rfl,hl,hd⟩:=hd
  refine⟨us,rfl,hl,fun j b cs hj=>?_⟩
  have hn:cs.all AC.ns=true:=(List.all_eq_true.1 hn) (b,cs) (List.mem_of_getElem? hj)
  obtain⟨u',e2,e3⟩:=hd j b cs hj
  refine⟨u',e2,?_⟩
  unfold KW at *
  split
  ·rename_i hb
   rw [if_pos hb] at e3
   obtain⟨us,rfl,e3⟩:=e3
   exact⟨us,rfl,sK hn e3⟩
  ·rename_i hb
   rw [if_neg hb] at e3
   exact sK hn e3
theorem DI (hS:∀k,S' k→S'' k) {i:Nat} {o:Ob} (ho:x6 E' S' w i o):x6 (S7 d E E') S'' w (d + i) (o.up d):=by
 cases o with
 | box cells=>
  obtain⟨h1,g,e,cs,h2,h3,h4,h5⟩:=ho
  refine⟨by rw [X8];exact h1,g,e,cs,by rw [X8];exact h2,fun k=>by rw [X8];exact h3 k,h4,PL hS h5⟩
 | row pn e deep sz enc xs=>
  obtain⟨h1,hpn,h2⟩:=ho
  refine⟨by rw [X8];exact h1,by rw [X8];exact hpn,?_⟩
  rw [X8]
  cases deep
  ·simp only [Bool.false_eq_true,if_false] at h2 ⊢
   exact Ro.move hS (fun _ _=>rfl) (fun _ q=>q) (fun _ _=>rfl) h2
  ·exact h2
 | pbox v cells=>
  obtain⟨h0,h1,g,e,cs,h2,h3,h4,h5⟩:=ho
  refine⟨by rw [X8];exact h0,by rw [X8];exact h1,g,e,cs,by rw [X8];exact h2,fun k=>by rw [X8];exact h3 k,h4,PL hS h5⟩
 | bag x=>
  show(S7 d E E' (d + i)).rd∧Rd w (S7 d E E' (d + i)).F x (S7 d E E' (d + i)).u
  rw [X8]
  exact ho
theorem TH {S1 S2:Nat→Prop} {i:Nat} {o:Ob} (hn:o.ns=true)(ho:x6 E' S1 w i o):x6 E' S2 w i o:=by
 cases o with
 | box cells=>
  obtain⟨h1,g,e,cs,h2,h3,h4,h5⟩:=ho
  exact⟨h1,g,e,cs,h2,h3,h4,sK hn h5⟩
 | row pn e deep sz enc xs=>
  have hn:deep=true:=hn
  subst hn
  exact ho
 | pbox v cells=>
  obtain⟨h0,h1,g,e,cs,h2,h3,h4,h5⟩:=ho
  exact⟨h0,h1,g,e,cs,h2,h3,h4,sK hn h5⟩
 | bag x=>exact ho
end
theorem pV {d:Nat}:∀(l r:List (Nat × Option Ob)) (i:Nat),y9 (BP d l r) i=if d≤i∧(l.any fun x=>Nat.beq x.1 (i - d))=true then(y9 l (i - d)).map (Ob.up d) else y9 r i
 | [],r,i=>by simp [BP]
 | (j,o)::l,r,i=>by
  simp only [BP]
  rw [D9,pV l r i,D9]
  by_cases h1:i=d + j
  ·subst h1
   simp
  ·rw [if_neg h1]
   by_cases h2:d≤i
   ·have h3:¬(i - d=j):=by omega
    have h4:Nat.beq j (i - d)=false:=by
     cases hb:Nat.beq j (i - d)
     ·rfl
     ·exact absurd (Nat.eq_of_beq_eq_true hb).symm h3
    simp only [List.any_cons,h4,Bool.false_or,h3,if_false]
   ·simp [h2]
section rules
variable {cx:Cx} {s:St} {k:List Item} {R:Ending→World→Prop} {ops:Array Oper} {rest:List Oper} {dst:Option Nat} {ty:TypeId} {pos:String} {aft:Array Edge}
theorem G6.join {P:Program} {g:FuncId} {n:Nat} {sh:Bool} {ob':List (Nat × Option Ob)} {nx':Nat} {E E':Nat→EE} {S S':Nat→Prop} {w w':World} (hI:G6 cx s.ob s.nx E S w)(hI':G6 ⟨P,g,n,w,Sc sh S w,fun _=>False⟩ ob' nx' E' S' w')(hns:sh=true∨JH ob'=true):
  G6 cx (BP s.nx ob' s.ob) (s.nx + nx') (S7 s.nx E E') (fun k=>S k∨(sh=true∧S' k)) w'∧Carry E (S7 s.nx E E') S (fun k=>S k∨(sh=true∧S' k)) w w' no:=by
 have hb:∀k,k < w.heap.size→w'.heap[k]? =w.heap[k]? :=fun k hk=>hI'.kept.block k hk (fun h=>h)
 have hC:Carry E (S7 s.nx E E') S (fun k=>S k∨(sh=true∧S' k)) w w' no:= {
  sub:=fun _ h=> .inl h
  keep:=fun k hk=>hb k (hI.slt k hk)
  place:=fun a _ i _ hl=>by rw [H5 (hI.nxt i hl)];exact⟨hl,rfl⟩
  reads:=fun a _ i _ hl=>by rw [H5 (hI.nxt i hl.1)];exact⟨hl,fun _ q=>q,fun k hk=>hb k (hI.fp i hl.1 k hk).1⟩}
 have hsn:∀k,sh=true→S' k→S k∨w.heap.size≤k:=fun k hs h=>by
  rcases hI'.snew k h with h | h
  ·refine .inl ?_
   have h:Sc sh S w k:=h
   unfold Sc at h
   rwa [if_pos hs] at h
  ·exact .inr h
 refine⟨⟨?_,?_,?_,?_,?_,?_,?_⟩,hC⟩
 ·rintro k (h | ⟨_,h⟩)
  ·exact Nat.lt_of_lt_of_le (hI.slt k h) hI'.kept.size
  ·exact hI'.slt k h
 ·rintro k (h | ⟨hs,h⟩)
  ·exact hI.snew k h
  ·rcases hsn k hs h with h | h
   ·exact hI.snew k h
   ·exact .inr (Nat.le_trans hI.kept.size h)
 ·intro i o h
  rw [pV] at h
  split at h
  ·rename_i hc
   obtain⟨o',h1,rfl⟩:=Option.map_eq_some_iff.mp h
   obtain⟨h2,h3⟩:=hI'.obs _ _ h1
   have e:i=s.nx +(i - s.nx):=by omega
   rw [e,X8]
   refine⟨h2,?_⟩
   cases hsh:sh
   ·rcases hns with q | q
    ·rw [hsh] at q;cases q
    ·have hno:o'.ns=true:=by
      have hm:∀(l:List (Nat × Option Ob)) (q:Nat),JH l=true→y9 l q=some o'→o'.ns=true:=by
       intro l
       induction l with
       | nil=>intro q _ h;simp [y9] at h
       | cons x l ih=>
        intro q hn h
        obtain⟨j,oj⟩:=x
        simp only [JH,List.all_cons,Bool.and_eq_true] at hn
        rw [D9] at h
        split at h
        ·subst h;exact hn.1
        ·exact ih q hn.2 h
      exact hm _ _ q h1
     have:=DI (d:=s.nx) (E:=E) (S'':=fun k=>S k∨(false=true∧S' k)) (fun k hk=>hk) (TH (S2:=fun k=>S k∨(false=true∧S' k)) hno h3)
     exact this
   ·exact DI (fun k hk=> .inr ⟨rfl,hk⟩) h3
  ·obtain⟨h1,h2⟩:=hI.obs i o h
   have hlt:=hI.nxt i h1
   rw [H5 hlt]
   refine⟨h1,?_⟩
   have:=x6.carry hC (i:=i) (by rw [H5 hlt]) (fun k=>by rw [H5 hlt]) (by rw [H5 hlt]) (fun k hk=>hb k (hI.fp i h1 k hk).1) h2
   rwa [Ob.cut_none] at this
 ·intro i j hij hi hj q h1 h2
  by_cases e1:i < s.nx <;> by_cases e2:j < s.nx
  ·rw [H5 e1] at hi h1;rw [H5 e2] at hj h2
   exact hI.dis i j hij hi hj q h1 h2
  ·rw [H5 e1] at hi h1
   have:=(hI.fp i hi q h1).1
   have e:j=s.nx +(j - s.nx):=by omega
   rw [e,X8] at hj h2
   rcases (hI'.fp _ hj q h2).2.2 with h | h
   ·have h:w.heap.size≤q:=h
    omega
   ·exact h
  ·rw [H5 e2] at hj h2
   have:=(hI.fp j hj q h2).1
   have e:i=s.nx +(i - s.nx):=by omega
   rw [e,X8] at hi h1
   rcases (hI'.fp _ hi q h1).2.2 with h | h
   ·have h:w.heap.size≤q:=h
    omega
   ·exact h
  ·have e3:i=s.nx +(i - s.nx):=by omega
   have e4:j=s.nx +(j - s.nx):=by omega
   rw [e3,X8] at hi h1;rw [e4,X8] at hj h2
   exact hI'.dis _ _ (by omega) hi hj q h1 h2
 ·intro i hi q hq
  by_cases e1:i < s.nx
  ·rw [H5 e1] at hi hq
   obtain⟨h1,h2,h3⟩:=hI.fp i hi q hq
   refine⟨Nat.lt_of_lt_of_le h1 hI'.kept.size,?_,h3⟩
   rintro(h | ⟨hs,h⟩)
   ·exact h2 h
   ·rcases hsn q hs h with h | h
    ·exact h2 h
    ·omega
  ·have e3:i=s.nx +(i - s.nx):=by omega
   rw [e3,X8] at hi hq
   obtain⟨h1,h2,h3⟩:=hI'.fp _ hi q hq
   have h3:w.heap.size≤q:=h3.elim id False.elim
   refine⟨h1,?_,.inl (Nat.le_trans hI.kept.size h3)⟩
   rintro(h | ⟨hs,h⟩)
   ·have:=hI.slt q h
    omega
   ·exact h2 h
 ·intro i hi
  by_cases e1:i < s.nx
  ·omega
  ·have e3:i=s.nx +(i - s.nx):=by omega
   rw [e3,X8] at hi
   have:=hI'.nxt _ hi
   omega
 ·exact⟨hI'.kept.os.trans hI.kept.os,hI'.kept.tape.trans hI.kept.tape,hI'.kept.output.trans hI.kept.output,Nat.le_trans hI.kept.size hI'.kept.size,fun q hq hm=>(hb q (Nat.lt_of_lt_of_le hq hI.kept.size)).trans (hI.kept.block q hq hm)⟩
theorem n9 (d m:Nat)(sh:Bool) {g:FuncId} {xs:Array Operand} {ats:Array TypeId} {cargs:List AV} {ob':List (Nat × Option Ob)} {nx':Nat} {res:AV} (hE:Go.Proofs.Enters cx.P g)(hC:Pu cx.P g cargs ob' nx' res)(hd:Q6 dst cx.n=true)(ha:pR s sh xs.toList cargs)(hns:(sh||(JH ob'&&res.all AC.ns))=true)(hdx:s.nx=d)(hm:d + nx'=m):
  Os cx s ⟨dst,.call {callee:=.value (.func g),args:=xs,argTypes:=ats},ty,pos,aft,none⟩ ((⟨s.tm,BP d ob' s.ob,m⟩:St).sets dst (some (res.up d))) true:=by
 subst hdx hm
 intro Q a w hg
 obtain⟨E,S,hI,hT,hn,hdf⟩:=hg
 unfold Oper.wp
 rw [execOp_call_go,hE]
 have hargs:#[]++Array.map a.eval xs++#[]=(xs.toList.map a.eval).toArray:=by
  apply Array.ext'
  simp
 rw [hargs,Oper.upon_enter]
 refine(hC 0 w (Sc sh S w) (xs.toList.map a.eval) (fun k hk=>?_) (ha.den hI hT)).mono ?_
 ·unfold Sc at hk
  split at hk
  ·exact hI.slt k hk
  ·exact hk
 ·rintro e w' ⟨u,E',S',rfl,hI',hu⟩
  obtain⟨h1,h2⟩:=hI.join hI' (by cases sh <;> simp_all)
  refine⟨⟨_,_,by rw [B7,A7];exact h1,I8 (s:=⟨s.tm,BP s.nx ob' s.ob,s.nx + nx'⟩) hd hn (O7.carry h2 hT) (fun v' e=>?_),by rw [P8];exact hn,by rw [put_defers];exact hdf⟩,fun _=>⟨hI'.kept.size,fun k hk=>hI'.kept.block k hk (fun h=>h)⟩⟩
  cases e
  cases hsh:sh
  ·have hres:res.all AC.ns=true:=by rw [hsh] at hns;simp_all
   exact cP (S':=fun k=>S k∨(false=true∧S' k)) (fun k hk=>hk) (pH hres hu)
  ·exact cP (fun k hk=> .inr ⟨rfl,hk⟩) hu
end rules
end Go.Eng

set_option linter.unusedVariables false
set_option linter.unusedSimpArgs false
namespace Go.Eng
open Go Go.RowKit

def lH (s:St):List (Nat × Option AV)→Prop
 | []=>True
 | (t,some v)::r=>y9 s.tm t=some v∧lH s r
 | (_,none)::r=>lH s r
def JO (ob:List (Nat × Option Ob)):List (Nat × Option Ob)→Prop
 | []=>True
 | (t,some v)::r=>y9 ob t=some v∧JO ob r
 | (_,none)::r=>JO ob r
def tG (n:Nat) (l:List (Nat × Option AV)):Bool:=l.all fun x=>match x.2 with | some v=>v.all (AC.lt n) | none=>true
def eJ (n:Nat) (l:List (Nat × Option Ob)):Bool:=l.all fun x=>match x.2 with | some o=>Nat.blt x.1 n&&o.all (AC.lt n) | none=>true
structure Le (s s':St):Prop where
 tm:lH s s'.tm
 ob:JO s.ob s'.ob
 lt:(tG s'.nx s'.tm&&eJ s'.nx s'.ob)=true
theorem lH.get {s:St}:∀ {l:List (Nat × Option AV)},lH s l→∀t v,y9 l t=some v→y9 s.tm t=some v
 | [],h,t,v,e=>by simp [y9] at e
 | (t',some v')::r,h,t,v,e=>by
  rw [D9] at e
  split at e
  ·rename_i q
   cases e
   subst q
   exact h.1
  ·exact lH.get h.2 t v e
 | (t',none)::r,h,t,v,e=>by
  rw [D9] at e
  split at e
  ·cases e
  ·exact lH.get (l:=r) h t v e
theorem JO.get {ob:List (Nat × Option Ob)}:∀ {l:List (Nat × Option Ob)},JO ob l→∀t v,y9 l t=some v→y9 ob t=some v
 | [],h,t,v,e=>by simp [y9] at e
 | (t',some v')::r,h,t,v,e=>by
  rw [D9] at e
  split at e
  ·rename_i q
   cases e
   subst q
   exact h.1
  ·exact JO.get h.2 t v e
 | (t',none)::r,h,t,v,e=>by
  rw [D9] at e
  split at e
  ·cases e
  ·exact JO.get (l:=r) h t v e
theorem NO {n:Nat}:∀ {l:List (Nat × Option AV)},tG n l=true→∀t v,y9 l t=some v→v.all (AC.lt n)=true
 | [],h,t,v,e=>by simp [y9] at e
 | (t',o)::r,h,t,v,e=>by
  simp only [tG,List.all_cons,Bool.and_eq_true] at h
  rw [D9] at e
  split at e
  ·subst e;exact h.1
  ·exact NO (l:=r) h.2 t v e
theorem EO {n:Nat}:∀ {l:List (Nat × Option Ob)},eJ n l=true→∀t v,y9 l t=some v→t < n∧v.all (AC.lt n)=true
 | [],h,t,v,e=>by simp [y9] at e
 | (t',o)::r,h,t,v,e=>by
  simp only [eJ,List.all_cons,Bool.and_eq_true] at h
  rw [D9] at e
  split at e
  ·rename_i q
   subst e
   subst q
   have:=h.1
   simp only [Bool.and_eq_true] at this
   exact⟨by simpa using this.1,this.2⟩
  ·exact EO (l:=r) h.2 t v e
def PK (n:Nat) (E:Nat→EE):Nat→EE:=fun i=>if i < n then E i else A5
theorem J1 {n:Nat} {E:Nat→EE} {i:Nat} (h:i < n):PK n E i=E i:=if_pos h
theorem jU {n:Nat} {E:Nat→EE} {i:Nat} (h:¬i < n):PK n E i=A5:=if_neg h
theorem yK {n i:Nat} {a:AC} (h:a.lt n=true)(hn:a.names i=true):i < n:=by
 cases a with
 | t r x=>cases r <;> simp_all [AC.lt,AC.names]
 | pel r c m=>cases r <;> simp_all [AC.lt,AC.names]
 | clo f caps=>
  simp only [AC.names,List.any_eq_true] at hn
  obtain⟨p,h1,h2⟩:=hn
  have:=(List.all_eq_true.1 h) p h1
  have e:p.1=i:=Nat.eq_of_beq_eq_true h2
  subst e
  simpa using this
 | _=>simp_all [AC.lt,AC.names]
theorem yM {n i:Nat} {a:AC} (h:a.lt n=true)(hn:a.reads i=true):i < n:=by
 cases a with
 | t r x=>cases r <;> simp_all [AC.lt,AC.reads]
 | pel r c m=>cases r <;> simp_all [AC.lt,AC.reads]
 | _=>simp_all [AC.lt,AC.reads]
theorem rX {E:Nat→EE} {S:Nat→Prop} {w:World} (n:Nat):Carry E (PK n E) S S w w (fun a=>!a.lt n) where
 sub:=fun _ h=>h
 keep:=fun _ _=>rfl
 place:=fun a ha i hn hl=>by
  rw [J1 (yK (by simpa using ha) hn)]
  exact⟨hl,rfl⟩
 reads:=fun a ha i hn hl=>by
  rw [J1 (yM (by simpa using ha) hn)]
  exact⟨hl,fun _ q=>q,fun _ _=>rfl⟩
theorem VZ {p:AC→Bool} {cs:List AC} (h:cs.all (fun a=>!p a)=true):cs.map (AC.cut p)=cs:=by
 induction cs with
 | nil=>rfl
 | cons a cs ih=>
  simp only [List.all_cons,Bool.and_eq_true] at h
  have h1:p a=false:=by simpa using h.1
  simp only [List.map_cons,ih h.2,AC.cut,h1,cond_false]
theorem AV.cut_id {p:AC→Bool} {v:AV} (h:v.all (fun a=>!p a)=true):v.cut p=v:=by
 cases v with
 | c a=>
  have h1:p a=false:=by simpa [AV.all] using h
  simp [AV.cut,AC.cut,h1]
 | agg cs=>simp only [AV.cut];rw [VZ h]
 | tup vs=>
  simp only [AV.cut]
  congr 1
  induction vs with
  | nil=>rfl
  | cons x vs ih=>
   simp only [AV.all,List.all_cons,Bool.and_eq_true] at h ih
   rw [List.map_cons,ih h.2,VZ h.1]
theorem Ob.cut_id {p:AC→Bool} {o:Ob} (h:o.all (fun a=>!p a)=true):o.cut p=o:=by
 cases o with
 | box cs=>simp only [Ob.cut];rw [VZ h]
 | row=>rfl
 | pbox v cs=>simp only [Ob.cut];rw [VZ h]
 | bag=>rfl
theorem G6.low {cx:Cx} {ob ob':List (Nat × Option Ob)} {nx nx':Nat} {E:Nat→EE} {S:Nat→Prop} {w:World} (hI:G6 cx ob nx E S w)(h:JO ob ob')(hlt:eJ nx' ob'=true):G6 cx ob' nx' (PK nx' E) S w where
 slt:=hI.slt
 snew:=hI.snew
 obs:=fun i o ho=>by
  obtain⟨h1,h2⟩:=EO hlt i o ho
  obtain⟨h3,h4⟩:=hI.obs i o (h.get i o ho)
  rw [J1 h1]
  refine⟨h3,?_⟩
  have:=x6.carry (rX nx') (i:=i) (by rw [J1 h1]) (fun k=>by rw [J1 h1]) (by rw [J1 h1]) (fun _ _=>rfl) h4
  rwa [Ob.cut_id (by simpa using h2)] at this
 dis:=fun i j hij hi hj k h1 h2=>by
  by_cases e1:i < nx'
  ·by_cases e2:j < nx'
   ·rw [J1 e1] at hi h1;rw [J1 e2] at hj h2
    exact hI.dis i j hij hi hj k h1 h2
   ·rw [jU e2] at hj;exact hj
  ·rw [jU e1] at hi;exact hi
 fp:=fun i hi k hk=>by
  by_cases e1:i < nx'
  ·rw [J1 e1] at hi hk;exact hI.fp i hi k hk
  ·rw [jU e1] at hi;exact hi.elim
 nxt:=fun i hi=>by
  by_cases e1:i < nx'
  ·exact e1
  ·rw [jU e1] at hi;exact hi.elim
 kept:=hI.kept
theorem Gm.le {cx:Cx} {s s':St} {a:Act} {w:World} (h:Le s s')(hg:Gm cx s a w):Gm cx s' a w:=by
 obtain⟨E,S,hI,hT,hn,hdf⟩:=hg
 have hlt:=h.lt
 rw [Bool.and_eq_true] at hlt
 refine⟨PK s'.nx E,S,hI.low h.ob hlt.2,fun t v hv=>?_,hn,hdf⟩
 have:=(rX s'.nx).v (hT t v (h.tm.get t v hv))
 rwa [AV.cut_id (by simpa using NO hlt.1 t v hv)] at this
theorem n8 {cx:Cx} {s s':St} {k:List Item} {R:Ending→World→Prop} (h:Le s s')(hW:Wt cx s' k R):Wt cx s k R:=fun a w hg=>hW a w (hg.le h)
theorem P3 {cx:Cx} {ob ob':List (Nat × Option Ob)} {nx nx':Nat} {E:Nat→EE} {S:Nat→Prop} {w:World} {v:AV} {u:Value} {v':AV} (hI:G6 cx ob nx E S w)(hd:M6 E S w v' u)(he:v'=v)(h:JO ob ob')(hM:cx.M=fun _=>False)(hlt:eJ nx' ob'=true)(hv:v.all (AC.lt nx')=true):post cx.P cx.f cx.n cx.w0 cx.S0 ob' nx' v (.returned u) w:=by
 subst he
 have h1:=hI.low h hlt
 have h2:=(rX nx').v hd
 rw [AV.cut_id (by simpa using hv)] at h2
 obtain⟨P,f,n,w0,S0,M⟩:=cx
 cases hM
 exact⟨u,_,_,rfl,h1,h2⟩
end Go.Eng
