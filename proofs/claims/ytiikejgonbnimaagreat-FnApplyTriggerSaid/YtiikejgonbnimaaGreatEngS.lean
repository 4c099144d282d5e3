import Derived.Test.YtiikejgonbnimaaGreatEngR
set_option linter.unusedVariables false
set_option linter.unusedSimpArgs false
namespace Go.Eng
open Go Go.RowKit Go.Proofs
def AC.mv (i j:Nat):AC→AC
 | .own k=>cond (Nat.beq k j) (.own i) (cond (Nat.beq k i) .top (.own k))
 | .t (some k) x=>cond (Nat.beq k j) (.t (some i) x) (cond (Nat.beq k i) .top (.t (some k) x))
 | .ptr k o=>cond (Nat.beq k j) (.ptr i o) (cond (Nat.beq k i) .top (.ptr k o))
 | a=>cond (a.names i||a.names j) .top a
def AS (E:Nat→EE) (i j:Nat):Nat→EE:=fun k=>if k=i then E j else if k=j then A5 else E k
theorem AW {E:Nat→EE} {i j:Nat}:AS E i j i=E j:=if_pos rfl
theorem oN {E:Nat→EE} {i j k:Nat} (h:k≠i)(h2:k≠j):AS E i j k=E k:=by unfold AS;rw [if_neg h,if_neg h2]
theorem VM {i j:Nat} {E:Nat→EE} {S:Nat→Prop} {w:World}:Carry E (AS E i j) S S w w (fun a=>a.names i||a.names j) where
 sub:=fun _ h=>h
 keep:=fun _ _=>rfl
 place:=fun a ha k hk hlk=>by
  have h':(a.names i||a.names j)=false:=ha
  rw [Bool.or_eq_false_iff] at h'
  have h1:k≠i:=fun e=>by subst e;rw [h'.1] at hk;cases hk
  have h2:k≠j:=fun e=>by subst e;rw [h'.2] at hk;cases hk
  rw [oN h1 h2];exact⟨hlk,rfl⟩
 reads:=fun a ha k hk hlk=>by
  have h':(a.names i||a.names j)=false:=ha
  rw [Bool.or_eq_false_iff] at h'
  have h1:k≠i:=fun e=>by subst e;rw [r7 hk] at h';cases h'.1
  have h2:k≠j:=fun e=>by subst e;rw [r7 hk] at h';cases h'.2
  rw [oN h1 h2];exact⟨hlk,fun _ h=>h,fun _ _=>rfl⟩
theorem wG {i j:Nat} {E:Nat→EE} {S:Nat→Prop} {w:World} {c:AC} {u:Value} (hd:S6 E S w c u):S6 (AS E i j) S w (c.mv i j) u:=by
 have gen:S6 (AS E i j) S w (cond (c.names i||c.names j) .top c) u:=VM.c hd
 cases c with
 | own k=>
  simp only [AC.mv]
  cases hk:Nat.beq k j
  ·have e2:(AC.own k).names j=false:=hk
   rw [e2,Bool.or_false] at gen
   exact gen
  ·obtain rfl:=Nat.eq_of_beq_eq_true hk
   simp only [cond_true]
   exact⟨by rw [AW];exact hd.1,by rw [AW];exact hd.2.1,hd.2.2⟩
 | ptr k o=>
  simp only [AC.mv]
  cases hk:Nat.beq k j
  ·have e2:(AC.ptr k o).names j=false:=hk
   rw [e2,Bool.or_false] at gen
   exact gen
  ·obtain rfl:=Nat.eq_of_beq_eq_true hk
   simp only [cond_true]
   obtain⟨h1,g,h2,h3⟩:=hd
   exact⟨by rw [AW];exact h1,g,by rw [AW];exact h2,h3⟩
 | t r y=>
  cases r with
  | none=>exact gen
  | some k=>
   simp only [AC.mv]
   cases hk:Nat.beq k j
   ·have e2:(AC.t (some k) y).names j=false:=hk
    rw [e2,Bool.or_false] at gen
    exact gen
   ·obtain rfl:=Nat.eq_of_beq_eq_true hk
    simp only [cond_true]
    have h1:(E k).live∧(E k).rd:=hd.1
    refine⟨show(AS E i k i).live∧(AS E i k i).rd from ?_,?_⟩
    ·rw [AW];exact h1
    ·show Rd w (AS E i k i).F y u
     rw [AW]
     exact hd.2
 | _=>exact gen
section
variable {cx:Cx} {s:St} {R:Ending→World→Prop} {todo:List Item}
theorem T7 (i j:Nat) {pn:Option Value} {e:Nat} {deep:Bool} {α:Type} {sz:Nat} {enc:α→Nat→T} {xs:List α} (hb:y9 s.ob j=some (.row pn e deep sz enc xs))(hi:Nat.blt i s.nx=true)(hij:Nat.beq i j=false)
  (h:Wt cx ⟨VU (AC.mv i j) s.tm,(i,some (.row pn e deep sz enc xs))::pU j (AC.mv i j) s.ob,s.nx⟩ todo R):Wt cx s todo R:=by
 intro a w hg
 refine h a w ?_
 obtain⟨E,S,hI,hT,hsz,hdf⟩:=hg
 have hne:i≠j:=fun e=>by rw [e] at hij;simp at hij
 have hl:=(hI.obs _ _ hb).1
 have hC:=fun {c u}=>wG (i:=i) (j:=j) (E:=E) (S:=S) (w:=w) (c:=c) (u:=u)
 have hLL:∀ {cs:List AC} {us:List Value},r6 E S w cs us→r6 (AS E i j) S w (cs.map (AC.mv i j)) us:=by
  intro cs us hd
  refine⟨by rw [hd.1,List.length_map],fun q c hc=>?_⟩
  rw [List.getElem?_map] at hc
  obtain⟨c0,h0,rfl⟩:=Option.map_eq_some_iff.mp hc
  obtain⟨u',h1,h2⟩:=hd.2 q c0 h0
  exact⟨u',h1,hC h2⟩
 have hV:∀ {v:AV} {u:Value},M6 E S w v u→M6 (AS E i j) S w (v.mapC (AC.mv i j)) u:=by
  intro v u hd
  cases v with
  | c a=>exact hC hd
  | agg cs=>obtain⟨us,rfl,hd⟩:=hd;exact⟨us,rfl,hLL hd⟩
  | tup vs=>
   obtain⟨us,rfl,hl,hd⟩:=hd
   refine⟨us,rfl,by rw [hl,List.length_map],fun q b cs hc=>?_⟩
   rw [List.getElem?_map] at hc
   obtain⟨⟨b0,c0⟩,h0,hc⟩:=Option.map_eq_some_iff.mp hc
   cases hc
   obtain⟨u',h1,h2⟩:=hd q b0 c0 h0
   refine⟨u',h1,?_⟩
   unfold KW at *
   split
   ·rename_i hb
    rw [if_pos hb] at h2
    obtain⟨us,rfl,h2⟩:=h2
    exact⟨us,rfl,hLL h2⟩
   ·rename_i hb
    rw [if_neg hb] at h2
    exact hLL h2
 -- who TO
 have hlv:∀k,(AS E i j k).live→(k=i∧AS E i j k=E j)∨(k≠i∧k≠j∧AS E i j k=E k):=fun k hk=>by
  by_cases e:k=i
  ·subst e;exact .inl ⟨rfl,AW⟩
  ·by_cases e2:k=j
   ·subst e2
    have:AS E i k k=A5:=by unfold AS;rw [if_neg e,if_pos rfl]
    rw [this] at hk
    exact hk.elim
   ·exact .inr ⟨e,e2,oN e e2⟩
 refine⟨AS E i j,S,⟨hI.slt,hI.snew,fun q o hq=>?_,fun q q' hqq hq hq' k h1 h2=>?_,fun q hq k hk=>?_,fun q hq=>?_,hI.kept⟩,fun t v hv=>?_,hsz,hdf⟩
 ·rw [D9] at hq
  split at hq
  ·rename_i e
   subst e
   cases hq
   refine⟨by rw [AW];exact hl,?_⟩
   have h3:=(hI.obs _ _ hb).2
   show(AS E q j q).rd∧(∀v,pn=some v→(AS E q j q).u=v)∧_
   rw [AW]
   exact h3
  ·rename_i hqi
   unfold pU at hq
   rw [D9] at hq
   split at hq
   ·cases hq
   ·rename_i hqj
    rw [yZ] at hq
    obtain⟨o0,h0,rfl⟩:=Option.map_eq_some_iff.mp hq
    obtain⟨h1,h2⟩:=hI.obs q o0 h0
    have eE:AS E i j q=E q:=oN hqi hqj
    refine⟨by rw [eE];exact h1,?_⟩
    cases o0 with
    | box cells=>
     obtain⟨q1,g,t,cs,q2,q3,q4,q5⟩:=h2
     exact⟨by rw [eE];exact q1,g,t,cs,by rw [eE];exact q2,fun k=>by rw [eE];exact q3 k,q4,hLL q5⟩
    | pbox v cells=>
     obtain⟨q0,q1,g,t,cs,q2,q3,q4,q5⟩:=h2
     exact⟨by rw [eE];exact q0,by rw [eE];exact q1,g,t,cs,by rw [eE];exact q2,fun k=>by rw [eE];exact q3 k,q4,hLL q5⟩
    | row pn' e' deep' sz' enc' xs'=>
     obtain⟨q1,q2,q3⟩:=h2
     refine⟨by rw [eE];exact q1,by rw [eE];exact q2,?_⟩
     rw [eE]
     exact q3
    | bag x=>
     obtain⟨q1,q2⟩:=h2
     refine⟨by rw [eE];exact q1,?_⟩
     rw [eE]
     exact q2
 ·rcases hlv q hq with⟨r1,r2⟩ | ⟨r1,r2,r3⟩ <;> rcases hlv q' hq' with⟨t1,t2⟩ | ⟨t1,t2,t3⟩
  ·exact hqq (r1.trans t1.symm)
  ·rw [r2] at h1 hq
   rw [t3] at h2 hq'
   exact hI.dis j q' (fun e=>t2 e.symm) hq hq' k h1 h2
  ·rw [r3] at h1 hq
   rw [t2] at h2 hq'
   exact hI.dis q j r2 hq hq' k h1 h2
  ·rw [r3] at h1 hq
   rw [t3] at h2 hq'
   exact hI.dis q q' hqq hq hq' k h1 h2
 ·rcases hlv q hq with⟨r1,r2⟩ | ⟨r1,r2,r3⟩
  ·rw [r2] at hk hq
   exact hI.fp j hq k hk
  ·rw [r3] at hk hq
   exact hI.fp q hq k hk
 ·rcases hlv q hq with⟨r1,r2⟩ | ⟨r1,r2,r3⟩
  ·subst r1
   exact Nat.le_of_ble_eq_true hi
  ·rw [r3] at hq
   exact hI.nxt q hq
 ·unfold VU at hv
  rw [yZ] at hv
  obtain⟨v0,h0,rfl⟩:=Option.map_eq_some_iff.mp hv
  exact hV (hT t v0 h0)
end
section
variable {cx:Cx} {s:St} {R:Ending→World→Prop} {k:List Item} {ops:Array Oper} {rest:List Oper} {todo:List Item}
theorem c6 {X:Nat→Bool} {fuel:Nat} {listed:Array Bool} (i:Nat) {pn:Option Value} {e:Nat} {deep:Bool} {α:Type} {sz:Nat} {enc:α→Nat→T} {xs:List α} (hb:y9 s.ob i=some (.row pn e deep sz enc xs))(hM:∀E S w,G6 cx s.ob s.nx E S w→∀k,cx.M k→¬(E i).F k)
  (h:Wd cx ⟨VU (AC.frz i (.sl sz enc xs)) s.tm,pU i (AC.frz i (.sl sz enc xs)) s.ob,s.nx⟩ ops X fuel listed k R):Wd cx s ops X fuel listed k R:=fun a w hg=>h a w (ZX _ i hb (ZS hb) hM hg)
theorem DU {ι κ μ:Type} {X:Nat→Bool} {fuel:Nat} {listed:Array Bool} (i j l:Nat) {op op' op2:Go.Op} {dst dst' dst2:Option Nat} {ty ty' ty2:TypeId} {pos pos' pos2:String} {aft aft' aft2:Array Edge} {s1:ι→St} {s2:κ→St} {s3:μ→St} {x x' x2:Bool} (hi:ops[i]? =some ⟨dst,op,ty,pos,aft,none⟩)(hj:ops[j]? =some ⟨dst',op',ty',pos',aft',none⟩)(hl:ops[l]? =some ⟨dst2,op2,ty2,pos2,aft2,none⟩)(hr:Region.ready .any ops listed=[i,j,l])(hX:(!X i||x)=true)(hX':(!X j||x')=true)(hX2:(!X l||x2)=true)(ho:ML cx s ⟨dst,op,ty,pos,aft,none⟩ s1 x)(ho':ML cx s ⟨dst',op',ty',pos',aft',none⟩ s2 x')(ho2:ML cx s ⟨dst2,op2,ty2,pos2,aft2,none⟩ s3 x2)
  (h:∀q,Wd cx (s1 q) ops X fuel (listed.setIfInBounds i true) k R) (h':∀q,Wd cx (s2 q) ops X fuel (listed.setIfInBounds j true) k R) (h2:∀q,Wd cx (s3 q) ops X fuel (listed.setIfInBounds l true) k R):Wd cx s ops X (fuel + 1) listed k R:=by
 intro a w hg
 refine⟨fun h0=>(by rw [hr] at h0;cases h0),fun q hq=>?_⟩
 rw [hr] at hq
 rcases (by simpa using hq:q=i∨q=j∨q=l) with rfl | rfl | rfl
 ·unfold wpOp
  rw [hi]
  simp only [Region.wanted,if_true]
  refine .inl (B6 (fun a' w' h''=>⟨fun hx=>h''.2 (by rw [hx] at hX;simpa using hX),?_⟩) (fun _ _ _ h=>h) (ho _ a w hg))
  obtain⟨⟨q,hq⟩,_⟩:=h''
  exact h q a' w' hq
 ·unfold wpOp
  rw [hj]
  simp only [Region.wanted,if_true]
  refine .inl (B6 (fun a' w' h''=>⟨fun hx=>h''.2 (by rw [hx] at hX';simpa using hX'),?_⟩) (fun _ _ _ h=>h) (ho' _ a w hg))
  obtain⟨⟨q,hq⟩,_⟩:=h''
  exact h' q a' w' hq
 ·unfold wpOp
  rw [hl]
  simp only [Region.wanted,if_true]
  refine .inl (B6 (fun a' w' h''=>⟨fun hx=>h''.2 (by rw [hx] at hX2;simpa using hX2),?_⟩) (fun _ _ _ h=>h) (ho2 _ a w hg))
  obtain⟨⟨q,hq⟩,_⟩:=h''
  exact h2 q a' w' hq
theorem uJ {E:Nat→EE} {S:Nat→Prop} {w:World} {u:Value} {α:Type} {sz:Nat} {enc:α→Nat→T} (h:S6 E S w (.t none (.v (.slice none 0 0))) u):S6 E S w (.t none (.sl sz enc [])) u:=by
 obtain⟨_,h1,_⟩:=h
 have h1:u= .slice none 0 0:=h1
 subst h1
 exact⟨trivial,OX⟩
theorem SO {E:Nat→EE} {S:Nat→Prop} {w:World} {us:List Value} {cells:List AC} {o:Nat} {α:Type} {sz:Nat} {enc:α→Nat→T} (hc:cells[o]? =some (.t none (.v (.slice none 0 0))))(h:r6 E S w cells us):r6 E S w (cells.set o (.t none (.sl sz enc []))) us:=by
 refine⟨by rw [h.1,List.length_set],fun q c hq=>?_⟩
 rw [List.getElem?_set] at hq
 split at hq
 ·rename_i e
  subst e
  split at hq
  ·cases hq
   obtain⟨u,h1,h2⟩:=h.2 _ _ hc
   exact⟨u,h1,uJ h2⟩
  ·cases hq
 ·exact h.2 q c hq
theorem qI (t o:Nat) {sz:Nat} {α:Type} (enc:α→Nat→T) {cells:List AC} (ht:y9 s.tm t=some (.agg cells))(hc:cells[o]? =some (.t none (.v (.slice none 0 0)))) {a:Act} {w:World} (hg:Gm cx s a w):Gm cx ⟨(t,some (.agg (cells.set o (.t none (.sl sz enc [])))))::s.tm,s.ob,s.nx⟩ a w:=by
 obtain⟨E,S,hI,hT,hsz,hdf⟩:=hg
 refine⟨E,S,hI,fun t' v hv=>?_,hsz,hdf⟩
 rw [show(⟨(t,some (.agg (cells.set o (.t none (.sl sz enc [])))))::s.tm,s.ob,s.nx⟩:St).tm=(t,some (.agg (cells.set o (.t none (.sl sz enc [])))))::s.tm from rfl,D9] at hv
 split at hv
 ·rename_i e
  subst e
  cases hv
  obtain⟨us,hu,hl⟩:=hT _ _ ht
  exact⟨us,hu,SO hc hl⟩
 ·exact hT _ _ hv
theorem WJ (b o:Nat) {sz:Nat} {α:Type} (enc:α→Nat→T) {cells:List AC} (hb:y9 s.ob b=some (.box cells))(hc:cells[o]? =some (.t none (.v (.slice none 0 0)))) {a:Act} {w:World} (hg:Gm cx s a w):Gm cx ⟨s.tm,(b,some (.box (cells.set o (.t none (.sl sz enc [])))))::s.ob,s.nx⟩ a w:=by
 obtain⟨E,S,hI,hT,hsz,hdf⟩:=hg
 refine⟨E,S,⟨hI.slt,hI.snew,fun i ob hi=>?_,hI.dis,hI.fp,hI.nxt,hI.kept⟩,hT,hsz,hdf⟩
 rw [D9] at hi
 split at hi
 ·rename_i e
  subst e
  cases hi
  obtain⟨h1,h2,g,t,cs,h3,h4,h5,h6⟩:=hI.obs _ _ hb
  exact⟨h1,h2,g,t,cs,h3,h4,h5,SO hc h6⟩
 ·exact hI.obs _ _ hi
theorem yH (t o:Nat) {sz:Nat} {α:Type} (enc:α→Nat→T) {cells:List AC} (ht:y9 s.tm t=some (.agg cells))(hc:cells[o]? =some (.t none (.v (.slice none 0 0))))(h:Wr cx ⟨(t,some (.agg (cells.set o (.t none (.sl sz enc [])))))::s.tm,s.ob,s.nx⟩ ops rest k R):Wr cx s ops rest k R:=fun a w hg=>h a w (qI t o enc ht hc hg)
theorem zR (b o:Nat) {sz:Nat} {α:Type} (enc:α→Nat→T) {cells:List AC} (hb:y9 s.ob b=some (.box cells))(hc:cells[o]? =some (.t none (.v (.slice none 0 0))))(h:Wt cx ⟨s.tm,(b,some (.box (cells.set o (.t none (.sl sz enc [])))))::s.ob,s.nx⟩ todo R):Wt cx s todo R:=fun a w hg=>h a w (WJ b o enc hb hc hg)
end
section
variable {cx:Cx} {s:St} {dst:Option Nat} {ty:TypeId} {pos:String} {aft:Array Edge}
end
end Go.Eng
