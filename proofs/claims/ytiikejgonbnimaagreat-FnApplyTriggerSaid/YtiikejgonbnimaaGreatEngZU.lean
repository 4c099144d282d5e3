import Derived.Test.YtiikejgonbnimaaGreatEngZT
set_option linter.unusedVariables false
set_option linter.unusedSimpArgs false
namespace Go.Eng
open Go Go.RowKit
theorem hU:∀(vs ws vs' ws':List Int) (b:F3),vs.length=ws.length→CT b (vs++vs') (ws++ws')=(CT b vs ws).bind fun b'=>CT b' vs' ws'
 | [],[],vs',ws',b,_=>rfl
 | v::vs,w::ws,vs',ws',b,h=>by
  have h:vs.length=ws.length:=by simpa using h
  rw [List.cons_append,List.cons_append,CT,CT]
  cases dR b v w with
  | none=>rfl
  | some b'=>exact hU vs ws vs' ws' b' h
 | [],w::ws,_,_,_,h=>by simp at h
 | v::vs,[],_,_,_,h=>by simp at h
theorem iN (b:F3)(v w:Int):CT b [v] [w]=dR b v w:=by
 rw [CT]
 cases dR b v w <;> rfl
section
variable {b acc b':F3} {fv mv:List Int} {m:Nat} {v w:Int}
theorem HU (hl:fv.length=mv.length)(h:CT b (fv.take m) (mv.take m)=some acc)(hv:fv[m]? =some v)(hw:mv[m]? =some w)(hs:dR acc v w=some b'):CT b (fv.take (m + 1)) (mv.take (m + 1))=some b':=by
 rw [List.take_add_one,List.take_add_one,hv,hw]
 simp only [Option.toList_some]
 rw [hU _ _ _ _ _ (by simp [hl]),h]
 exact(iN acc v w).trans hs
theorem OQ (hl:fv.length=mv.length)(h:CT b (fv.take m) (mv.take m)=some acc)(hv:fv[m]? =some v)(hw:mv[m]? =some w)(hs:dR acc v w=none):CT b fv mv=none:=by
 have h1:=hU (fv.take (m + 1)) (mv.take (m + 1)) (fv.drop (m + 1)) (mv.drop (m + 1)) b (by simp [hl])
 rw [List.take_append_drop,List.take_append_drop] at h1
 rw [h1,List.take_add_one,List.take_add_one,hv,hw]
 simp only [Option.toList_some]
 rw [hU _ _ _ _ _ (by simp [hl]),h]
 show((CT acc [v] [w]).bind _)=none
 rw [iN,hs]
 rfl
theorem DJ (hl:fv.length=mv.length)(h:CT b (fv.take m) (mv.take m)=some acc)(hm:fv.length≤m):CT b fv mv=some acc:=by
 rwa [List.take_of_length_le hm,List.take_of_length_le (by omega)] at h
theorem qH (h:¬(-40≤v∧v≤ -1))(e:v=w):dR acc v w=some acc:=by
 unfold dR
 rw [if_neg h,if_neg (by rw [e];simp)]
theorem aI (h:¬(-40≤v∧v≤ -1))(e:v≠w):dR acc v w=none:=by
 unfold dR
 rw [if_neg h,if_pos e]
theorem dL (h: -40≤v∧v≤ -1) {k:Int} (hk:k= -1 - v)(e:(MX acc k).isSome=true→(MX acc k).getD 0=w):dR acc v w=some ((k,w)::acc):=by
 subst hk
 unfold dR
 rw [if_pos h]
 cases hl:MX acc (-1 - v) with
 | none=>rfl
 | some o=>
  have:o=w:=by rw [hl] at e;exact e rfl
  simp only [this,ne_eq,not_true,if_false]
theorem NI (h: -40≤v∧v≤ -1) {k:Int} (hk:k= -1 - v)(e:(MX acc k).isSome=true)(e2:(MX acc k).getD 0≠w):dR acc v w=none:=by
 subst hk
 unfold dR
 rw [if_pos h]
 cases hl:MX acc (-1 - v) with
 | none=>rw [hl] at e;cases e
 | some o=>
  rw [hl] at e2
  simp only [Option.getD_some] at e2
  simp only [ne_eq,e2,not_false_eq_true,if_true]
end
section
variable {f1 m1:Int} {fv mv:List Int} {b:F3}
theorem jL (h:f1≠m1∨fv.length≠mv.length):LX b (f1,fv) (m1,mv)=none:=if_pos h
theorem NP (h1:f1=m1)(h2:fv.length=mv.length):LX b (f1,fv) (m1,mv)=CT b fv mv:=if_neg (by rintro(h | h);exact h h1;exact h h2)
end
section
variable {cx:Cx} {s:St} {todo:List Item} {R:Ending→World→Prop}
theorem ZV (t:Nat) {P:Program} {kt e:TypeId} (ht:y9 s.tm t=some (.c (.t none (.v (.map none)))))(h:Wt cx ⟨(t,some (.c (.t none (XX P kt e none))))::s.tm,s.ob,s.nx⟩ todo R):Wt cx s todo R:=fun a w hg=>h a w (by
 obtain⟨E,S,hI,hT,hsz,hdf⟩:=hg
 refine⟨E,S,hI,fun t' v hv=>?_,hsz,hdf⟩
 rw [show(⟨(t,some (.c (.t none (XX P kt e none))))::s.tm,s.ob,s.nx⟩:St).tm=(t,some (.c (.t none (XX P kt e none))))::s.tm from rfl,D9] at hv
 split at hv
 ·rename_i e
  subst e
  cases hv
  obtain⟨_,hu,_⟩:=hT _ _ ht
  exact⟨trivial,by rw [hu];rfl,[],hu,fun p hp=>by cases hp⟩
 ·exact hT _ _ hv)
end
def tA:T:=.ab fun _ _=>True
def JQ:Unit→Nat→T:=fun _ _=>tA
def nY (o:Bool):List Unit:=cond o [()] []
section
variable {cx:Cx} {s:St} {k:List Item} {ops:Array Oper} {rest:List Oper} {R:Ending→World→Prop}
theorem SI (t:Nat) {cells:List AC} (ht:y9 s.tm t=some (.agg cells)) {a:Act} {w:World} (hg:Gm cx s a w):Gm cx ⟨(t,some (.agg (cells.map fun _=> .t none tA)))::s.tm,s.ob,s.nx⟩ a w:=by
 obtain⟨E,S,hI,hT,hsz,hdf⟩:=hg
 refine⟨E,S,hI,fun t' v hv=>?_,hsz,hdf⟩
 rw [show(⟨(t,some (.agg (cells.map fun _=> .t none tA)))::s.tm,s.ob,s.nx⟩:St).tm=(t,some (.agg (cells.map fun _=> .t none tA)))::s.tm from rfl,D9] at hv
 split at hv
 ·rename_i e
  subst e
  cases hv
  obtain⟨us,hu,hl,hc⟩:=hT _ _ ht
  refine⟨us,hu,by rw [List.length_map];exact hl,fun j c hj=>?_⟩
  rw [List.getElem?_map] at hj
  obtain⟨c0,h0,rfl⟩:=Option.map_eq_some_iff.mp hj
  obtain⟨u',e1,e2⟩:=hc j c0 h0
  exact⟨u',e1,trivial,e2.one,[],trivial,fun p hp=>by cases hp⟩
 ·exact hT _ _ hv
theorem cG (t:Nat) {cells:List AC} (ht:y9 s.tm t=some (.agg cells))(h:Wr cx ⟨(t,some (.agg (cells.map fun _=> .t none tA)))::s.tm,s.ob,s.nx⟩ ops rest k R):Wr cx s ops rest k R:=fun a w hg=>h a w (SI t ht hg)
theorem vG (t:Nat) {P:Program} {kt e:TypeId} {o o':Option F3} (ht:y9 s.tm t=some (.c (.t none (XX P kt e o))))(he:o=o')(h:Wr cx ⟨(t,some (.c (.t none (XX P kt e o'))))::s.tm,s.ob,s.nx⟩ ops rest k R):Wr cx s ops rest k R:=fun a w hg=>h a w (by
 subst he
 obtain⟨E,S,hI,hT,hsz,hdf⟩:=hg
 refine⟨E,S,hI,fun t' v hv=>?_,hsz,hdf⟩
 rw [show(⟨(t,some (.c (.t none (XX P kt e o))))::s.tm,s.ob,s.nx⟩:St).tm=(t,some (.c (.t none (XX P kt e o))))::s.tm from rfl,D9] at hv
 split at hv
 ·rename_i e
  subst e
  cases hv
  exact hT _ _ ht
 ·exact hT _ _ hv)
end
theorem jV {o:Option F3} (h:o.isSome=true):o=some (o.getD []):=by
 cases o with
 | none=>cases h
 | some b=>rfl
theorem EJ {b b':F3} {v w:Int} (h:dR b v w=some b'):b'.length≤b.length + 1∧((∀p∈b,s7 p.1)→∀p∈b',s7 p.1):=by
 unfold dR at h
 by_cases c: -40≤v∧v≤ -1
 ·rw [if_pos c] at h
  have key:∀b',some ((-1 - v,w)::b)=some b'→b'.length≤b.length + 1∧((∀p∈b,s7 p.1)→∀p∈b',s7 p.1):=fun b' e=>by
   cases e
   refine⟨by simp,fun hb p hp=>?_⟩
   rcases List.mem_cons.1 hp with rfl | hp
   ·unfold s7;constructor <;> dsimp only <;> omega
   ·exact hb p hp
  cases hl:MX b (-1 - v) with
  | none=>rw [hl] at h;exact key _ h
  | some o=>
   rw [hl] at h
   simp only at h
   split at h
   ·cases h
   ·exact key _ h
 ·rw [if_neg c] at h
  split at h
  ·cases h
  ·cases h
   exact⟨Nat.le_succ _,fun hb=>hb⟩
theorem mO:∀(vs ws:List Int) {b b':F3},CT b vs ws=some b'→b'.length≤b.length + vs.length∧((∀p∈b,s7 p.1)→∀p∈b',s7 p.1)
 | [],ws,b,b',h=>by cases ws <;>(cases h;exact⟨Nat.le_refl _,fun hb=>hb⟩)
 | v::vs,[],b,b',h=>by cases h;exact⟨Nat.le_add_right _ _,fun hb=>hb⟩
 | v::vs,w::ws,b,b',h=>by
  rw [CT] at h
  cases hs:dR b v w with
  | none=>rw [hs] at h;cases h
  | some b1=>
   rw [hs] at h
   obtain⟨h1,h2⟩:=EJ hs
   obtain⟨h3,h4⟩:=mO vs ws h
   exact⟨by simp only [List.length_cons];omega,fun hb=>h4 (h2 hb)⟩
theorem wO {b b':F3} {f im:Int × List Int} (h:LX b f im=some b'):b'.length≤b.length + f.2.length∧((∀p∈b,s7 p.1)→∀p∈b',s7 p.1):=by
 unfold LX at h
 split at h
 ·cases h
 ·exact mO _ _ h
theorem mP {f:Int × List Int→Option F3} {fs2:p9} {m n:Nat} {z:Int × List Int} (h:(fs2.take m).findSome? f=none)(hz:fs2[n]? =some z)(e:n=m)(hf:f z=none):(fs2.take (m + 1)).findSome? f=none:=by
 subst e
 rw [List.take_add_one,hz,List.findSome?_append,h]
 simp [hf]
theorem iI {f:Int × List Int→Option F3} {fs2:p9} {m:Nat} (h:(fs2.take m).findSome? f=none)(hm:fs2.length≤m):fs2.findSome? f=none:=by
 rwa [List.take_of_length_le hm] at h
theorem tJ {f:Int × List Int→Option F3} {fs2:p9} {n:Nat} {z:Int × List Int} (hz:fs2[n]? =some z)(hf:(f z).isSome=true):(fs2.findSome? f).isSome=true:=
 List.findSome?_isSome_iff.2 ⟨z,List.mem_of_getElem? hz,hf⟩
theorem FK {α β:Type} {f:α→β} {l:List α} {m n:Nat} {z:α} (hz:l[n]? =some z)(e:n=m):(l.take m).map f++[f z]=(l.take (m + 1)).map f:=by
 subst e
 rw [List.take_add_one,hz]
 simp
section
variable {fs fs2:p9} {b:F3} {z im:Int × List Int} {m n:Nat}
theorem DQ (h:((fs.length:Nat):Int)=0):(X2 fs2 fs b).isSome=true:=by
 have:fs=[]:=List.eq_nil_of_length_eq_zero (by omega)
 subst this
 rfl
theorem GR (hz:fs[0]? =some z):X2 fs2 fs b=fs2.findSome? fun im=>(LX b z im).bind (X2 fs2 (fs.drop 1)):=by
 cases fs with
 | nil=>simp at hz
 | cons f fs=>
  cases hz
  rfl
theorem lI {g:F3→Option F3} (h:(LX b z im).isSome=false):(LX b z im).bind g=none:=by
 cases hm:LX b z im with
 | none=>rfl
 | some b'=>rw [hm] at h;cases h
theorem TQ {t:p9} (h:(LX b z im).isSome=true):(LX b z im).bind (X2 fs2 t)=X2 fs2 t ((LX b z im).getD []):=by
 cases hm:LX b z im with
 | none=>rw [hm] at h;cases h
 | some b'=>rfl
theorem fJ {t:p9} (h:(LX b z im).isSome=true)(h2:(X2 fs2 t ((LX b z im).getD [])).isSome=false):(LX b z im).bind (X2 fs2 t)=none:=by
 rw [TQ h]
 cases hs:X2 fs2 t ((LX b z im).getD []) with
 | none=>rfl
 | some _=>rw [hs] at h2;cases h2
theorem wN (hz:fs[0]? =some z)(hi:fs2[n]? =some im)(h:(LX b z im).isSome=true)(h2:(X2 fs2 (fs.drop 1) ((LX b z im).getD [])).isSome=true):(X2 fs2 fs b).isSome=true:=by
 rw [GR hz]
 exact tJ hi (by rw [TQ h];exact h2)
theorem OM (h0:¬((fs.length:Nat):Int)=0)(h:∀z,fs[0]? =some z→(fs2.take m).findSome? (fun im=>(LX b z im).bind (X2 fs2 (fs.drop 1)))=none)(hm:fs2.length≤m):(X2 fs2 fs b).isSome=false:=by
 cases fs with
 | nil=>exact absurd rfl h0
 | cons f fs=>
  rw [GR (z:=f) rfl,iI (h f rfl) hm]
  rfl
theorem zM (h:(LX b z im).isSome=true):((LX b z im).getD []).length≤b.length + z.2.length:=(wO (jV h)).1
theorem uK (h:(LX b z im).isSome=true)(hk:∀p∈b,s7 p.1):∀p∈(LX b z im).getD [],s7 p.1:=(wO (jV h)).2 hk
theorem zL {α:Type} {f:α→Nat} {l:List α} {x:α} (h:l[0]? =some x):l7 f (l.drop 1) + 1 + f x=l7 f l:=by
 cases l with
 | nil=>simp at h
 | cons y l=>
  cases h
  simp only [l7,List.drop_succ_cons,List.drop_zero,List.length_cons,List.map_cons,List.sum_cons]
  omega
theorem BH {x:Bool} (h:x=false):nY x=[]:=by rw [h];rfl
theorem mI {x y:Bool} (h:x=true)(h2:y=true):nY x=nY y:=by rw [h,h2]
theorem rI {y:Bool} (h2:y=true):[]++[()]=nY y:=by rw [h2];rfl
end
theorem NH {α:Type} {l:List α}:(l.take l.length).drop (1:Int).toNat=l.drop 1:=by rw [List.take_length];rfl
section
variable {cx:Cx} {s:St} {todo k:List Item} {ops:Array Oper} {rest:List Oper} {R:Ending→World→Prop}
theorem zH (i:Nat) {pn:Option Value} {e sz:Nat} {deep:Bool} {α β:Type} {enc:α→Nat→T} (enc2:β→Nat→T)(hb:y9 s.ob i=some (.row pn e deep sz enc []))(h:Wt cx ⟨s.tm,(i,some (.row none e false sz enc2 []))::s.ob,s.nx⟩ todo R):Wt cx s todo R:=fun a w hg=>h a w (by
 obtain⟨E,S,hI,hT,hsz,hdf⟩:=hg
 obtain⟨hl,hrd,_,ho⟩:=hI.obs _ _ hb
 refine⟨E,S,⟨hI.slt,hI.snew,fun j o hj=>?_,hI.dis,hI.fp,hI.nxt,hI.kept⟩,hT,hsz,hdf⟩
 rw [D9] at hj
 split at hj
 ·rename_i e
  subst e
  cases hj
  refine⟨hl,hrd,fun v hv=>(by cases hv),?_⟩
  simp only [Bool.false_eq_true,if_false]
  cases deep
  ·simp only [Bool.false_eq_true,if_false] at ho
   obtain⟨cells,h1,h2,_⟩:=ho
   exact⟨cells,h1,h2,fun i x hx=>by simp at hx⟩
  ·simp only [if_true] at ho
   obtain⟨cells,G,h1,h2,_⟩:=ho
   exact⟨cells,h1,h2,fun i x hx=>by simp at hx⟩
 ·exact hI.obs _ _ hj)
theorem QJ (i:Nat) {cells:List AC} (hb:y9 s.ob i=some (.box cells))(h:Wt cx ⟨s.tm,(i,some (.box (cells.map fun _=> .t none tA)))::s.ob,s.nx⟩ todo R):Wt cx s todo R:=fun a w hg=>h a w (by
 obtain⟨E,S,hI,hT,hsz,hdf⟩:=hg
 obtain⟨hl,hrd,g,e,cs,h1,h2,h3,h4,h5⟩:=hI.obs _ _ hb
 refine⟨E,S,⟨hI.slt,hI.snew,fun j o hj=>?_,hI.dis,hI.fp,hI.nxt,hI.kept⟩,hT,hsz,hdf⟩
 rw [D9] at hj
 split at hj
 ·rename_i e
  subst e
  cases hj
  refine⟨hl,hrd,g,_,cs,h1,h2,h3,by rw [List.length_map];exact h4,fun j c hj=>?_⟩
  rw [List.getElem?_map] at hj
  obtain⟨c0,h0,rfl⟩:=Option.map_eq_some_iff.mp hj
  obtain⟨u',e1,e2⟩:=h5 j c0 h0
  exact⟨u',e1,trivial,e2.one,[],trivial,fun p hp=>by cases hp⟩
 ·exact hI.obs _ _ hj)
end
theorem oH {rs rs2:V9} {fs fs2:p9} (h:(M8 rs fs&&(M8 rs2 fs2&&decide (rs=rs2)))=false):nY (EW rs fs rs2 fs2)=[]:=by unfold EW;rw [h];rfl
theorem pI {rs rs2:V9} {fs fs2:p9} (h:(M8 rs fs&&(M8 rs2 fs2&&decide (rs=rs2)))=true):EW rs fs rs2 fs2=(X2 fs2 fs []).isSome:=by unfold EW;rw [h];rfl
theorem jI {x:Bool}:((nY x).length:Int)=0↔x=false:=by cases x <;> simp [nY]
theorem MM {x:Bool} (h:¬((nY x).length:Int)=0):x=true∧0 < (nY x).length:=by cases x <;> simp [nY] at h ⊢
section
variable (rs:V9) (fs a0 a1:p9) (a2:Bool) (a3 a4:Int) (v:List Int)
theorem lL (ho:∀z∈fs,∀x∈z.2,s7 x):∀z∈E5 rs fs a0 a1 a2 a3 a4 v,∀x∈z.2,s7 x:=by
 have key:∀ {l:p9},M8 rs l=true→∀z∈l,∀x∈z.2,s7 x:=fun h z hz x hx=>by
  have:=GN h z hz x hx
  unfold s7
  omega
 unfold E5
 cases hA:R8 rs fs a0 a1 a2 a3 a4 v with
 | false=>simpa using ho
 | true=>
  rw [if_pos rfl]
  cases a2 with
  | true=>
   rw [if_pos rfl]
   cases hn:MV (v.getD a3.toNat 0) (v.getD a4.toNat 0) with
   | true=>unfold sW;rw [hn,if_pos rfl];exact ho
   | false=>
    obtain⟨fs',e,_,h,_⟩:=jN hA hn
    rw [← e]
    exact key h
  | false=>
   rw [if_neg (by simp)]
   cases hO:S3 fs a0 a1 v with
   | true=>rw [if_pos rfl];exact ho
   | false=>rw [if_neg (by simp)];exact key (jW hA rfl hO)
theorem CJ:(P0 rs fs a0 a1 a2 a3 a4 v=0↔R8 rs fs a0 a1 a2 a3 a4 v=false)∧(P0 rs fs a0 a1 a2 a3 a4 v≠1→M4 rs fs a0 a1 a2 a3 a4 v=rs∧E5 rs fs a0 a1 a2 a3 a4 v=fs)∧(P0 rs fs a0 a1 a2 a3 a4 v=2→a2=true)∧
  (P0 rs fs a0 a1 a2 a3 a4 v=1→a2=true→(G9 (m8 (U9 (E5 rs fs a0 a1 a2 a3 a4 v)))).length + 1=(G9 (m8 (U9 fs))).length∧EW rs fs (M4 rs fs a0 a1 a2 a3 a4 v) (E5 rs fs a0 a1 a2 a3 a4 v)=true∧M8 (M4 rs fs a0 a1 a2 a3 a4 v) (E5 rs fs a0 a1 a2 a3 a4 v)=true)∧
  (P0 rs fs a0 a1 a2 a3 a4 v=1→a2=false→fs.all (sU (E5 rs fs a0 a1 a2 a3 a4 v))=true∧R8 (M4 rs fs a0 a1 a2 a3 a4 v) (E5 rs fs a0 a1 a2 a3 a4 v) a0 a1 a2 a3 a4 v=false∧M8 (M4 rs fs a0 a1 a2 a3 a4 v) (E5 rs fs a0 a1 a2 a3 a4 v)=true∧
   (G9 (m8 (U9 (E5 rs fs a0 a1 a2 a3 a4 v)))).length=(G9 (m8 (U9 fs))).length +(Y5 false (G9 (F9 a0)) (G9 (F9 a1))).length∧fs.length < (E5 rs fs a0 a1 a2 a3 a4 v).length):=by
 cases hA:R8 rs fs a0 a1 a2 a3 a4 v with
 | false=>
  have eC:P0 rs fs a0 a1 a2 a3 a4 v=0:=by unfold P0;simp [hA]
  have eR:M4 rs fs a0 a1 a2 a3 a4 v=rs:=by unfold M4;simp [hA]
  have eS:E5 rs fs a0 a1 a2 a3 a4 v=fs:=by unfold E5;simp [hA]
  rw [eC,eR,eS]
  exact⟨⟨fun _=>rfl,fun _=>rfl⟩,fun _=>⟨rfl,rfl⟩,fun h=>absurd h (by decide),fun h=>absurd h (by decide),fun h=>absurd h (by decide)⟩
 | true=>
  cases a2 with
  | true=>
   have eR:M4 rs fs a0 a1 true a3 a4 v=iV rs fs (v.getD a3.toNat 0) (v.getD a4.toNat 0):=by unfold M4;simp [hA]
   have eS:E5 rs fs a0 a1 true a3 a4 v=sW rs fs (v.getD a3.toNat 0) (v.getD a4.toNat 0):=by unfold E5;simp [hA]
   have eC:P0 rs fs a0 a1 true a3 a4 v=PV (v.getD a3.toNat 0) (v.getD a4.toNat 0):=by unfold P0;simp [hA]
   rw [eC,eR,eS]
   cases hn:MV (v.getD a3.toNat 0) (v.getD a4.toNat 0) with
   | true=>
    have e1:PV (v.getD a3.toNat 0) (v.getD a4.toNat 0)=2:=by unfold PV;rw [hn];rfl
    rw [e1]
    exact⟨⟨fun h=>absurd h (by decide),fun h=>by cases h⟩,fun _=>⟨by unfold iV;rw [hn];rfl,by unfold sW;rw [hn];rfl⟩,fun _=>rfl,fun h=>absurd h (by decide),fun h=>absurd h (by decide)⟩
   | false=>
    have e1:PV (v.getD a3.toNat 0) (v.getD a4.toNat 0)=1:=by unfold PV;rw [hn];rfl
    obtain⟨fs',e,hr,hi,hh,h1,h2⟩:=jN hA hn
    rw [e1,← e,hr]
    exact⟨⟨fun h=>absurd h (by decide),fun h=>by cases h⟩,fun h=>absurd rfl h,fun h=>absurd h (by decide),fun _ _=>⟨by omega,hh,hi⟩,fun _ h=>by cases h⟩
  | false=>
   have eR:M4 rs fs a0 a1 false a3 a4 v=rs:=by unfold M4;simp
   rw [eR]
   cases hO:S3 fs a0 a1 v with
   | true=>
    have eC:P0 rs fs a0 a1 false a3 a4 v=3:=by unfold P0;simp [hA,hO]
    have eS:E5 rs fs a0 a1 false a3 a4 v=fs:=by unfold E5;simp [hO]
    rw [eC,eS]
    exact⟨⟨fun h=>absurd h (by decide),fun h=>by cases h⟩,fun _=>⟨rfl,rfl⟩,fun h=>absurd h (by decide),fun h=>absurd h (by decide),fun h=>absurd h (by decide)⟩
   | false=>
    have eC:P0 rs fs a0 a1 false a3 a4 v=1:=by unfold P0;simp [hA,hO]
    have eS:E5 rs fs a0 a1 false a3 a4 v=O1 fs a0 a1 v:=by unfold E5;simp [hA,hO]
    rw [eC,eS]
    refine⟨⟨fun h=>absurd h (by decide),fun h=>by cases h⟩,fun h=>absurd rfl h,fun h=>absurd h (by decide),fun _ h=>(by cases h),fun _ _=>⟨?_,RN hA rfl hO,jW hA rfl hO,PN hA rfl hO,SK hA rfl hO⟩⟩
    rw [List.all_eq_true]
    exact fun f hf=>JU.2 (kU hA rfl hO hf)
end
theorem nJ (l:p9):(G9 (m8 (U9 l))).length≤l7 (fun(x:Int ×(List (Int)))=>(x.2).length) l:=by
 refine Nat.le_trans (F7 _) ?_
 unfold m8 U9 l7
 rw [List.length_map]
 refine Nat.le_trans (List.length_filter_le _ _) ?_
 rw [List.length_flatMap]
 omega
theorem wQ:∀l:p9,(F9 l).length≤l7 (fun(x:Int ×(List (Int)))=>(x.2).length) l
 | []=>Nat.le_refl _
 | a::l=>by
  have h:=wQ l
  have e:F9 (a::l)=C6 a.2++F9 l:=rfl
  have h2:(C6 a.2).length≤a.2.length:=List.length_filter_le _ _
  rw [e,List.length_append]
  unfold l7 at h ⊢
  simp only [List.length_cons,List.map_cons,List.sum_cons]
  omega
theorem RI (a0 a1:p9):(Y5 false (G9 (F9 a0)) (G9 (F9 a1))).length≤l7 (fun(x:Int ×(List (Int)))=>(x.2).length) a1:=
 Nat.le_trans (List.length_filter_le _ _) (Nat.le_trans (F7 _) (wQ a1))
end Go.Eng
