import Derived.Test.YtiikejgonbnimaaGreatEngZT
set_option linter.unusedVariables false
set_option linter.unusedSimpArgs false
set_option linter.unusedSectionVars false
namespace Go.Eng
open Go Go.RowKit
theorem bU:∀(vs ws vs' ws':List Int) (b:G3),vs.length=ws.length→CT b (vs++vs') (ws++ws')=(CT b vs ws).bind fun b'=>CT b' vs' ws'
 | [],[],vs',ws',b,_=>rfl
 | v::vs,w::ws,vs',ws',b,h=>by
  have h:vs.length=ws.length:=by simpa using h
  rw [List.cons_append,List.cons_append,CT,CT]
  cases kR b v w with
  | none=>rfl
  | some b'=>exact bU vs ws vs' ws' b' h
 | [],w::ws,_,_,_,h=>by simp at h
 | v::vs,[],_,_,_,h=>by simp at h
theorem XO (b:G3)(v w:Int):CT b [v] [w]=kR b v w:=by
 rw [CT]
 cases kR b v w <;> rfl
section
variable {b acc b':G3} {fv mv:List Int} {m:Nat} {v w:Int}
theorem jT (hl:fv.length=mv.length)(h:CT b (fv.take m) (mv.take m)=some acc)(hv:fv[m]? =some v)(hw:mv[m]? =some w)(hs:kR acc v w=some b'):CT b (fv.take (m + 1)) (mv.take (m + 1))=some b':=by
 rw [List.take_add_one,List.take_add_one,hv,hw]
 simp only [Option.toList_some]
 rw [bU _ _ _ _ _ (by simp [hl]),h]
 exact(XO acc v w).trans hs
theorem lQ (hl:fv.length=mv.length)(h:CT b (fv.take m) (mv.take m)=some acc)(hv:fv[m]? =some v)(hw:mv[m]? =some w)(hs:kR acc v w=none):CT b fv mv=none:=by
 have h1:=bU (fv.take (m + 1)) (mv.take (m + 1)) (fv.drop (m + 1)) (mv.drop (m + 1)) b (by simp [hl])
 rw [List.take_append_drop,List.take_append_drop] at h1
 rw [h1,List.take_add_one,List.take_add_one,hv,hw]
 simp only [Option.toList_some]
 rw [bU _ _ _ _ _ (by simp [hl]),h]
 show((CT acc [v] [w]).bind _)=none
 rw [XO,hs]
 rfl
theorem gJ (hl:fv.length=mv.length)(h:CT b (fv.take m) (mv.take m)=some acc)(hm:fv.length≤m):CT b fv mv=some acc:=by
 rwa [List.take_of_length_le hm,List.take_of_length_le (by omega)] at h
theorem SI (h:¬(-40≤v∧v≤ -1))(e:v=w):kR acc v w=some acc:=by
 unfold kR
 rw [if_neg h,if_neg (by rw [e];simp)]
theorem GJ (h:¬(-40≤v∧v≤ -1))(e:v≠w):kR acc v w=none:=by
 unfold kR
 rw [if_neg h,if_pos e]
theorem sK (h: -40≤v∧v≤ -1) {k:Int} (hk:k= -1 - v)(e:(TX acc k).isSome=true→(TX acc k).getD 0=w):kR acc v w=some ((k,w)::acc):=by
 subst hk
 unfold kR
 rw [if_pos h]
 cases hl:TX acc (-1 - v) with
 | none=>rfl
 | some o=>
  have:o=w:=by rw [hl] at e;exact e rfl
  simp only [this,ne_eq,not_true,if_false]
theorem iH (h: -40≤v∧v≤ -1) {k:Int} (hk:k= -1 - v)(e:(TX acc k).isSome=true)(e2:(TX acc k).getD 0≠w):kR acc v w=none:=by
 subst hk
 unfold kR
 rw [if_pos h]
 cases hl:TX acc (-1 - v) with
 | none=>rw [hl] at e;cases e
 | some o=>
  rw [hl] at e2
  simp only [Option.getD_some] at e2
  simp only [ne_eq,e2,not_false_eq_true,if_true]
end
section
variable {f1 m1:Int} {fv mv:List Int} {b:G3}
theorem EM (h:f1≠m1∨fv.length≠mv.length):LX b (f1,fv) (m1,mv)=none:=if_pos h
theorem jO (h1:f1=m1)(h2:fv.length=mv.length):LX b (f1,fv) (m1,mv)=CT b fv mv:=if_neg (by rintro(h | h);exact h h1;exact h h2)
end
section
variable {cx:Cx} {s:St} {todo:List Item} {R:Ending→World→Prop}
theorem fU (t:Nat) {P:Program} {kt e:TypeId} (ht:y9 s.tm t=some (.c (.t none (.v (.map none)))))(h:Wt cx ⟨(t,some (.c (.t none (dW P kt e none))))::s.tm,s.ob,s.nx⟩ todo R):Wt cx s todo R:=fun a w hg=>h a w (by
 obtain⟨E,S,hI,hT,hsz,hdf⟩:=hg
 refine⟨E,S,hI,fun t' v hv=>?_,hsz,hdf⟩
 rw [show(⟨(t,some (.c (.t none (dW P kt e none))))::s.tm,s.ob,s.nx⟩:St).tm=(t,some (.c (.t none (dW P kt e none))))::s.tm from rfl,D9] at hv
 split at hv
 ·rename_i e
  subst e
  cases hv
  obtain⟨_,hu,_⟩:=hT _ _ ht
  exact⟨trivial,by rw [hu];rfl,[],hu,fun p hp=>by cases hp⟩
 ·exact hT _ _ hv)
end
def tA:T:=.ab fun _ _=>True
def KQ:Unit→Nat→T:=fun _ _=>tA
def HY (o:Bool):List Unit:=cond o [()] []
section
variable {cx:Cx} {s:St} {k:List Item} {ops:Array Oper} {rest:List Oper} {R:Ending→World→Prop}
theorem cH (t:Nat) {cells:List AC} (ht:y9 s.tm t=some (.agg cells)) {a:Act} {w:World} (hg:Gm cx s a w):Gm cx ⟨(t,some (.agg (cells.map fun _=> .t none tA)))::s.tm,s.ob,s.nx⟩ a w:=by
 obtain⟨E,S,hI,hT,hsz,hdf⟩:=hg
 refine⟨E,S,hI,fun t' v hv=>?_,hsz,hdf⟩
 rw [show(⟨(t,some (.agg (cells.map fun _=> .t none tA)))::s.tm,s.ob,s.nx⟩:St).tm=(t,some (.agg (cells.map fun _=> .t none tA)))::s.tm from rfl,D9] at hv
 split at hv
 ·rename_i e
  subst e
  cases hv
  obtain⟨us,hu,hl,hc⟩:=hT _ _ ht
  refine⟨us,hu,by rw [List.length_map];exact hl,fun j c hj=>?_⟩
  rw [List.getElem?_map] at hj
  obtain⟨c0,h0,rfl⟩:=Option.map_eq_some_iff.mp hj
  obtain⟨u',e1,e2⟩:=hc j c0 h0
  exact⟨u',e1,trivial,e2.one,[],trivial,fun p hp=>by cases hp⟩
 ·exact hT _ _ hv
theorem PH (t:Nat) {cells:List AC} (ht:y9 s.tm t=some (.agg cells))(h:Wr cx ⟨(t,some (.agg (cells.map fun _=> .t none tA)))::s.tm,s.ob,s.nx⟩ ops rest k R):Wr cx s ops rest k R:=fun a w hg=>h a w (cH t ht hg)
theorem sG (t:Nat) {P:Program} {kt e:TypeId} {o o':Option G3} (ht:y9 s.tm t=some (.c (.t none (dW P kt e o))))(he:o=o')(h:Wr cx ⟨(t,some (.c (.t none (dW P kt e o'))))::s.tm,s.ob,s.nx⟩ ops rest k R):Wr cx s ops rest k R:=fun a w hg=>h a w (by
 subst he
 obtain⟨E,S,hI,hT,hsz,hdf⟩:=hg
 refine⟨E,S,hI,fun t' v hv=>?_,hsz,hdf⟩
 rw [show(⟨(t,some (.c (.t none (dW P kt e o))))::s.tm,s.ob,s.nx⟩:St).tm=(t,some (.c (.t none (dW P kt e o))))::s.tm from rfl,D9] at hv
 split at hv
 ·rename_i e
  subst e
  cases hv
  exact hT _ _ ht
 ·exact hT _ _ hv)
end
theorem oV {o:Option G3} (h:o.isSome=true):o=some (o.getD []):=by
 cases o with
 | none=>cases h
 | some b=>rfl
theorem mI {b b':G3} {v w:Int} (h:kR b v w=some b'):b'.length≤b.length + 1∧((∀p∈b,r7 p.1)→∀p∈b',r7 p.1):=by
 unfold kR at h
 by_cases c: -40≤v∧v≤ -1
 ·rw [if_pos c] at h
  have key:∀b',some ((-1 - v,w)::b)=some b'→b'.length≤b.length + 1∧((∀p∈b,r7 p.1)→∀p∈b',r7 p.1):=fun b' e=>by
   cases e
   refine⟨by simp,fun hb p hp=>?_⟩
   rcases List.mem_cons.1 hp with rfl | hp
   ·unfold r7;constructor <;> dsimp only <;> omega
   ·exact hb p hp
  cases hl:TX b (-1 - v) with
  | none=>rw [hl] at h;exact key _ h
  | some o=>
   rw [hl] at h
   simp only at h
   split at h
   ·cases h
   ·exact key _ h
 ·rw [if_neg c] at h
  split at h
  ·cases h
  ·cases h
   exact⟨Nat.le_succ _,fun hb=>hb⟩
theorem UO:∀(vs ws:List Int) {b b':G3},CT b vs ws=some b'→b'.length≤b.length + vs.length∧((∀p∈b,r7 p.1)→∀p∈b',r7 p.1)
 | [],ws,b,b',h=>by cases ws <;>(cases h;exact⟨Nat.le_refl _,fun hb=>hb⟩)
 | v::vs,[],b,b',h=>by cases h;exact⟨Nat.le_add_right _ _,fun hb=>hb⟩
 | v::vs,w::ws,b,b',h=>by
  rw [CT] at h
  cases hs:kR b v w with
  | none=>rw [hs] at h;cases h
  | some b1=>
   rw [hs] at h
   obtain⟨h1,h2⟩:=mI hs
   obtain⟨h3,h4⟩:=UO vs ws h
   exact⟨by simp only [List.length_cons];omega,fun hb=>h4 (h2 hb)⟩
theorem VO {b b':G3} {f im:Int × List Int} (h:LX b f im=some b'):b'.length≤b.length + f.2.length∧((∀p∈b,r7 p.1)→∀p∈b',r7 p.1):=by
 unfold LX at h
 split at h
 ·cases h
 ·exact UO _ _ h
theorem NR {f:Int × List Int→Option G3} {fs2:p9} {m n:Nat} {z:Int × List Int} (h:(fs2.take m).findSome? f=none)(hz:fs2[n]? =some z)(e:n=m)(hf:f z=none):(fs2.take (m + 1)).findSome? f=none:=by
 subst e
 rw [List.take_add_one,hz,List.findSome?_append,h]
 simp [hf]
theorem PJ {f:Int × List Int→Option G3} {fs2:p9} {m:Nat} (h:(fs2.take m).findSome? f=none)(hm:fs2.length≤m):fs2.findSome? f=none:=by
 rwa [List.take_of_length_le hm] at h
theorem ZJ {f:Int × List Int→Option G3} {fs2:p9} {n:Nat} {z:Int × List Int} (hz:fs2[n]? =some z)(hf:(f z).isSome=true):(fs2.findSome? f).isSome=true:=
 List.findSome?_isSome_iff.2 ⟨z,List.mem_of_getElem? hz,hf⟩
theorem aJ {α β:Type} {f:α→β} {l:List α} {m n:Nat} {z:α} (hz:l[n]? =some z)(e:n=m):(l.take m).map f++[f z]=(l.take (m + 1)).map f:=by
 subst e
 rw [List.take_add_one,hz]
 simp
section
variable {fs fs2:p9} {b:G3} {z im:Int × List Int} {m n:Nat}
theorem HQ (h:((fs.length:Nat):Int)=0):(V2 fs2 fs b).isSome=true:=by
 have:fs=[]:=List.eq_nil_of_length_eq_zero (by omega)
 subst this
 rfl
theorem BQ (hz:fs[0]? =some z):V2 fs2 fs b=fs2.findSome? fun im=>(LX b z im).bind (V2 fs2 (fs.drop 1)):=by
 cases fs with
 | nil=>simp at hz
 | cons f fs=>
  cases hz
  rfl
theorem rJ {g:G3→Option G3} (h:(LX b z im).isSome=false):(LX b z im).bind g=none:=by
 cases hm:LX b z im with
 | none=>rfl
 | some b'=>rw [hm] at h;cases h
theorem hP {t:p9} (h:(LX b z im).isSome=true):(LX b z im).bind (V2 fs2 t)=V2 fs2 t ((LX b z im).getD []):=by
 cases hm:LX b z im with
 | none=>rw [hm] at h;cases h
 | some b'=>rfl
theorem CJ {t:p9} (h:(LX b z im).isSome=true)(h2:(V2 fs2 t ((LX b z im).getD [])).isSome=false):(LX b z im).bind (V2 fs2 t)=none:=by
 rw [hP h]
 cases hs:V2 fs2 t ((LX b z im).getD []) with
 | none=>rfl
 | some _=>rw [hs] at h2;cases h2
theorem aN (hz:fs[0]? =some z)(hi:fs2[n]? =some im)(h:(LX b z im).isSome=true)(h2:(V2 fs2 (fs.drop 1) ((LX b z im).getD [])).isSome=true):(V2 fs2 fs b).isSome=true:=by
 rw [BQ hz]
 exact ZJ hi (by rw [hP h];exact h2)
theorem cL (h0:¬((fs.length:Nat):Int)=0)(h:∀z,fs[0]? =some z→(fs2.take m).findSome? (fun im=>(LX b z im).bind (V2 fs2 (fs.drop 1)))=none)(hm:fs2.length≤m):(V2 fs2 fs b).isSome=false:=by
 cases fs with
 | nil=>exact absurd rfl h0
 | cons f fs=>
  rw [BQ (z:=f) rfl,PJ (h f rfl) hm]
  rfl
theorem SM (h:(LX b z im).isSome=true):((LX b z im).getD []).length≤b.length + z.2.length:=(VO (oV h)).1
theorem yK (h:(LX b z im).isSome=true)(hk:∀p∈b,r7 p.1):∀p∈(LX b z im).getD [],r7 p.1:=(VO (oV h)).2 hk
theorem qL {α:Type} {f:α→Nat} {l:List α} {x:α} (h:l[0]? =some x):i7 f (l.drop 1) + 1 + f x=i7 f l:=by
 cases l with
 | nil=>simp at h
 | cons y l=>
  cases h
  simp only [i7,List.drop_succ_cons,List.drop_zero,List.length_cons,List.map_cons,List.sum_cons]
  omega
theorem pH {x:Bool} (h:x=false):HY x=[]:=by rw [h];rfl
theorem pJ {x y:Bool} (h:x=true)(h2:y=true):HY x=HY y:=by rw [h,h2]
theorem hJ {y:Bool} (h2:y=true):[]++[()]=HY y:=by rw [h2];rfl
end
theorem MH {α:Type} {l:List α}:(l.take l.length).drop (1:Int).toNat=l.drop 1:=by rw [List.take_length];rfl
section
variable {cx:Cx} {s:St} {todo k:List Item} {ops:Array Oper} {rest:List Oper} {R:Ending→World→Prop}
theorem PI (i:Nat) {pn:Option Value} {e sz:Nat} {deep:Bool} {α β:Type} {enc:α→Nat→T} (enc2:β→Nat→T)(hb:y9 s.ob i=some (.row pn e deep sz enc []))(h:Wt cx ⟨s.tm,(i,some (.row none e false sz enc2 []))::s.ob,s.nx⟩ todo R):Wt cx s todo R:=fun a w hg=>h a w (by
 obtain⟨E,S,hI,hT,hsz,hdf⟩:=hg
 obtain⟨hl,hrd,_,ho⟩:=hI.obs _ _ hb
 refine⟨E,S,⟨hI.slt,hI.snew,fun j o hj=>?_,hI.dis,hI.fp,hI.nxt,hI.kept⟩,hT,hsz,hdf⟩
 rw [D9] at hj
 split at hj
 ·rename_i e
  subst e
  cases hj
  refine⟨hl,hrd,fun v hv=>(by cases hv),?_⟩
  simp only [Bool.false_eq_true,if_false]
  cases deep
  ·simp only [Bool.false_eq_true,if_false] at ho
   obtain⟨cells,h1,h2,_⟩:=ho
   exact⟨cells,h1,h2,fun i x hx=>by simp at hx⟩
  ·simp only [if_true] at ho
   obtain⟨cells,G,h1,h2,_⟩:=ho
   exact⟨cells,h1,h2,fun i x hx=>by simp at hx⟩
 ·exact hI.obs _ _ hj)
theorem HJ (i:Nat) {cells:List AC} (hb:y9 s.ob i=some (.box cells))(h:Wt cx ⟨s.tm,(i,some (.box (cells.map fun _=> .t none tA)))::s.ob,s.nx⟩ todo R):Wt cx s todo R:=fun a w hg=>h a w (by
 obtain⟨E,S,hI,hT,hsz,hdf⟩:=hg
 obtain⟨hl,hrd,g,e,cs,h1,h2,h3,h4,h5⟩:=hI.obs _ _ hb
 refine⟨E,S,⟨hI.slt,hI.snew,fun j o hj=>?_,hI.dis,hI.fp,hI.nxt,hI.kept⟩,hT,hsz,hdf⟩
 rw [D9] at hj
 split at hj
 ·rename_i e
  subst e
  cases hj
  refine⟨hl,hrd,g,_,cs,h1,h2,h3,by rw [List.length_map];exact h4,fun j c hj=>?_⟩
  rw [List.getElem?_map] at hj
  obtain⟨c0,h0,rfl⟩:=Option.map_eq_some_iff.mp hj
  obtain⟨u',e1,e2⟩:=h5 j c0 h0
  exact⟨u',e1,trivial,e2.one,[],trivial,fun p hp=>by cases hp⟩
 ·exact hI.obs _ _ hj)
end
theorem fH {rs rs2:V9} {fs fs2:p9} (h:(M8 rs fs&&(M8 rs2 fs2&&decide (rs=rs2)))=false):HY (vW rs fs rs2 fs2)=[]:=by unfold vW;rw [h];rfl
theorem lI {rs rs2:V9} {fs fs2:p9} (h:(M8 rs fs&&(M8 rs2 fs2&&decide (rs=rs2)))=true):vW rs fs rs2 fs2=(V2 fs2 fs []).isSome:=by unfold vW;rw [h];rfl
theorem wJ {x:Bool}:((HY x).length:Int)=0↔x=false:=by cases x <;> simp [HY]
theorem aK {x:Bool} (h:¬((HY x).length:Int)=0):x=true∧0 < (HY x).length:=by cases x <;> simp [HY] at h ⊢
section
variable (rs:V9) (fs a0 a1:p9) (a2:Bool) (a3 a4:Int) (v:List Int)
theorem wK (ho:∀z∈fs,∀x∈z.2,r7 x):∀z∈D5 rs fs a0 a1 a2 a3 a4 v,∀x∈z.2,r7 x:=by
 have key:∀ {l:p9},M8 rs l=true→∀z∈l,∀x∈z.2,r7 x:=fun h z hz x hx=>by
  have:=xN h z hz x hx
  unfold r7
  omega
 unfold D5
 cases hA:P7 rs fs a0 a1 a2 a3 a4 v with
 | false=>simpa using ho
 | true=>
  rw [if_pos rfl]
  cases a2 with
  | true=>
   rw [if_pos rfl]
   cases hn:OV (v.getD a3.toNat 0) (v.getD a4.toNat 0) with
   | true=>unfold nW;rw [hn,if_pos rfl];exact ho
   | false=>
    obtain⟨fs',e,_,h,_⟩:=TO hA hn
    rw [← e]
    exact key h
  | false=>
   rw [if_neg (by simp)]
   cases hO:wW fs a0 a1 v with
   | true=>rw [if_pos rfl];exact ho
   | false=>rw [if_neg (by simp)];exact key (iW hA rfl hO)
theorem RJ:(F0 rs fs a0 a1 a2 a3 a4 v=0↔P7 rs fs a0 a1 a2 a3 a4 v=false)∧(F0 rs fs a0 a1 a2 a3 a4 v≠1→M4 rs fs a0 a1 a2 a3 a4 v=rs∧D5 rs fs a0 a1 a2 a3 a4 v=fs)∧(F0 rs fs a0 a1 a2 a3 a4 v=2→a2=true)∧
  (F0 rs fs a0 a1 a2 a3 a4 v=1→a2=true→(G9 (l8 (U9 (D5 rs fs a0 a1 a2 a3 a4 v)))).length + 1=(G9 (l8 (U9 fs))).length∧vW rs fs (M4 rs fs a0 a1 a2 a3 a4 v) (D5 rs fs a0 a1 a2 a3 a4 v)=true∧M8 (M4 rs fs a0 a1 a2 a3 a4 v) (D5 rs fs a0 a1 a2 a3 a4 v)=true)∧
  (F0 rs fs a0 a1 a2 a3 a4 v=1→a2=false→fs.all (oU (D5 rs fs a0 a1 a2 a3 a4 v))=true∧P7 (M4 rs fs a0 a1 a2 a3 a4 v) (D5 rs fs a0 a1 a2 a3 a4 v) a0 a1 a2 a3 a4 v=false∧M8 (M4 rs fs a0 a1 a2 a3 a4 v) (D5 rs fs a0 a1 a2 a3 a4 v)=true∧
   (G9 (l8 (U9 (D5 rs fs a0 a1 a2 a3 a4 v)))).length=(G9 (l8 (U9 fs))).length +(Z5 false (G9 (F9 a0)) (G9 (F9 a1))).length∧fs.length < (D5 rs fs a0 a1 a2 a3 a4 v).length):=by
 cases hA:P7 rs fs a0 a1 a2 a3 a4 v with
 | false=>
  have eC:F0 rs fs a0 a1 a2 a3 a4 v=0:=by unfold F0;simp [hA]
  have eR:M4 rs fs a0 a1 a2 a3 a4 v=rs:=by unfold M4;simp [hA]
  have eS:D5 rs fs a0 a1 a2 a3 a4 v=fs:=by unfold D5;simp [hA]
  rw [eC,eR,eS]
  exact⟨⟨fun _=>rfl,fun _=>rfl⟩,fun _=>⟨rfl,rfl⟩,fun h=>absurd h (by decide),fun h=>absurd h (by decide),fun h=>absurd h (by decide)⟩
 | true=>
  cases a2 with
  | true=>
   have eR:M4 rs fs a0 a1 true a3 a4 v=aV rs fs (v.getD a3.toNat 0) (v.getD a4.toNat 0):=by unfold M4;simp [hA]
   have eS:D5 rs fs a0 a1 true a3 a4 v=nW rs fs (v.getD a3.toNat 0) (v.getD a4.toNat 0):=by unfold D5;simp [hA]
   have eC:F0 rs fs a0 a1 true a3 a4 v=HV (v.getD a3.toNat 0) (v.getD a4.toNat 0):=by unfold F0;simp [hA]
   rw [eC,eR,eS]
   cases hn:OV (v.getD a3.toNat 0) (v.getD a4.toNat 0) with
   | true=>
    have e1:HV (v.getD a3.toNat 0) (v.getD a4.toNat 0)=2:=by unfold HV;rw [hn];rfl
    rw [e1]
    exact⟨⟨fun h=>absurd h (by decide),fun h=>by cases h⟩,fun _=>⟨by unfold aV;rw [hn];rfl,by unfold nW;rw [hn];rfl⟩,fun _=>rfl,fun h=>absurd h (by decide),fun h=>absurd h (by decide)⟩
   | false=>
    have e1:HV (v.getD a3.toNat 0) (v.getD a4.toNat 0)=1:=by unfold HV;rw [hn];rfl
    obtain⟨fs',e,hr,hi,hh,h1,h2⟩:=TO hA hn
    rw [e1,← e,hr]
    exact⟨⟨fun h=>absurd h (by decide),fun h=>by cases h⟩,fun h=>absurd rfl h,fun h=>absurd h (by decide),fun _ _=>⟨by omega,hh,hi⟩,fun _ h=>by cases h⟩
  | false=>
   have eR:M4 rs fs a0 a1 false a3 a4 v=rs:=by unfold M4;simp
   rw [eR]
   cases hO:wW fs a0 a1 v with
   | true=>
    have eC:F0 rs fs a0 a1 false a3 a4 v=3:=by unfold F0;simp [hA,hO]
    have eS:D5 rs fs a0 a1 false a3 a4 v=fs:=by unfold D5;simp [hO]
    rw [eC,eS]
    exact⟨⟨fun h=>absurd h (by decide),fun h=>by cases h⟩,fun _=>⟨rfl,rfl⟩,fun h=>absurd h (by decide),fun h=>absurd h (by decide),fun h=>absurd h (by decide)⟩
   | false=>
    have eC:F0 rs fs a0 a1 false a3 a4 v=1:=by unfold F0;simp [hA,hO]
    have eS:D5 rs fs a0 a1 false a3 a4 v=R1 fs a0 a1 v:=by unfold D5;simp [hA,hO]
    rw [eC,eS]
    refine⟨⟨fun h=>absurd h (by decide),fun h=>by cases h⟩,fun h=>absurd rfl h,fun h=>absurd h (by decide),fun _ h=>(by cases h),fun _ _=>⟨?_,HN hA rfl hO,iW hA rfl hO,gM hA rfl hO,uK hA rfl hO⟩⟩
    rw [List.all_eq_true]
    exact fun f hf=>aT.2 (mU hA rfl hO hf)
end
theorem nJ (l:p9):(G9 (l8 (U9 l))).length≤i7 (fun(x:Int ×(List (Int)))=>(x.2).length) l:=by
 refine Nat.le_trans (F7 _) ?_
 unfold l8 U9 i7
 rw [List.length_map]
 refine Nat.le_trans (List.length_filter_le _ _) ?_
 rw [List.length_flatMap]
 omega
theorem MQ:∀l:p9,(F9 l).length≤i7 (fun(x:Int ×(List (Int)))=>(x.2).length) l
 | []=>Nat.le_refl _
 | a::l=>by
  have h:=MQ l
  have e:F9 (a::l)=C6 a.2++F9 l:=rfl
  have h2:(C6 a.2).length≤a.2.length:=List.length_filter_le _ _
  rw [e,List.length_append]
  unfold i7 at h ⊢
  simp only [List.length_cons,List.map_cons,List.sum_cons]
  omega
theorem eH (a0 a1:p9):(Z5 false (G9 (F9 a0)) (G9 (F9 a1))).length≤i7 (fun(x:Int ×(List (Int)))=>(x.2).length) a1:=
 Nat.le_trans (List.length_filter_le _ _) (Nat.le_trans (F7 _) (MQ a1))
end Go.Eng
