import Derived.Test.YtiikejgonbnimaaGreatEngJ
set_option linter.unusedVariables false
set_option linter.unusedSimpArgs false
namespace Go.Eng
open Go Go.RowKit
section
variable {P:Program} {ops:Array Oper} {Q:Exit→Act→World→Prop} {md:Region.Mode} {X:Nat→Bool}
theorem DT {i:Nat} {oi:Oper} {v:Value} {ds:List Nat} {w0:World} (h0:w0.heap.size=0)(hi:ops[i]? =some oi)(hsel:∀(j:Nat) (o:Oper) cs b,ops[j]? =some o→o.op≠ .select cs b)
  (hQ:∀c a w,Q (.panic c) (a.put oi.dst v) w→Q (.panic c) a w):
  ∀(fuel:Nat) (listed:Array Bool) (a:Act) (w:World),WI md ops listed i ds→
   (∀j oj,ops[j]? =some oj→j≠i→listed.getD j true=false→j ∉ ds→oi.apart ops oj=true)→
   i∈Region.ready md ops listed→YE P ops oi v a w0→
   CY P md ops Q X fuel (listed.setIfInBounds i true) (a.put oi.dst v) w→CY P md ops Q X (fuel + 1) listed a w:=by
 have hE:∀w,aX w0 w:=fun w=>⟨by omega,fun k hk=>by omega⟩
 intro fuel
 induction fuel with
 | zero=>
  intro listed a w _ _ hr hy H
  refine⟨fun h=>(by rw [h] at hr;cases hr),fun j hj=>?_⟩
  by_cases hji:j=i
  ·subst hji;exact(hy.later (hE w)).wpOp hi ⟨fun _=>aX.refl _,H⟩
  ·have:=ready_mono hj hji
   rw [H.1] at this
   cases this
 | succ fuel ih=>
  intro listed a w hkin hfree hr hy H
  refine⟨fun h=>(by rw [h] at hr;cases hr),fun j hj=>?_⟩
  by_cases hji:j=i
  ·subst hji;exact(hy.later (hE w)).wpOp hi ⟨fun _=>aX.refl _,H⟩
  ·have h1:=H.2 j (ready_mono hj hji)
   obtain⟨hjun,oj,hoj,hall⟩:=mem_ready.1 hj
   have hnd:j ∉ ds:=fun hjd=>by
    obtain⟨_,od,g1,e,g2,g3,g4⟩:=hkin j hjd
    rw [hoj] at g1
    cases g1
    rcases g4 with g4 | g4
    ·exact K2 (mem_ready.1 hr).1 hall g2 g3 g4
    ·exact K2 (hkin _ g4).1 hall g2 g3 rfl
   have hap:=hfree j oj hoj hji hjun hnd
   have h2:=BS hoj hap (fun cs b=>hsel i oi cs b hi) (fun cs b=>hsel j oj cs b hoj) hQ hy h1
   have hun':∀k,(listed.setIfInBounds j true).getD k true=false→listed.getD k true=false:=fun k hun=>by
    by_cases hjk:j=k
    ·subst hjk;exact hjun
    ·rwa [getD_set_ne true hjk] at hun
   have hkin':WI md ops (listed.setIfInBounds j true) i ds:=fun d hd=>by
    obtain⟨g0,g1⟩:=hkin d hd
    refine⟨?_,g1⟩
    rw [getD_set_ne true (by rintro rfl;exact hnd hd)]
    exact g0
   refine wpOp_mono (fun a' w' h3=>⟨h3.2.1,ih (listed.setIfInBounds j true) a' w' hkin' (fun k ok hk hki hun hno=>hfree k ok hk hki (hun' k hun) hno) (ready_mono hr (Ne.symm hji)) h3.1 ?_⟩) h2
   rw [Array.setIfInBounds_comm _ _ hji]
   exact h3.2.2
def fG (md:Region.Mode) (ops:Array Oper) (listed:Array Bool) (i:Nat):Bool:=CX md ops (fun _=>true) listed i
end
def Pw (cx:Cx) (s:St) (op:Go.Op) (v:AV):Prop:=
 ∀(a:Act) (w:World) (E:Nat→EE) (S:Nat→Prop),G6 cx s.ob s.nx E S w→O7 E S w s.tm a.tmps→∃u,(∀(w':World) (dst:Option Nat) (ty:TypeId) (pos:String) (aft:Array Edge) (gd:Option (Nat × Bool)),(execOp a.eval ⟨dst,op,ty,pos,aft,gd⟩).run cx.P w'= .ok (.value u) w')∧M6 E S w v u
section rules
variable {cx:Cx} {s:St} {k:List Item} {R:Ending→World→Prop} {ops:Array Oper} {X:Nat→Bool} {fuel:Nat} {listed:Array Bool}
theorem V4 {x:Operand} {v:AV} (hx:s.ev x=some v):Pw cx s (.move x) v:=
 fun a w E S hI hT=>⟨a.eval x,fun _ _ _ _ _ _=>rfl,J9 hT hx⟩
theorem W7 {t:TypeId} {x:Operand} {f off i o:Nat} (hf:d4 cx.P t f=some off)(hx:s.ev x=some (.c (.ptr i o))):
  Pw cx s (.fieldAddr t x f) ((.c (.ptr i (o + off)))):=
 fun A w E S hI hT=>by
  obtain⟨hlv,g,h1,h2⟩:=J9 hT hx
  refine⟨.pointer (some ⟨g,o + off,none⟩),fun w' _ _ _ _ _=>?_,hlv,g,h1,rfl⟩
  simp only [execOp,h2]
  rw [Sem.run_bind,fZ hf,U6]
  rfl
theorem y7 (i:Nat) {op:Go.Op} {dst:Option Nat} {ty:TypeId} {pos:String} {aft:Array Edge} {v:AV} (hi:ops[i]? =some ⟨dst,op,ty,pos,aft,none⟩)(hd:Q6 dst cx.n=true)(hs:Region.noSelect ops=true)(hr:(Region.ready .any ops listed).contains i=true)(hf:fG .any ops listed i=true)(hp:Pw cx s op v)
  (h:Wd cx (s.sets dst (some v)) ops X fuel (listed.setIfInBounds i true) k R):Wd cx s ops X (fuel + 1) listed k R:=by
 intro a w hg
 have hg0:=hg
 obtain⟨E,S,hI,hT,hn,hdf⟩:=hg
 obtain⟨u,hu,hv⟩:=hp a w E S hI hT
 refine DT (w0:= {w with heap:=#[]}) rfl hi (Region.noSelect_spec hs) (fun c a w h=>by cases h.1) fuel listed a w rY (fun j oj h1 h2 h3 h4=>(O0 hi hf j oj h1 h2 h3 h4).1) (by simpa using hr) (.inl ⟨rfl,fun w' hx=>hu w' _ _ _ _ _⟩) ?_
 refine h _ _ ⟨E,S,?_,I8 hd hn hT (fun v' e=>?_),by rw [P8];exact hn,by rw [put_defers];exact hdf⟩
 ·rw [B7,A7];exact hI
 ·cases e;exact hv
end rules
end Go.Eng
namespace Go.Eng
end Go.Eng
