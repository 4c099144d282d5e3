import Derived.Test.YthcggkagkihamaaGreatDoorEngN
import Derived.Ground.NamesProg
import Derived.Shelf.Lay
import Derived.Shelf.Strings.OnBuilder
import Derived.Shelf.Strconv.Itoa3
set_option linter.unusedVariables false
set_option linter.unusedSimpArgs false
namespace Go.Eng
open Go Go.RowKit Go.Proofs
theorem PI {P:Program} {f:FuncId} {args:List AV} {t:List UInt8} (h:∀(w:World) (S:Nat→Prop) (vs:List Value),(∀k,S k→k < w.heap.size)→E1 (fun _=>V6) S w args vs→Calls P f vs.toArray w fun e w'=>e= .returned (.string (U6 t))∧Below w.heap.size w w'):
  Pu P f args [] 0 (.c (.t none (.v (.string (U6 t))))):=by
 intro n w S vs hS hA
 refine(h w S vs hS hA).mono fun e w' ⟨he,hb⟩=>⟨_,fun _=>V6,S,he,⟨fun k hk=>Nat.lt_of_lt_of_le (hS k hk) hb.size,fun k hk=> .inl hk,fun i o h=>by simp [B9] at h,fun i j _ h=>h.elim,fun i h=>h.elim,fun i h=>h.elim,⟨hb.os,hb.tape,hb.output,hb.size,fun k hk _=>hb.block k hk⟩⟩,⟨trivial,rfl,rfl⟩⟩
theorem KJ {P:Program} {ρ:Go.Shelf.Ren} (L:Go.Proofs.Lays.n156 P ρ)(X:Go.Proofs.Builder.Extra P ρ)(xs:List (List UInt8))(sep:List UInt8)(h1:xs.length≤140737488355328)(h2:(Lib.join xs sep).length≤140737488355328):
  Pu P (ρ.f 156) [.c (.t none (.sl 1 Y9 xs)),.c (.t none (.v (.string (U6 sep))))] [] 0 (.c (.t none (.v (.string (U6 (Lib.join xs sep)))))):=by
 refine PI fun w S vs hS hA=>?_
 obtain⟨u0,e0,d0⟩:=hA.2 0 _ rfl
 obtain⟨u1,e1,d1⟩:=hA.2 1 _ rfl
 have hvs:vs=[u0,u1]:=by
  have h:=hA.1
  match vs,h,e0,e1 with
  | [x,y],_,e0,e1=>cases e0;cases e1;rfl
 subst hvs
 obtain⟨_,A,cap,rfl,hc,hr⟩:=d0
 obtain⟨_,rfl,_⟩:=d1
 have hm:(xs.map fun x=>U6 x).map (·.data.toList)=xs:=by
  rw [List.map_map]
  conv=>rhs;rw [← List.map_id xs]
  exact List.map_congr_left fun x _=>by simp
 cases xs with
 | nil=>
  refine(Go.Proofs.Any.strings_Join_none L X A cap (U6 sep) w).mono ?_
  rintro e w' ⟨rfl,rfl⟩
  exact⟨rfl,Below.refl _ _⟩
 | cons x r=>
  obtain⟨ad,rfl,hs,hq⟩:=hr 0 x rfl
  have hcell:∀(j:Nat) y,(x::r)[j]? =some y→ad.spot=none∧w.cell? ⟨ad.block,ad.off + j,none⟩=some (.string (U6 y)):=by
   intro j y hj
   obtain⟨ad',ha,_,hq'⟩:=hr j y hj
   cases ha
   obtain⟨u',hc',hd'⟩:=hq' 0 (by decide)
   have hu:u'= .string (U6 y):=hd'.1
   subst hu
   have hsp:ad.spot=none:=by
    obtain⟨u0,hc0,_⟩:=hq 0 (by decide)
    simp only [Nat.zero_mul,Nat.add_zero,Addr.add,if_true] at hc0
    unfold World.cell? at hc0
    split at hc0
    ·split at hc0
     ·cases hc0
     ·rename_i hn
      cases hsp:ad.spot with
      | none=>rfl
      | some k=>rw [hsp] at hn;simp at hn
    ·cases hc0
   refine⟨hsp,?_⟩
   have hadd:ad.add (j * 1 + 0)=⟨ad.block,ad.off + j,none⟩:=by
    unfold Addr.add
    split
    ·rename_i h0
     have:j=0:=by omega
     subst this
     cases ad
     simp_all
    ·simp
   rw [hadd] at hc'
   exact hc'
  have had:ad=⟨ad.block,ad.off,none⟩:=by
   have:=(hcell 0 x rfl).1
   cases ad
   simp_all
  have hlen:(Lib.join (((x::r).map fun x=>U6 x).map (·.data.toList)) (U6 sep).data.toList).length≤140737488355328:=by rw [hm];exact h2
  have:=Go.Proofs.Any.strings_Join L X ad.block ad.off cap ((x::r).map fun x=>U6 x) (U6 sep) w (fun j y hj=>by
   rw [List.getElem?_map] at hj
   obtain⟨y',h1,rfl⟩:=Option.map_eq_some_iff.mp hj
   exact(hcell j y' h1).2) (hS _ hs) (by rw [List.length_map];exact h1) (by rw [List.length_map];exact hc) hlen
  rw [hm,List.length_map,← had] at this
  exact this
section
variable {cx:Cx} {s:St} {dst:Option Nat} {ty:TypeId} {pos:String} {aft:Array Edge}
end
def yU (n:Int):List UInt8:=if n=0 then [48] else B1 n.toNat
theorem oP {u:Nat} (h:0 < u):B1 u=Lib.decDigits u:=by
 induction u using Nat.strongRecOn with
 | _ u ih=>
  rw [J2 h,Lib.decDigits]
  by_cases h1:u < 10
  ·rw [dif_pos h1,Nat.div_eq_of_lt h1,Nat.mod_eq_of_lt h1]
   simp [B1]
  ·rw [dif_neg h1,ih (u / 10) (by omega) (by omega)]
theorem IK {n:Int} (h:0≤n):Lib.decDigits n.toNat=yU n:=by
 unfold yU
 split
 ·rename_i h0
  subst h0
  rw [show(0:Int).toNat=0 from rfl,Lib.decDigits,dif_pos (by decide)]
  rfl
 ·exact(oP (by omega)).symm
end Go.Eng
