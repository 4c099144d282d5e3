import Derived.Test.YthcggkagkihamaaGreatDoorEngO
set_option linter.unusedVariables false
set_option linter.unusedSimpArgs false
namespace Go.Eng
open Go Go.RowKit Go.Proofs
theorem EP {a b:List UInt8} (h:a=b):AV.c (.t none (.v (.string (U6 a))))= .c (.t none (.v (.string (U6 b)))):=by rw [h]
theorem FH {a b:List UInt8} (h:a=b):some (sc (.string (U6 a)))=some (sc (.string (U6 b))):=by rw [h]
theorem wS {sep:List UInt8} {l:List (List UInt8)} {m:Nat} {x:List UInt8} (h:l[m]? =some x):Lib.joinTail sep (l.take (m + 1))=Lib.joinTail sep (l.take m)++(sep++x):=by
 unfold Lib.joinTail
 rw [List.take_add_one,h]
 simp
theorem uR {sep:List UInt8} {l:List (List UInt8)} {m:Nat} {x:List UInt8} (h:l[m]? =some x):Lib.join (l.take (m + 1)) sep=if m=0 then x else Lib.join (l.take m) sep++sep++x:=by
 cases l with
 | nil=>simp at h
 | cons a r=>
  cases m with
  | zero=>
   obtain rfl:a=x:=by simpa using h
   rw [if_pos rfl]
   simp [Lib.join_one]
  | succ k=>
   rw [if_neg (by omega),List.take_succ_cons,Lib.join_cons,wS (by simpa using h),List.take_succ_cons,Lib.join_cons]
   simp [List.append_assoc]
theorem vV {sep:List UInt8} {B:Nat}:∀ {l:List (List UInt8)},(∀x∈l,x.length≤B)→(Lib.joinTail sep l).length≤(sep.length + B) * l.length
 | [],h=>by simp [Lib.joinTail]
 | a::r,h=>by
  have h1:=vV (sep:=sep) (l:=r) fun x hx=>h x (List.mem_cons_of_mem _ hx)
  have h2:=h a List.mem_cons_self
  unfold Lib.joinTail at h1 ⊢
  simp only [List.map_cons,List.flatten_cons,List.length_append,List.length_cons,Nat.mul_add] at h1 ⊢
  omega
theorem cL {sep:List UInt8} {B:Nat} {l:List (List UInt8)} (h:∀x∈l,x.length≤B):(Lib.join l sep).length≤(sep.length + B) * l.length:=by
 cases l with
 | nil=>simp [Lib.join_nil]
 | cons a r=>
  rw [Lib.join_cons,List.length_append,List.length_cons,Nat.mul_add]
  have h1:=vV (sep:=sep) (l:=r) fun x hx=>h x (List.mem_cons_of_mem _ hx)
  have h2:=h a List.mem_cons_self
  omega
theorem cM {q:Nat} (h:q < 100):(B1 q).length≤2:=by
 rcases Nat.eq_zero_or_pos q with rfl | h0
 ·simp [B1]
 ·rw [J2 h0]
  rcases Nat.eq_zero_or_pos (q / 10) with h1 | h1
  ·rw [h1];simp [B1]
  ·rw [J2 h1]
   have:q / 10 / 10=0:=by omega
   rw [this]
   simp [B1]
theorem jQ {n:Int} (h:n < 100):(yU n).length≤2:=by
 unfold yU
 split
 ·simp
 ·exact cM (by omega)
theorem yM {α β:Type} {f:α→β} {l:List α} {m:Nat} {z:α} (h:l[m]? =some z):(l.take m).map f++[f z]=(l.take (m + 1)).map f:=by
 rw [List.take_add_one,h]
 simp
theorem tP {α:Type} {f:α→List UInt8} {B:Nat} (hf:∀x,(f x).length≤B)(l:List α)(m:Nat)(sep:List UInt8):(Lib.join ((l.take m).map f) sep).length≤(sep.length + B) * l.length:=by
 have h1:=cL (sep:=sep) (B:=B) (l:=(l.take m).map f) fun x hx=>by
  obtain⟨y,_,rfl⟩:=List.mem_map.1 hx
  exact hf y
 refine Nat.le_trans h1 (Nat.mul_le_mul_left _ ?_)
 rw [List.length_map,List.length_take]
 omega
theorem cO {α:Type} {f:α→List UInt8} {l:List α} {m:Nat} {z:α} {sep:List UInt8} (h:l[m]? =some z)(hm:0 < m):(Lib.join ((l.take m).map f) sep++sep)++f z=Lib.join ((l.take (m + 1)).map f) sep:=by
 have h1:(l.map f)[m]? =some (f z):=by rw [List.getElem?_map,h];rfl
 have h2:=uR (sep:=sep) h1
 rw [if_neg (by omega),← List.map_take,← List.map_take] at h2
 rw [h2]
theorem wP {α:Type} {f:α→List UInt8} {l:List α} {m:Nat} {z:α} {sep:List UInt8} (h:l[m]? =some z)(hm:¬0 < m):Lib.join ((l.take m).map f) sep++f z=Lib.join ((l.take (m + 1)).map f) sep:=by
 obtain rfl:m=0:=by omega
 have h1:(l.map f)[0]? =some (f z):=by rw [List.getElem?_map,h];rfl
 have h2:=uR (sep:=sep) h1
 rw [if_pos rfl,← List.map_take] at h2
 rw [h2]
 rfl
section
variable {rs:T9} {a0 a1:w9} {a2:Bool} {a3 a4:Int}
end
section
variable {rs:T9} {p q i:Int} {m:Nat} {z:List UInt8 × Int × Bool}
end
section
variable {rs:T9} {ds:List Y1} {m:Nat}
end
end Go.Eng
