import Derived.Test.YtiikejgonbnimaaGreatEngZ
set_option linter.unusedVariables false
set_option linter.unusedSimpArgs false
namespace Go.Eng
open Go Go.RowKit
theorem QP {q b:List Int} {t v:Int} (he:II q b)(hm:nG b t v):∃q',y6 q (t,v)=some q'∧II q' b:=by
 by_cases ht:t < 0
 ·exact⟨q,LP ht (hm.1 ht),he⟩
 ·have hb:=hm.2 (by omega)
  have hlt:=(List.getElem?_eq_some_iff.1 hb).1
  have hq:t.toNat < q.length:=by rw [he.1];exact hlt
  have hy:q[t.toNat]? =some q[t.toNat]:=List.getElem?_eq_getElem hq
  refine⟨q.set t.toNat v,?_,by simp [he.1],?_⟩
  ·unfold y6
   dsimp only
   rw [if_neg ht,hy]
   dsimp only
   rw [if_pos]
   by_cases e:q[t.toNat]=10
   ·exact .inl e
   ·have:=he.2 _ _ hy e
    rw [hb] at this
    cases this
    exact .inr rfl
  ·intro k y hk hy2
   by_cases e:k=t.toNat
   ·subst e
    rw [List.getElem?_set_self hq] at hk
    cases hk
    exact hb
   ·rw [List.getElem?_set_ne (Ne.symm e)] at hk
    exact he.2 k y hk hy2
theorem xO:∀ {ps:List (Int × Int)} {q b:List Int},II q b→(∀t v,(t,v)∈ps→nG b t v)→(B1 q ps).2=true∧II (B1 q ps).1 b
 | [],q,b,he,_=>⟨rfl,he⟩
 | (t,v)::ps,q,b,he,h=>by
  obtain⟨q',h1,h2⟩:=QP he (h t v (by simp))
  unfold B1
  rw [h1]
  exact xO h2 (fun t' v' hm=>h t' v' (List.mem_cons_of_mem _ hm))
theorem ZT {fs:p9}:∀ {l:p9} {q b:List Int},II q b→(∀a∈l,∃f∈fs,zG b a f)→∃r∈v8 fs l q,II r b
 | [],q,b,he,_=>⟨q,by simp [v8],he⟩
 | a::l,q,b,he,h=>by
  obtain⟨f,hf,hm⟩:=h a (by simp)
  have hfit:(w5 a f q).2=true∧II (w5 a f q).1 b:=by
   unfold w5
   rw [if_pos hm.1]
   exact xO he hm.2
  obtain⟨r,hr,e⟩:=ZT (fs:=fs) hfit.2 (fun a' ha'=>h a' (List.mem_cons_of_mem _ ha'))
  refine⟨r,?_,e⟩
  unfold v8
  refine List.mem_flatMap.2 ⟨f,hf,?_⟩
  rw [if_pos hfit.1]
  exact hr
theorem tQ:∀ {ts vs b:List Int},Y8 b ts=some vs→(∀t v,(t,v)∈ts.zip vs→nG b t v∧ -40≤v∧v≤9)
 | [],vs,b,h=>by
  simp only [Y8,Option.some.injEq] at h
  subst h
  intro t v h
  simp at h
 | t::ts,vs,b,h=>by
  unfold Y8 at h
  cases hi:W5 b t with
  | none=>rw [hi] at h;cases h
  | some w=>
   rw [hi] at h
   cases hr:Y8 b ts with
   | none=>rw [hr] at h;cases h
   | some ws=>
    rw [hr] at h
    simp only [Option.bind_some,Option.map_some,Option.some.injEq] at h
    subst h
    intro t' v' hm
    rw [List.zip_cons_cons] at hm
    rcases List.mem_cons.1 hm with q | q
    ·cases q
     unfold W5 at hi
     by_cases ht:0≤t
     ·rw [if_pos ht] at hi
      cases hb:b[t.toNat]? with
      | none=>rw [hb] at hi;cases hi
      | some y=>
       rw [hb] at hi
       simp only [Option.bind_some] at hi
       split at hi
       ·cases hi
        exact⟨⟨fun h0=>by omega,fun _=>hb⟩,by assumption⟩
       ·cases hi
     ·rw [if_neg ht] at hi
      simp only [Option.bind_some] at hi
      split at hi
      ·cases hi
       exact⟨⟨fun _=>rfl,fun h0=>by omega⟩,by assumption⟩
      ·cases hi
    ·exact tQ hr t' v' q
theorem LT {rs:V9} {l:p9} {n:Int} (h:I7 rs l n=true):(l.length:Int)≤n∧∀a∈l,F5 rs a.1 a.2=true:=by
 unfold I7 at h
 simp only [Bool.and_eq_true,decide_eq_true_eq,Bool.not_eq_true',List.any_eq_false] at h
 exact⟨by omega,fun a ha=>by
  have:=h.2 a ha
  unfold G7 at this
  simpa using this⟩
theorem Z7 {rs:V9} {fs a0 a1:p9} {a2:Bool} {a3 a4:Int} {b:List Int} (h:R8 rs fs a0 a1 a2 a3 a4 b=true):J5 rs fs a0 a1 a2 a3 a4 b=true:=by
 unfold R8 at h
 simp only [Bool.and_eq_true] at h
 exact h.1
end Go.Eng
