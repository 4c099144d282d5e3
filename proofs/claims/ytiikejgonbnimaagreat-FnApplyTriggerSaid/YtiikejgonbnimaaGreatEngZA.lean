import Derived.Test.YtiikejgonbnimaaGreatEngZ
set_option linter.unusedVariables false
set_option linter.unusedSimpArgs false
namespace Go.Eng
open Go Go.RowKit
theorem SP {q b:List Int} {t v:Int} (he:JI q b)(hm:pG b t v):∃q',B6 q (t,v)=some q'∧JI q' b:=by
 by_cases ht:t < 0
 ·exact⟨q,OP ht (hm.1 ht),he⟩
 ·have hb:=hm.2 (by omega)
  have hlt:=(List.getElem?_eq_some_iff.1 hb).1
  have hq:t.toNat < q.length:=by rw [he.1];exact hlt
  have hy:q[t.toNat]? =some q[t.toNat]:=List.getElem?_eq_getElem hq
  refine⟨q.set t.toNat v,?_,by simp [he.1],?_⟩
  ·unfold B6
   dsimp only
   rw [if_neg ht,hy]
   dsimp only
   rw [if_pos]
   by_cases e:q[t.toNat]=10
   ·exact .inl e
   ·have:=he.2 _ _ hy e
    rw [hb] at this
    cases this
    exact .inr rfl
  ·intro k y hk hy2
   by_cases e:k=t.toNat
   ·subst e
    rw [List.getElem?_set_self hq] at hk
    cases hk
    exact hb
   ·rw [List.getElem?_set_ne (Ne.symm e)] at hk
    exact he.2 k y hk hy2
theorem EO:∀ {ps:List (Int × Int)} {q b:List Int},JI q b→(∀t v,(t,v)∈ps→pG b t v)→(B1 q ps).2=true∧JI (B1 q ps).1 b
 | [],q,b,he,_=>⟨rfl,he⟩
 | (t,v)::ps,q,b,he,h=>by
  obtain⟨q',h1,h2⟩:=SP he (h t v (by simp))
  unfold B1
  rw [h1]
  exact EO h2 (fun t' v' hm=>h t' v' (List.mem_cons_of_mem _ hm))
theorem CS {fs:p9}:∀ {l:p9} {q b:List Int},JI q b→(∀a∈l,∃f∈fs,AG b a f)→∃r∈t8 fs l q,JI r b
 | [],q,b,he,_=>⟨q,by simp [t8],he⟩
 | a::l,q,b,he,h=>by
  obtain⟨f,hf,hm⟩:=h a (by simp)
  have hfit:(p5 a f q).2=true∧JI (p5 a f q).1 b:=by
   unfold p5
   rw [if_pos hm.1]
   exact EO he hm.2
  obtain⟨r,hr,e⟩:=CS (fs:=fs) hfit.2 (fun a' ha'=>h a' (List.mem_cons_of_mem _ ha'))
  refine⟨r,?_,e⟩
  unfold t8
  refine List.mem_flatMap.2 ⟨f,hf,?_⟩
  rw [if_pos hfit.1]
  exact hr
theorem xQ:∀ {ts vs b:List Int},V8 b ts=some vs→(∀t v,(t,v)∈ts.zip vs→pG b t v∧ -40≤v∧v≤9)
 | [],vs,b,h=>by
  simp only [V8,Option.some.injEq] at h
  subst h
  intro t v h
  simp at h
 | t::ts,vs,b,h=>by
  unfold V8 at h
  cases hi:Y5 b t with
  | none=>rw [hi] at h;cases h
  | some w=>
   rw [hi] at h
   cases hr:V8 b ts with
   | none=>rw [hr] at h;cases h
   | some ws=>
    rw [hr] at h
    simp only [Option.bind_some,Option.map_some,Option.some.injEq] at h
    subst h
    intro t' v' hm
    rw [List.zip_cons_cons] at hm
    rcases List.mem_cons.1 hm with q | q
    ·cases q
     unfold Y5 at hi
     by_cases ht:0≤t
     ·rw [if_pos ht] at hi
      cases hb:b[t.toNat]? with
      | none=>rw [hb] at hi;cases hi
      | some y=>
       rw [hb] at hi
       simp only [Option.bind_some] at hi
       split at hi
       ·cases hi
        exact⟨⟨fun h0=>by omega,fun _=>hb⟩,by assumption⟩
       ·cases hi
     ·rw [if_neg ht] at hi
      simp only [Option.bind_some] at hi
      split at hi
      ·cases hi
       exact⟨⟨fun _=>rfl,fun h0=>by omega⟩,by assumption⟩
      ·cases hi
    ·exact xQ hr t' v' q
theorem QT {rs:V9} {l:p9} {n:Int} (h:H7 rs l n=true):(l.length:Int)≤n∧∀a∈l,F5 rs a.1 a.2=true:=by
 unfold H7 at h
 simp only [Bool.and_eq_true,decide_eq_true_eq,Bool.not_eq_true',List.any_eq_false] at h
 exact⟨by omega,fun a ha=>by
  have:=h.2 a ha
  unfold E7 at this
  simpa using this⟩
theorem a6 {rs:V9} {fs a0 a1:p9} {a2:Bool} {a3 a4:Int} {b:List Int} (h:P7 rs fs a0 a1 a2 a3 a4 b=true):G5 rs fs a0 a1 a2 a3 a4 b=true:=by
 unfold P7 at h
 simp only [Bool.and_eq_true] at h
 exact h.1
end Go.Eng
