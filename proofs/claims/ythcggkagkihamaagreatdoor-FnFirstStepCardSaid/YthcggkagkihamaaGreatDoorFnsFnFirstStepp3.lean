/- What the functions that FnFirstStep reaches answer. -/
import Derived.Test.YthcggkagkihamaaGreatDoorFnsFnFirstStepp2
import Derived.Test.YthcggkagkihamaaGreatDoorEngZO
import Derived.Test.YthcggkagkihamaaGreatDoorChecked
set_option linter.unusedVariables false
set_option linter.unusedSimpArgs false
namespace Go.Eng
open Go Go.RowKit Go.Proofs
set_option maxHeartbeats 1000000
set_option maxRecDepth 10000
theorem PV (rs:T9)(fs:w9)(a0:List (Int ×(List Int)))(a1:List (Int ×(List Int)))(a2:Bool)(a3:Int)(a4:Int)(b:List Int)(hrs:rs.length≤4611686018427387904)(hfs:N8 (fun(x:Int ×(List Int))=>x.2.length) fs≤1048576)(ho:∀z∈fs,∀x∈z.2,B7 x)(hs:N8 (fun(x:Int ×(List Int))=>x.2.length) a0 + N8 (fun(x:Int ×(List Int))=>x.2.length) a1≤1048576)(hoa:∀z∈a0,∀x∈z.2,B7 x)(hob:∀x∈b,B7 x)(hbl:b.length≤1048576):Pu Tryz.prog 145 [.agg [.t none (.sl 3 (j8 Y9 f9 U9) rs),.t none (.sl 2 (y9 f9 (x9 1 f9)) fs)],.agg [.t none (.sl 2 (y9 f9 (x9 1 f9)) a0),.t none (.sl 2 (y9 f9 (x9 1 f9)) a1),.t none (.v (.bool a2)),.t none (.v (.int .i64 a3)),.t none (.v (.int .i64 a4))],.c (.t none (.sl 1 f9 b))] [] 0 (.c (.t none (.v (.bool (T4 rs fs a0 a1 a2 a3 a4 b))))):=by
 refine S7 Tryz.func145 fun w S=>?_
 have g0:=I8 (f:=(fun(x:Int ×(List Int))=>x.2.length)) (l:=a0);have v0:=Q7 (I9 a0);have v1:=F7 a0
 refine t9 ?_
 refine d9 (m8 0 rfl rfl rfl rfl) ?_
 refine d9 (m8 1 rfl rfl rfl rfl) ?_
 refine rA<|c9<|k9<|t9 ?_
 refine rC 2 ?_
 refine d9 (n9 2 2 false (H9 Tryz.func37) (H6 rs fs (by omega) (by omega) (by omega)) rfl (.cons rfl (.agg (.cons .t0 (.cons .t0 .nil))) .nil) rfl rfl rfl) ?_
 refine d9 (E8 rfl rfl) ?_
 refine rM ?_
 refine A9 (fun g1=>?_) (fun g1=>?_)
 ·
  have g1':=(Y5 g1)
  refine rF 0 ?_
  refine A9 (fun _=>?_) (C9 g1)
  refine rL ?_
  refine A9 (fun _=>?_) (C9 g1)
  refine rC 5 ?_
  refine A9 (fun _=>?_) (C9 g1)
  refine d9 (n9 2 2 false (H9 Tryz.func65) (y5 rs a0 a1 a2 a3 a4 (by omega) (by omega)) rfl (.cons rfl (.c .t0) (.cons rfl (.agg (.cons .t0 (.cons .t0 (.cons .t0 (.cons .t0 (.cons .t0 .nil)))))) .nil)) rfl rfl rfl) ?_
  refine A9 (fun _=>?_) (C9 g1)
  refine d9 (E8 rfl rfl) ?_
  refine d9 (G9 rfl rfl g1 rfl) ?_
  refine rM ?_
  refine A9 (fun g2=>?_) (fun g2=>?_)
  ·
   have g2':=(Y5 g2)
   refine rM ?_
   refine A9 (fun _=>?_) (C9 g2)
   refine d9 (P9 rfl rfl rfl) ?_
   refine A9 (fun _=>?_) (C9 g2)
   refine rB ?_
   refine d9 (G9 rfl rfl g2 rfl) ?_
   refine c9 ?_
   refine j9 rfl (fun h3=>?_) (fun h3=>?_)
   ·
    have h3':=a8 h3
    refine t9<|rA<|c9 ?_
    refine tk Tryz.func145 (.tmp rfl .nil) ?_ <;>(try clear ih0) <;>(try clear ih1)
    all_goals(refine K7 ?_;(unfold T4;clear hrs hfs ho hs hoa hob g0 v0 v1;grind))
   ·
    have h3':=d8 h3
    refine m9<|t9<|rF 0 ?_
    refine rL ?_
    refine d9 (n9 2 3 false (H9 Tryz.func128) (N5 a0 (by omega)) rfl (.cons rfl (.c .t0) .nil) rfl rfl rfl) ?_
    refine rA<|c9<|k9<|t9 ?_
    refine rA<|c9<|p9 ?_
    refine J9 (fun m=>⟨[(2,some (.c (.t none (.sl 1 f9 b)))),(3,some (.c (.ptr 0 0))),(4,some (.c (.ptr 1 0))),(7,some (.c (.own 2))),(8,some (.c (.t none (.v (.int .i64 ((m:Int)))))))],[(0,some (.box [.t none (.sl 3 (j8 Y9 f9 U9) rs),.t none (.sl 2 (y9 f9 (x9 1 f9)) fs)])),(1,some (.box [.t none (.sl 2 (y9 f9 (x9 1 f9)) a0),.t none (.sl 2 (y9 f9 (x9 1 f9)) a1),.t none (.v (.bool a2)),.t none (.v (.int .i64 a3)),.t none (.v (.int .i64 a4))])),(2,some (.row none 3 true 1 f9 (O9 (I9 a0))))],3⟩:Nat→St) (fun m=>m≤b.length∧∀j,j < m→wY (O9 (I9 a0)) b j=true) (fun m=>b.length - m) 0 ⟨⟨rfl,⟨rfl,⟨rfl,⟨rfl,⟨rfl,trivial⟩⟩⟩⟩⟩,⟨rfl,⟨rfl,⟨rfl,trivial⟩⟩⟩,rfl⟩ (by exact⟨Nat.zero_le _,fun j h=>by omega⟩) ?_
    rintro m hI ih0
    try dsimp only at hI ih0
    obtain⟨i1,i2⟩:=hI
    refine k9<|t9<|rM ?_
    refine rM ?_
    refine d9 (P9 rfl rfl rfl) ?_
    refine rB<|c9 ?_
    refine j9 rfl (fun h4=>?_) (fun h4=>?_)
    ·
     have h4':=a8 h4
     refine m9<|k9<|p9<|k9 ?_
     refine tY ?_
     refine dT 0 rfl pM ?_
     refine dT 1 rfl pM ?_
     refine dT 3 rfl pM ?_
     refine dT 4 rfl pM ?_
     obtain⟨z5,hz6,b7⟩:=v9 (xs:=b) (n:=(m:Int)) (by omega) (by omega)
     refine dT 5 rfl (p8 (by kernel_rfl) rfl rfl b7 hz6) ?_
     refine dT 6 rfl (Y8 (by kernel_rfl) rfl rfl) ?_
     refine dO 2 rfl (n9 3 3 false (H9 Tryz.func129) (L0 (O9 (I9 a0)) ((m:Int)) (by omega)) rfl (.cons rfl (.c (.own rfl)) (.cons rfl (.c .t0) .nil)) rfl rfl rfl) ?_
     refine dO 7 rfl (n9 3 3 false (H9 Tryz.func192) (dZ) rfl .nil rfl rfl rfl) ?_
     refine dT 8 rfl pB ?_
     refine dT 9 rfl (IL Tryz.underlying4 rfl rfl) ?_
     refine dE ?_
     refine j9 rfl (fun h8=>?_) (fun h8=>?_)
     ·
      have h8':=h8
      try simp only [decide_eq_true_eq,decide_eq_false_iff_not,Bool.not_eq_true',Bool.not_eq_false',Bool.not_false,Bool.not_true] at h8'
      refine t9<|rA<|c9 ?_
      refine tk Tryz.func145 (.tmp rfl .nil) ?_ <;>(try clear ih0) <;>(try clear ih1)
      all_goals(refine K7 ?_;((have e:fU (O9 (I9 a0)) b=false:=bT (m:=m) (by omega) (by rw [zY (V:=O9 (I9 a0)) (m:=m) hz6];(exact cI (by assumption))));(unfold T4;rw [e];simp;done)))
     ·
      have h8':=h8
      try simp only [decide_eq_true_eq,decide_eq_false_iff_not,Bool.not_eq_true',Bool.not_eq_false',Bool.not_false,Bool.not_true] at h8'
      refine m9<|i9<|l9<|rM ?_
      refine rB ?_
      refine rA<|c9 ?_
      refine Z9 ?_ (ih0 (m + 1) (by(try dsimp only);omega) (by(try dsimp only);exact⟨by omega,i6 i2 (by rw [zY (V:=O9 (I9 a0)) (m:=m) hz6];(exact YI (by assumption)))⟩))
      exact⟨⟨rfl,⟨rfl,⟨rfl,⟨rfl,⟨(L7 (n8 (by omega) (by omega))),trivial⟩⟩⟩⟩⟩,⟨rfl,⟨rfl,⟨rfl,trivial⟩⟩⟩,rfl⟩
    ·
     have h4':=d8 h4
     refine N9 rfl<|k9<|t9<|rA<|c9<|p9 ?_
     refine J9 (fun n=>⟨[(2,some (.c (.t none (.sl 1 f9 b)))),(3,some (.c (.ptr 0 0))),(4,some (.c (.ptr 1 0))),(9,some (.c (.t none (.v (.int .i64 ((n:Int)))))))],[(0,some (.box [.t none (.sl 3 (j8 Y9 f9 U9) rs),.t none (.sl 2 (y9 f9 (x9 1 f9)) fs)])),(1,some (.box [.t none (.sl 2 (y9 f9 (x9 1 f9)) a0),.t none (.sl 2 (y9 f9 (x9 1 f9)) a1),.t none (.v (.bool a2)),.t none (.v (.int .i64 a3)),.t none (.v (.int .i64 a4))])),(2,some (.row none 3 true 1 f9 (O9 (I9 a0))))],3⟩:Nat→St) (fun n=>n≤a0.length∧∀j z,j < n→a0[j]? =some z→U3 fs b z=true) (fun n=>a0.length - n) 0 ⟨⟨rfl,⟨rfl,⟨rfl,⟨rfl,trivial⟩⟩⟩⟩,⟨rfl,⟨rfl,⟨rfl,trivial⟩⟩⟩,rfl⟩ (by exact⟨Nat.zero_le _,fun j z h=>by omega⟩) ?_
     rintro n hI ih1
     try dsimp only at hI ih1
     obtain⟨k1,k2⟩:=hI
     refine k9<|t9<|rM ?_
     refine rF 0 ?_
     refine rL ?_
     refine d9 (P9 rfl rfl rfl) ?_
     refine rB<|c9 ?_
     refine j9 rfl (fun h9=>?_) (fun h9=>?_)
     ·
      have h9':=a8 h9
      refine m9<|k9<|p9<|t9<|rF 0 ?_
      refine rL ?_
      refine rM ?_
      obtain⟨z10,hz11,b12⟩:=v9 (xs:=a0) (n:=(n:Int)) (by omega) (by omega)
      refine d9 (Q9 rfl (by kernel_rfl) rfl rfl b12 hz11) ?_
      refine d9 (m6 rfl (n:=2) (by kernel_rfl) (by kernel_rfl) rfl rfl) ?_
      refine rM ?_
      rcases hm13:w6 b z10.2 with _ | q15
      ·
       refine d9 (n9 3 7 false (H9 Tryz.func86) (U5 z10.1 z10.2 b (by(have e1:=X7 (f:=(fun(x:Int ×(List Int))=>x.2.length)) (l:=a0) (m:=n) (by assumption);(try dsimp only at e1);omega)) (by exact hoa _ (D8 (by assumption))) (by omega) _ hm13) rfl (.cons rfl (.agg (.cons .t0 (.cons .t0 .nil))) (.cons rfl (.c .t0) .nil)) rfl rfl rfl) ?_
       refine rM ?_
       refine d9 (D9 rfl rfl rfl rfl) ?_
       refine d9 (D9 rfl rfl rfl rfl) ?_
       refine d9 (F9 7 (zs:=[.int .i64 0,.slice none 0 0]) rfl rfl (by kernel_rfl) rfl) ?_
       refine rS 2 ?_
       refine rA<|P8 ?_
       refine rM ?_
       refine d9 (E8 rfl rfl) ?_
       refine rM ?_
       refine A9 (nc rfl) (fun _=>?_)
       refine A9 (nc rfl) (fun _=>?_)
       refine A9 (nc rfl) (fun _=>?_)
       refine A9 (nc rfl) (fun _=>?_)
       refine d9 (M9 rfl rfl rfl rfl) ?_
       refine c9 ?_
       refine j9 rfl (fun _=>?_) (nc rfl)
       refine t9<|rA<|c9 ?_
       refine tk Tryz.func145 (.tmp rfl .nil) ?_ <;>(try clear ih0) <;>(try clear ih1)
       all_goals(refine K7 ?_;((have e:a0.all (U3 fs b)=false:=UU hz11 (by exact YQ (by assumption)));(unfold T4;rw [e];simp;done)))
      ·
       refine d9 (n9 3 7 false (H9 Tryz.func86) (U5 z10.1 z10.2 b (by(have e1:=X7 (f:=(fun(x:Int ×(List Int))=>x.2.length)) (l:=a0) (m:=n) (by assumption);(try dsimp only at e1);omega)) (by exact hoa _ (D8 (by assumption))) (by omega) _ hm13) rfl (.cons rfl (.agg (.cons .t0 (.cons .t0 .nil))) (.cons rfl (.c .t0) .nil)) rfl rfl rfl) ?_
       refine rM ?_
       refine d9 (D9 rfl rfl rfl rfl) ?_
       refine d9 (D9 rfl rfl rfl rfl) ?_
       refine d9 (F9 7 (zs:=[.int .i64 0,.slice none 0 0]) rfl rfl (by kernel_rfl) rfl) ?_
       refine rS 2 ?_
       refine rA<|P8 ?_
       refine rM ?_
       refine d9 (E8 rfl rfl) ?_
       refine rM ?_
       refine A9 (fun _=>?_) (C9 rfl)
       refine rC 2 ?_
       refine A9 (fun _=>?_) (C9 rfl)
       refine rC 2 ?_
       refine A9 (fun _=>?_) (C9 rfl)
       refine d9 (n9 8 8 false (H9 Tryz.func150) (gX rs fs z10.1 q15 (by omega) (by(have e5:=d5 (by assumption);have e1:=X7 (f:=(fun(x:Int ×(List Int))=>x.2.length)) (l:=a0) (m:=n) (by assumption);(try dsimp only at e1);omega))) rfl (.cons rfl (.agg (.cons .t0 (.cons .t0 .nil))) (.cons rfl (.agg (.cons .t0 (.cons (.own rfl) .nil))) .nil)) rfl rfl rfl) ?_
       refine A9 (fun _=>?_) (C9 rfl)
       refine rB ?_
       refine d9 (G9 rfl rfl rfl rfl) ?_
       refine c9 ?_
       refine j9 rfl (fun h16=>?_) (fun h16=>?_)
       ·
        have h16':=a8 h16
        refine t9<|rA<|c9 ?_
        refine tk Tryz.func145 (.tmp rfl .nil) ?_ <;>(try clear ih0) <;>(try clear ih1)
        all_goals(refine K7 ?_;((have e:a0.all (U3 fs b)=false:=UU hz11 (by(rw [BV (by assumption)];unfold dL;rw [← X2];exact decide_eq_false (by omega))));(unfold T4;rw [e];simp;done)))
       ·
        have h16':=d8 h16
        refine m9<|i9<|l9<|rM ?_
        refine rB ?_
        refine rA<|c9 ?_
        refine Z9 ?_ (ih1 (n + 1) (by(try dsimp only);omega) (by(try dsimp only);exact⟨by omega,UQ k2 hz11 rfl (by rw [BV (by assumption)];unfold dL;rw [← X2];exact decide_eq_true (by omega))⟩))
        exact⟨⟨rfl,⟨rfl,⟨rfl,⟨(L7 (n8 (by omega) (by omega))),trivial⟩⟩⟩⟩,⟨rfl,⟨rfl,⟨rfl,trivial⟩⟩⟩,rfl⟩
     ·
      have h9':=d8 h9
      refine N9 rfl<|t9<|rA<|c9 ?_
      refine tk Tryz.func145 (.tmp rfl .nil) ?_ <;>(try clear ih0) <;>(try clear ih1)
      all_goals(refine K7 ?_;(unfold T4;rw [QT i2 (by omega),LO k2 (by omega)];clear hrs hfs ho hs hoa hob g0 v0 v1;grind))
  ·
   have g2':=(d4 g2)
   refine A9 (nc g2) (fun _=>?_)
   refine A9 (nc g2) (fun _=>?_)
   refine d9 (M9 rfl rfl g2 rfl) ?_
   refine c9 ?_
   refine j9 rfl (fun _=>?_) (nc rfl)
   refine t9<|rA<|c9 ?_
   refine tk Tryz.func145 (.tmp rfl .nil) ?_ <;>(try clear ih0) <;>(try clear ih1)
   all_goals(refine K7 ?_;(unfold T4;clear hrs hfs ho hs hoa hob g0 v0 v1;grind))
 ·
  have g1':=(d4 g1)
  refine A9 (nc g1) (fun _=>?_)
  refine A9 (nc g1) (fun _=>?_)
  refine A9 (nc g1) (fun _=>?_)
  refine A9 (nc g1) (fun _=>?_)
  refine d9 (M9 rfl rfl g1 rfl) ?_
  refine rM ?_
  refine A9 (nc rfl) (fun _=>?_)
  refine A9 (nc rfl) (fun _=>?_)
  refine A9 (nc rfl) (fun _=>?_)
  refine d9 (M9 rfl rfl rfl rfl) ?_
  refine c9 ?_
  refine j9 rfl (fun _=>?_) (nc rfl)
  refine t9<|rA<|c9 ?_
  refine tk Tryz.func145 (.tmp rfl .nil) ?_ <;>(try clear ih0) <;>(try clear ih1)
  all_goals(refine K7 ?_;(unfold T4;clear hrs hfs ho hs hoa hob g0 v0 v1;grind))
theorem cW (rs:T9)(fs l:w9)(b:List Int)(hrs:rs.length≤4611686018427387904)(hfs:N8 (fun(x:Int ×(List Int))=>x.2.length) fs≤1048576)(hll:N8 (fun(x:Int ×(List Int))=>x.2.length) l≤1048576)(ho:∀z∈fs,∀x∈z.2,B7 x)(hbl:b.length≤1048576):Pu Tryz.prog 146 [.agg [.t none (.sl 3 (j8 Y9 f9 U9) rs),.t none (.sl 2 (y9 f9 (x9 1 f9)) fs)],.c (.t none (.sl 2 (y9 f9 (x9 1 f9)) l)),.c (.t none (.sl 1 f9 b))] [] 0 (.c (.t none (.v (.bool (ZR rs fs l b))))):=by
 refine S7 Tryz.func146 fun w S=>?_
 have gl:=I8 (f:=(fun(x:Int ×(List Int))=>x.2.length)) (l:=l)
 refine t9 ?_
 refine d9 (m8 0 rfl rfl rfl rfl) ?_
 refine rA<|P8 ?_
 refine rC 2 ?_
 refine rM ?_
 refine d9 (n9 1 1 false (H9 Tryz.func151) (oV rs fs l (by omega) (by omega) (by omega) (by omega)) rfl (.cons rfl (.agg (.cons .t0 (.cons .t0 .nil))) (.cons rfl (.c .t0) .nil)) rfl rfl rfl) ?_
 refine rM ?_
 refine A9 (fun g1=>?_) (fun g1=>?_)
 ·
  have g1':=g1
  refine rM ?_
  refine A9 (fun _=>?_) (nc g1)
  refine d9 (P9 rfl rfl rfl) ?_
  refine A9 (fun _=>?_) (nc g1)
  refine rB ?_
  refine d9 (M9 rfl rfl g1 rfl) ?_
  refine rM ?_
  refine A9 (fun g2=>?_) (fun g2=>?_)
  ·
   have g2':=a8 g2
   refine rC 2 ?_
   refine A9 (fun _=>?_) (nc g2)
   refine rM ?_
   refine A9 (fun _=>?_) (nc g2)
   refine rM ?_
   refine A9 (fun _=>?_) (nc g2)
   refine d9 (n9 1 2 false (H9 Tryz.func152) (aX rs fs l 0 b (by exact(V7 (by assumption)).1) (by exact(V7 (by assumption)).2.1) (by omega) (by exact(V7 (by assumption)).2.2.1) (by exact(V7 (by assumption)).2.2.2) (by omega)) rfl (.cons rfl (.agg (.cons .t0 (.cons .t0 .nil))) (.cons rfl (.c .t0) (.cons rfl (.c .t0) (.cons rfl (.c .t0) .nil)))) rfl rfl rfl) ?_
   refine A9 (fun _=>?_) (nc g2)
   refine d9 (A7 rfl rfl rfl rfl) ?_
   refine A9 (fun _=>?_) (nc g2)
   refine rB ?_
   refine d9 (M9 rfl rfl g2 rfl) ?_
   refine rA<|c9 ?_
   refine tk Tryz.func146 (.tmp rfl .nil) ?_
   all_goals(refine K7 ?_;(try simp only [show(0:Int).toNat=0 from rfl,List.drop_zero] at *);clear hrs hfs hll ho gl;unfold ZR;grind)
  ·
   have g2':=d8 g2
   refine A9 (C9 g2) (fun _=>?_)
   refine A9 (C9 g2) (fun _=>?_)
   refine A9 (C9 g2) (fun _=>?_)
   refine A9 (C9 g2) (fun _=>?_)
   refine A9 (C9 g2) (fun _=>?_)
   refine d9 (G9 rfl rfl g2 rfl) ?_
   refine rA<|c9 ?_
   refine tk Tryz.func146 (.tmp rfl .nil) ?_
   all_goals(refine K7 ?_;(try simp only [show(0:Int).toNat=0 from rfl,List.drop_zero] at *);clear hrs hfs hll ho gl;unfold ZR;grind)
 ·
  have g1':=g1
  refine A9 (C9 g1) (fun _=>?_)
  refine A9 (C9 g1) (fun _=>?_)
  refine d9 (G9 rfl rfl g1 rfl) ?_
  refine rM ?_
  refine A9 (C9 rfl) (fun _=>?_)
  refine A9 (C9 rfl) (fun _=>?_)
  refine A9 (C9 rfl) (fun _=>?_)
  refine A9 (C9 rfl) (fun _=>?_)
  refine A9 (C9 rfl) (fun _=>?_)
  refine A9 (C9 rfl) (fun _=>?_)
  refine d9 (G9 rfl rfl rfl rfl) ?_
  refine rA<|c9 ?_
  refine tk Tryz.func146 (.tmp rfl .nil) ?_
  all_goals(refine K7 ?_;(try simp only [show(0:Int).toNat=0 from rfl,List.drop_zero] at *);clear hrs hfs hll ho gl;unfold ZR;grind)
theorem K3 (rs:T9)(fs:w9)(a0:List (Int ×(List Int)))(a1:List (Int ×(List Int)))(a2:Bool)(a3:Int)(a4:Int)(b:List Int)(hrs:rs.length≤4611686018427387904)(hfs:N8 (fun(x:Int ×(List Int))=>x.2.length) fs≤1048576)(ho:∀z∈fs,∀x∈z.2,B7 x)(hs:N8 (fun(x:Int ×(List Int))=>x.2.length) a0 + N8 (fun(x:Int ×(List Int))=>x.2.length) a1≤1048576)(hoa:∀z∈a0,∀x∈z.2,B7 x)(hob:∀x∈b,B7 x)(hbl:b.length≤1048576):Pu Tryz.prog 81 [.agg [.t none (.sl 3 (j8 Y9 f9 U9) rs),.t none (.sl 2 (y9 f9 (x9 1 f9)) fs)],.agg [.t none (.sl 2 (y9 f9 (x9 1 f9)) a0),.t none (.sl 2 (y9 f9 (x9 1 f9)) a1),.t none (.v (.bool a2)),.t none (.v (.int .i64 a3)),.t none (.v (.int .i64 a4))],.c (.t none (.sl 1 f9 b))] [] 0 (.c (.t none (.v (.bool (f6 rs fs a0 a1 a2 a3 a4 b))))):=by
 refine S7 Tryz.func81 fun w S=>?_
 have g0:=I8 (f:=(fun(x:Int ×(List Int))=>x.2.length)) (l:=a0);have v0:=Q7 (I9 a0);have v1:=F7 a0
 refine t9 ?_
 refine d9 (m8 0 rfl rfl rfl rfl) ?_
 refine d9 (m8 1 rfl rfl rfl rfl) ?_
 refine rA<|c9<|k9<|t9 ?_
 refine rC 2 ?_
 refine rC 5 ?_
 refine rM ?_
 refine d9 (n9 2 2 false (H9 Tryz.func145) (PV rs fs a0 a1 a2 a3 a4 b (by omega) (by omega) (by omega) (by omega) (by omega) (by omega) (by omega)) rfl (.cons rfl (.agg (.cons .t0 (.cons .t0 .nil))) (.cons rfl (.agg (.cons .t0 (.cons .t0 (.cons .t0 (.cons .t0 (.cons .t0 .nil)))))) (.cons rfl (.c .t0) .nil))) rfl rfl rfl) ?_
 refine d9 (E8 rfl rfl) ?_
 refine c9 ?_
 refine j9 rfl (fun h1=>?_) (fun h1=>?_)
 ·
  have h1':=(d4 h1)
  refine t9<|rA<|c9 ?_
  refine tk Tryz.func81 (.tmp rfl .nil) ?_
  all_goals(refine K7 ?_;unfold f6;clear hrs hfs ho hs hoa hob g0 v0 v1;grind)
 ·
  have h1':=(Y5 h1)
  refine m9<|k9<|t9<|rF 2 ?_
  refine rL<|c9 ?_
  refine j9 rfl (fun h2=>?_) (fun h2=>?_)
  ·
   have h2':=h2
   refine k9 ?_
   refine tY ?_
   refine dT 0 rfl pM ?_
   refine dT 1 rfl (pF 3) ?_
   refine dT 2 rfl pL ?_
   obtain⟨z3,hz4,b5⟩:=v9 (xs:=b) (n:=a3) (by exact(F5 (by assumption) (by assumption)).1.1) (by exact(F5 (by assumption) (by assumption)).1.2)
   refine dT 3 rfl (p8 (by kernel_rfl) rfl rfl b5 hz4) ?_
   refine dT 4 rfl (Y8 (by kernel_rfl) rfl rfl) ?_
   refine dT 5 rfl pM ?_
   refine dT 6 rfl (pF 4) ?_
   refine dT 7 rfl pL ?_
   obtain⟨z6,hz7,b8⟩:=v9 (xs:=b) (n:=a4) (by exact(F5 (by assumption) (by assumption)).2.1) (by exact(F5 (by assumption) (by assumption)).2.2)
   refine dT 8 rfl (p8 (by kernel_rfl) rfl rfl b8 hz7) ?_
   refine dT 9 rfl (Y8 (by kernel_rfl) rfl rfl) ?_
   refine dT 10 rfl pB ?_
   refine dT 11 rfl pA ?_
   refine dE ?_
   refine tk Tryz.func81 (.tmp rfl .nil) ?_
   all_goals(refine K7 ?_;unfold f6;clear hrs hfs ho hs hoa hob g0 v0 v1;(have e1:=LU hz4;have e2:=LU hz7;rw [e1,e2];grind))
  ·
   have h2':=h2
   refine m9<|t9<|rC 2 ?_
   refine rF 1 ?_
   refine rL ?_
   refine rM ?_
   refine d9 (n9 2 2 false (H9 Tryz.func146) (cW rs fs a1 b (by omega) (by omega) (by omega) (by omega) (by omega)) rfl (.cons rfl (.agg (.cons .t0 (.cons .t0 .nil))) (.cons rfl (.c .t0) (.cons rfl (.c .t0) .nil))) rfl rfl rfl) ?_
   refine d9 (E8 rfl rfl) ?_
   refine rA<|c9 ?_
   refine tk Tryz.func81 (.tmp rfl .nil) ?_
   all_goals(refine K7 ?_;unfold f6;clear hrs hfs ho hs hoa hob g0 v0 v1;grind)
theorem Z3 (rs:T9)(fs:w9)(a0:List (Int ×(List Int)))(a1:List (Int ×(List Int)))(a2:Bool)(a3:Int)(a4:Int)(hrs:rs.length≤4611686018427387904)(hfs:N8 (fun(x:Int ×(List Int))=>x.2.length) fs≤1048576)(ho:∀z∈fs,∀x∈z.2,B7 x)(hs:N8 (fun(x:Int ×(List Int))=>x.2.length) a0 + N8 (fun(x:Int ×(List Int))=>x.2.length) a1≤1048576)(hoa:∀z∈a0,∀x∈z.2,B7 x):Pu Tryz.prog 38 [.agg [.t none (.sl 3 (j8 Y9 f9 U9) rs),.t none (.sl 2 (y9 f9 (x9 1 f9)) fs)],.agg [.t none (.sl 2 (y9 f9 (x9 1 f9)) a0),.t none (.sl 2 (y9 f9 (x9 1 f9)) a1),.t none (.v (.bool a2)),.t none (.v (.int .i64 a3)),.t none (.v (.int .i64 a4))]] [(2,some (.row none 31 true 1 (x9 1 f9) (N6 rs fs a0 a1 a2 a3 a4)))] 3 (.c (.own 2)):=by
 refine S7 Tryz.func38 fun w S=>?_
 have g0:=I8 (f:=(fun(x:Int ×(List Int))=>x.2.length)) (l:=a0);have g1:=aR rs fs a0
 refine t9 ?_
 refine d9 (m8 0 rfl rfl rfl rfl) ?_
 refine d9 (m8 1 rfl rfl rfl rfl) ?_
 refine rA<|P8 ?_
 refine d9 (c7 2 (e:=31) (sz:=1) (zs:=[.slice none 0 0]) (x9 1 f9) rfl rfl (by kernel_rfl) rfl) ?_
 refine rA<|c9<|k9<|t9 ?_
 refine rF 0 ?_
 refine rL ?_
 refine rC 5 ?_
 refine d9 (n9 3 3 false (H9 Tryz.func65) (y5 rs a0 a1 a2 a3 a4 (by omega) (by omega)) rfl (.cons rfl (.c .t0) (.cons rfl (.agg (.cons .t0 (.cons .t0 (.cons .t0 (.cons .t0 (.cons .t0 .nil)))))) .nil)) rfl rfl rfl) ?_
 refine d9 (E8 rfl rfl) ?_
 refine c9 ?_
 refine j9 rfl (fun h1=>?_) (fun h1=>?_)
 ·
  have h1':=(d4 h1)
  refine t9<|rM ?_
  refine rA<|c9 ?_
  refine tk Tryz.func38 (.tmp rfl .nil) ?_ (hL:=⟨Q8 ?_,trivial⟩) <;>(try clear ih0)
  all_goals first | rfl | ((exact TO (by simp_all;done)))
 ·
  have h1':=(Y5 h1)
  refine m9<|t9<|rC 2 ?_
  refine rF 0 ?_
  refine rL ?_
  refine d9 (n9 3 5 false (H9 Tryz.func91) (fZ rs fs a0 (by omega) (by omega) (by omega) (by omega)) rfl (.cons rfl (.agg (.cons .t0 (.cons .t0 .nil))) (.cons rfl (.c .t0) .nil)) rfl rfl rfl) ?_
  refine rA<|c9<|k9<|t9 ?_
  refine rA<|c9<|p9 ?_
  refine oX 4 rfl ?_
  refine J9 (fun(vs,m)=>⟨[(2,some (.c (.ptr 0 0))),(3,some (.c (.ptr 1 0))),(4,some (.c (.t none (.v (.slice none 0 0))))),(5,some (.c (.own 2))),(6,some (.c (.own 4))),(7,some (.c (.t none (.v (.int .i64 ((m:Int)))))))],[(0,some (.box [.t none (.sl 3 (j8 Y9 f9 U9) rs),.t none (.sl 2 (y9 f9 (x9 1 f9)) fs)])),(1,some (.box [.t none (.sl 2 (y9 f9 (x9 1 f9)) a0),.t none (.sl 2 (y9 f9 (x9 1 f9)) a1),.t none (.v (.bool a2)),.t none (.v (.int .i64 a3)),.t none (.v (.int .i64 a4))])),(2,some (.row none 31 true 1 (x9 1 f9) (((T7 rs fs a0).take m).filter (f6 rs fs a0 a1 a2 a3 a4)))),(4,some (.row none 31 true 1 (zU (x9 1 f9)) (EV vs (T7 rs fs a0))))],5⟩:List Value × Nat→St) (fun(vs,m)=>vs.length=m∧m≤(T7 rs fs a0).length) (fun(vs,m)=>(T7 rs fs a0).length - m) ([],0) ⟨⟨rfl,⟨rfl,⟨rfl,⟨rfl,⟨rfl,⟨rfl,trivial⟩⟩⟩⟩⟩⟩,⟨rfl,⟨rfl,⟨rfl,⟨rfl,trivial⟩⟩⟩⟩,rfl⟩ (by exact⟨rfl,Nat.zero_le _⟩) ?_
  rintro⟨vs,m⟩ hI ih0
  try dsimp only at hI ih0
  obtain⟨i0,i1⟩:=hI;have tl:=BZ (vs:=vs) (L:=T7 rs fs a0) (by omega);have fr:=IS (p:=f6 rs fs a0 a1 a2 a3 a4) (L:=T7 rs fs a0) (m:=m) g1
  refine k9<|t9<|rM ?_
  refine rM ?_
  refine d9 (A7 rfl rfl rfl rfl) ?_
  refine rB<|c9 ?_
  refine j9 rfl (fun h2=>?_) (fun h2=>?_)
  ·
   have h2':=a8 h2
   refine m9<|k9<|p9<|k9 ?_
   obtain⟨z3,hz4,b5⟩:=v9 (xs:=T7 rs fs a0) (n:=(m:Int)) (by omega) (by omega)
   refine G1 5 4 rfl rfl (uX (by omega) hz4) fun e6 v7=>?_
   refine tY ?_
   refine dT 0 rfl (pC 2) ?_
   refine dT 1 rfl (pC 5) ?_
   refine dT 2 rfl pM ?_
   refine dT 3 rfl pM ?_
   obtain⟨z8,hz9,b10⟩:=v9 (xs:=(EV vs (T7 rs fs a0)).set (m:Int).toNat (.inl v7)) (n:=(m:Int)) (by omega) (by(rw [List.length_set];omega))
   refine dT 4 rfl (V9 (by kernel_rfl) rfl rfl rfl b10 (f8 b10 hz9)) ?_
   refine dT 5 rfl (TZ (k:=5) (o:=0) (by kernel_rfl) rfl rfl (OZ (by omega) (by omega)) rfl) ?_
   refine dO 6 rfl (n9 6 6 false (H9 Tryz.func81) (K3 rs fs a0 a1 a2 a3 a4 z3 (by omega) (by omega) (by omega) (by omega) (by omega) (by exact dX (fun f hf=>ho f hf) (D8 (by assumption))) (by(have e5:=qY (D8 (by assumption));omega))) rfl (.cons rfl (.agg (.cons .t0 (.cons .t0 .nil))) (.cons rfl (.agg (.cons .t0 (.cons .t0 (.cons .t0 (.cons .t0 (.cons .t0 .nil)))))) (.cons rfl (.c (.own rfl)) .nil))) rfl rfl rfl) ?_
   refine dE ?_
   refine j9 rfl (fun h11=>?_) (fun h11=>?_)
   ·
    have h11':=h11
    refine l9<|rM ?_
    refine rM ?_
    refine rM ?_
    refine d9 (o8 rfl (by kernel_rfl) rfl rfl rfl b10 (f8 b10 hz9)) ?_
    refine d9 (W0 rfl (k:=5) (o:=0) (by kernel_rfl) rfl rfl (OZ (by omega) (by omega)) rfl) ?_
    refine d9 (w8 6 (e:=31) (sz:=1) (zs:=[.slice none 0 0]) rfl rfl (by kernel_rfl) rfl rfl rfl rfl rfl) ?_
    refine d9 (W9 2 (e:=31) (sz:=1) (by':=24) z3 rfl (by kernel_rfl) rfl rfl rfl rfl rfl rfl (.take (.own rfl) rfl .nil) rfl (by omega) (by omega)) ?_
    refine rA<|c9<|i9<|l9 ?_
    refine rM ?_
    refine rB ?_
    refine rA<|c9 ?_
    refine Z9 ?_ (ih0 (vs++[v7],m + 1) (by(try dsimp only);omega) (by(try dsimp only);exact⟨by simp;omega,by omega⟩))
    exact⟨⟨rfl,⟨rfl,⟨rfl,⟨rfl,⟨rfl,⟨(L7 (n8 (by omega) (by omega))),trivial⟩⟩⟩⟩⟩⟩,⟨rfl,⟨rfl,⟨(Q8 (by exact xQ hz4 rfl (by assumption))),⟨(Q8 (y3 i0 (by omega))),trivial⟩⟩⟩⟩,rfl⟩
   ·
    have h11':=h11
    refine m9<|i9<|l9<|rM ?_
    refine rB ?_
    refine rA<|c9 ?_
    refine Z9 ?_ (ih0 (vs++[v7],m + 1) (by(try dsimp only);omega) (by(try dsimp only);exact⟨by simp;omega,by omega⟩))
    exact⟨⟨rfl,⟨rfl,⟨rfl,⟨rfl,⟨rfl,⟨(L7 (n8 (by omega) (by omega))),trivial⟩⟩⟩⟩⟩⟩,⟨rfl,⟨rfl,⟨(Q8 (by exact OS hz4 rfl (by assumption))),⟨(Q8 (y3 i0 (by omega))),trivial⟩⟩⟩⟩,rfl⟩
  ·
   have h2':=d8 h2
   refine N9 rfl<|t9<|rM ?_
   refine rA<|c9 ?_
   refine tk Tryz.func38 (.tmp rfl .nil) ?_ (hL:=⟨Q8 ?_,trivial⟩) <;>(try clear ih0)
   all_goals first | rfl | ((exact nP (by assumption) (by omega)))
theorem F2 (rs:T9)(fs:w9)(ds:List Y1)(hrs:rs.length≤4611686018427387904)(hfs:N8 (fun(x:Int ×(List Int))=>x.2.length) fs≤1048576)(hds:N8 (fun(x:(List (Int ×(List Int))) ×(List (Int ×(List Int))) × Bool × Int × Int)=>(N8 (fun(x:Int ×(List Int))=>x.2.length) x.1) +(N8 (fun(x:Int ×(List Int))=>x.2.length) x.2.1)) ds≤1048576)(ho:∀z∈fs,∀x∈z.2,B7 x)(hod:∀d∈ds,∀z∈d.1,∀x∈z.2,B7 x):QH Tryz.prog 11 [.agg [.t none (.sl 3 (j8 Y9 f9 U9) rs),.t none (.sl 2 (y9 f9 (x9 1 f9)) fs)],.c (.t none (.sl 5 (TY (x9 2 (y9 f9 (x9 1 f9))) (x9 2 (y9 f9 (x9 1 f9))) U9 f9 f9) ds))] (fun et=>[(0,some (.row none et true 1 f9 (P3 rs fs ds)))]) 1 (.tup [(false,[.t none (.v (.int .i64 (P1 rs fs ds)))]),(false,[.own 0]),(false,[.t none (.v (.bool (B6 rs fs ds)))])]):=by
 refine UV Tryz.func11 rfl (Nat.le_of_ble_eq_true rfl) fun w S=>?_
 have gl:=I8 (f:=(fun(x:(List (Int ×(List Int))) ×(List (Int ×(List Int))) × Bool × Int × Int)=>(N8 (fun(x:Int ×(List Int))=>x.2.length) x.1) +(N8 (fun(x:Int ×(List Int))=>x.2.length) x.2.1))) (l:=ds)
 refine t9 ?_
 refine d9 (m8 0 rfl rfl rfl rfl) ?_
 refine rA ?_
 refine rA ?_
 refine rA<|c9<|k9<|t9 ?_
 refine rA<|c9<|p9 ?_
 refine J9 (fun m=>⟨[(1,some (.c (.t none (.sl 5 (TY (x9 2 (y9 f9 (x9 1 f9))) (x9 2 (y9 f9 (x9 1 f9))) U9 f9 f9) ds)))),(2,some (.c (.ptr 0 0))),(7,some (.c (.t none (.v (.int .i64 ((m:Int)))))))],[(0,some (.box [.t none (.sl 3 (j8 Y9 f9 U9) rs),.t none (.sl 2 (y9 f9 (x9 1 f9)) fs)]))],1⟩:Nat→St) (fun m=>m≤ds.length∧∀j z,j < m→ds[j]? =some z→dW rs fs z=false) (fun m=>ds.length - m) 0 ⟨⟨rfl,⟨rfl,⟨rfl,trivial⟩⟩⟩,⟨rfl,trivial⟩,rfl⟩ (by exact⟨Nat.zero_le _,fun j z h=>by omega⟩) ?_
 rintro m hI ih0
 try dsimp only at hI ih0
 obtain⟨i1,i2⟩:=hI
 refine k9<|t9<|rM ?_
 refine rM ?_
 refine d9 (P9 rfl rfl rfl) ?_
 refine rB ?_
 refine rM ?_
 refine A9 (fun g1=>?_) (fun g1=>?_)
 ·
  have g1':=a8 g1
  refine rF 0 ?_
  refine A9 (fun _=>?_) (nc g1)
  refine rL ?_
  refine A9 (fun _=>?_) (nc g1)
  refine rM ?_
  refine A9 (fun _=>?_) (nc g1)
  refine d9 (n9 1 1 false (H9 Tryz.func27) (Q0 rs ds (by omega) (by omega)) rfl (.cons rfl (.c .t0) (.cons rfl (.c .t0) .nil)) rfl rfl rfl) ?_
  refine d9 (M9 rfl rfl g1 rfl) ?_
  refine rM ?_
  refine A9 (fun g2=>?_) (fun g2=>?_)
  ·
   have g2':=g2
   refine rC 2 ?_
   refine A9 (fun _=>?_) (nc g2)
   refine d9 (n9 1 1 false (H9 Tryz.func37) (H6 rs fs (by omega) (by omega) (by omega)) rfl (.cons rfl (.agg (.cons .t0 (.cons .t0 .nil))) .nil) rfl rfl rfl) ?_
   refine d9 (M9 rfl rfl g2 rfl) ?_
   refine c9 ?_
   refine j9 rfl (fun h3=>?_) (fun h3=>?_)
   ·
    have h3':=h3
    refine m9<|k9<|p9<|k9 ?_
    refine tY ?_
    refine dT 0 rfl (pC 2) ?_
    refine dT 1 rfl pM ?_
    refine dT 2 rfl pM ?_
    obtain⟨z4,hz5,b6⟩:=v9 (xs:=ds) (n:=(m:Int)) (by omega) (by omega)
    refine dT 3 rfl (p8 (by kernel_rfl) rfl rfl b6 hz5) ?_
    refine dT 4 rfl (p6 (n:=5) (by kernel_rfl) (by kernel_rfl) rfl rfl) ?_
    refine dO 5 rfl (n9 1 4 false (H9 Tryz.func38) (Z3 rs fs z4.1 z4.2.1 z4.2.2.1 z4.2.2.2.1 z4.2.2.2.2 (by omega) (by omega) (by omega) (by(have e1:=X7 (f:=(fun(x:(List (Int ×(List Int))) ×(List (Int ×(List Int))) × Bool × Int × Int)=>(N8 (fun(x:Int ×(List Int))=>x.2.length) x.1) +(N8 (fun(x:Int ×(List Int))=>x.2.length) x.2.1))) (l:=ds) (m:=m) (by assumption);(try dsimp only at e1);omega)) (by exact hod _ (D8 (by assumption)))) rfl (.cons rfl (.agg (.cons .t0 (.cons .t0 .nil))) (.cons rfl (.agg (.cons .t0 (.cons .t0 (.cons .t0 (.cons .t0 (.cons .t0 .nil)))))) .nil)) rfl rfl rfl) ?_
    refine dT 6 rfl pA ?_
    refine dE ?_
    refine t9<|rM ?_
    refine d9 (A7 rfl rfl rfl rfl) ?_
    refine rB<|c9 ?_
    refine j9 rfl (fun h7=>?_) (fun h7=>?_)
    ·
     have h7':=a8 h7
     refine k9 ?_
     refine oX 3 rfl ?_
     obtain⟨z8,hz9,b10⟩:=v9 (xs:=N6 rs fs z4.1 z4.2.1 z4.2.2.1 z4.2.2.2.1 z4.2.2.2.2) (n:=(0:Int)) (by omega) (by omega)
     refine G1 4 3 rfl rfl (uX (by rfl) hz9) fun e11 v12=>?_
     refine tY ?_
     refine dT 0 rfl pM ?_
     refine dT 1 rfl pM ?_
     obtain⟨z13,hz14,b15⟩:=v9 (xs:=(EV [] (N6 rs fs z4.1 z4.2.1 z4.2.2.1 z4.2.2.2.1 z4.2.2.2.2)).set (0:Int).toNat (.inl v12)) (n:=0) (by omega) (by(rw [jN (Nat.zero_le _)];omega))
     refine dT 2 rfl (V9 (by kernel_rfl) rfl rfl rfl b15 (f8 b15 hz14)) ?_
     refine dT 3 rfl (TZ (k:=4) (o:=0) (by kernel_rfl) rfl rfl (OZ (by rfl) (by omega)) rfl) ?_
     refine dT 4 rfl pA ?_
     refine dT 5 rfl pA ?_
     refine dT 6 rfl pA ?_
     refine dE ?_
     refine oU [4] rfl ?_ rfl
     refine I5 Tryz.func11 (.tmp rfl (.tmp rfl (.tmp rfl .nil))) rfl fun E S w u hI hd=>?_
     refine⟨_,M7 hI hd ?_ ⟨Q8 ?_,trivial⟩ rfl rfl rfl⟩ <;> clear hI hd <;>(try clear ih0)
     all_goals((have v1:=yN (rs:=rs) (fs:=fs) (by assumption) (by assumption) i2 hz5 (DP (by assumption)) hz9;first | exact v1.2.2.symm | exact tU v1.2.1.symm v1.1.symm))
    ·
     have h7':=d8 h7
     refine m9<|i9<|l9<|rM ?_
     refine rB ?_
     refine rA<|c9 ?_
     refine Z9 ?_ (ih0 (m + 1) (by(try dsimp only);omega) (by(try dsimp only);exact⟨by omega,p5 i2 hz5 rfl (XQ (by assumption))⟩))
     exact⟨⟨rfl,⟨rfl,⟨(L7 (n8 (by omega) (by omega))),trivial⟩⟩⟩,⟨rfl,trivial⟩,rfl⟩
   ·
    have h3':=h3
    refine N9 rfl<|t9 ?_
    refine d9 (c7 1 (e:=3) (sz:=1) (zs:=[.int .i64 0]) f9 rfl rfl (by kernel_rfl) rfl) ?_
    refine rA ?_
    refine rA ?_
    refine rA<|c9 ?_
    refine oU [1] rfl ?_ rfl
    refine I5 Tryz.func11 (.tmp rfl (.tmp rfl (.tmp rfl .nil))) rfl fun E S w u hI hd=>?_
    refine⟨_,M7 hI hd ?_ ⟨Q8 ?_,trivial⟩ rfl rfl rfl⟩ <;> clear hI hd <;>(try clear ih0)
    all_goals(((have v0:B6 rs fs ds=false:=(by exact yQ (by assumption)));have v1:=LX v0;first | exact v1.2.symm | exact tU v1.1.symm v0.symm))
  ·
   have g2':=g2
   refine A9 (C9 g2) (fun _=>?_)
   refine d9 (G9 rfl rfl g2 rfl) ?_
   refine c9 ?_
   refine j9 rfl (C9 rfl) (fun _=>?_)
   refine N9 rfl<|t9 ?_
   refine d9 (c7 1 (e:=3) (sz:=1) (zs:=[.int .i64 0]) f9 rfl rfl (by kernel_rfl) rfl) ?_
   refine rA ?_
   refine rA ?_
   refine rA<|c9 ?_
   refine oU [1] rfl ?_ rfl
   refine I5 Tryz.func11 (.tmp rfl (.tmp rfl (.tmp rfl .nil))) rfl fun E S w u hI hd=>?_
   refine⟨_,M7 hI hd ?_ ⟨Q8 ?_,trivial⟩ rfl rfl rfl⟩ <;> clear hI hd <;>(try clear ih0)
   all_goals(((have v0:B6 rs fs ds=false:=(by exact zP (by assumption)));have v1:=LX v0;first | exact v1.2.symm | exact tU v1.1.symm v0.symm))
 ·
  have g1':=d8 g1
  refine A9 (C9 g1) (fun _=>?_)
  refine A9 (C9 g1) (fun _=>?_)
  refine A9 (C9 g1) (fun _=>?_)
  refine d9 (G9 rfl rfl g1 rfl) ?_
  refine rM ?_
  refine A9 (C9 rfl) (fun _=>?_)
  refine A9 (C9 rfl) (fun _=>?_)
  refine d9 (G9 rfl rfl rfl rfl) ?_
  refine c9 ?_
  refine j9 rfl (C9 rfl) (fun _=>?_)
  refine N9 rfl<|t9 ?_
  refine d9 (c7 1 (e:=3) (sz:=1) (zs:=[.int .i64 0]) f9 rfl rfl (by kernel_rfl) rfl) ?_
  refine rA ?_
  refine rA ?_
  refine rA<|c9 ?_
  refine oU [1] rfl ?_ rfl
  refine I5 Tryz.func11 (.tmp rfl (.tmp rfl (.tmp rfl .nil))) rfl fun E S w u hI hd=>?_
  refine⟨_,M7 hI hd ?_ ⟨Q8 ?_,trivial⟩ rfl rfl rfl⟩ <;> clear hI hd <;>(try clear ih0)
  all_goals(((have v0:B6 rs fs ds=false:=(by exact gQ i2 (by omega)));have v1:=LX v0;first | exact v1.2.symm | exact tU v1.1.symm v0.symm))
theorem K4 (ns vs:List Int)(hn:ns.length≤4611686018427387904)(hv:vs.length≤4611686018427387904)(on:∀x∈ns,B7 x)(ov:∀x∈vs,B7 x):Pu Tryz.prog 147 [.agg [.t none (.sl 1 f9 ns),.t none (.sl 1 f9 vs)]] [] 0 (.c (.t none (.v (.bool (y4 ns vs))))):=by
 refine S7 Tryz.func147 fun w S=>?_
 refine t9 ?_
 refine d9 (m8 0 rfl rfl rfl rfl) ?_
 refine rA<|c9<|k9<|t9 ?_
 refine rF 0 ?_
 refine rL ?_
 refine d9 (P9 rfl rfl rfl) ?_
 refine rF 1 ?_
 refine rL ?_
 refine d9 (P9 rfl rfl rfl) ?_
 refine rB<|c9 ?_
 refine j9 rfl (fun h1=>?_) (fun h1=>?_)
 ·
  have h1':=a8 h1
  refine t9<|rA<|c9 ?_
  refine tk Tryz.func147 (.tmp rfl .nil) ?_ <;>(try clear ih0)
  all_goals(refine K7 ?_;(rw [iR (by omega)];done))
 ·
  have h1':=d8 h1
  refine m9<|k9<|t9<|rA<|c9<|p9 ?_
  refine J9 (fun m=>⟨[(1,some (.c (.ptr 0 0))),(3,some (.c (.t none (.v (.int .i64 ((m:Int)))))))],[(0,some (.box [.t none (.sl 1 f9 ns),.t none (.sl 1 f9 vs)]))],1⟩:Nat→St) (fun m=>m≤ns.length∧ns.length=vs.length∧∀j,j < m→J6 ns vs j=true) (fun m=>ns.length - m) 0 ⟨⟨rfl,⟨rfl,trivial⟩⟩,⟨rfl,trivial⟩,rfl⟩ (by exact⟨Nat.zero_le _,by omega,fun j h=>by omega⟩) ?_
  rintro m hI ih0
  try dsimp only at hI ih0
  obtain⟨i1,i2,i3⟩:=hI
  refine k9<|t9<|rM ?_
  refine rF 0 ?_
  refine rL ?_
  refine d9 (P9 rfl rfl rfl) ?_
  refine rB<|c9 ?_
  refine j9 rfl (fun h2=>?_) (fun h2=>?_)
  ·
   have h2':=a8 h2
   refine m9<|k9<|p9<|k9 ?_
   refine tY ?_
   refine dT 0 rfl (pF 0) ?_
   refine dT 1 rfl pL ?_
   refine dT 2 rfl pM ?_
   obtain⟨z3,hz4,b5⟩:=v9 (xs:=ns) (n:=(m:Int)) (by omega) (by omega)
   refine dT 3 rfl (p8 (by kernel_rfl) rfl rfl b5 hz4) ?_
   refine dT 4 rfl (Y8 (by kernel_rfl) rfl rfl) ?_
   refine dO 5 rfl (n9 1 1 false (H9 Tryz.func48) (v6 z3 0 39) rfl (.cons rfl (.c .t0) (.cons rfl (.c .t0) (.cons rfl (.c .t0) .nil))) rfl rfl rfl) ?_
   refine dT 6 rfl (R3 rfl) ?_
   refine dT 7 rfl pM ?_
   refine dH 8 rfl (fun _=>pM) (fun g6=>?_) (fun g6=>?_)
   ·
    have g6':=a8 (Y5 g6)
    refine dH 9 rfl (fun _=>pB) (fun _=>?_) (C9 g6)
    refine dH 10 rfl (fun _=>pM) (fun _=>?_) (C9 g6)
    refine dH 11 rfl (fun _=>pF 0) (fun g7=>?_) (fun g7=>?_)
    ·
     have g7':=a8 g7
     refine dH 12 rfl (fun _=>pL) (fun _=>?_) (nc g7)
     refine dH 13 rfl (fun _=>pM) (fun _=>?_) (nc g7)
     refine dH 14 rfl (fun _=>p8 (by kernel_rfl) rfl rfl b5 hz4) (fun _=>?_) (nc g7)
     refine dH 15 rfl (fun _=>Y8 (by kernel_rfl) rfl rfl) (fun _=>?_) (nc g7)
     refine dH 16 rfl (fun _=>pF 0) (fun _=>?_) (nc g7)
     refine dH 17 rfl (fun _=>pL) (fun _=>?_) (nc g7)
     refine dH 18 rfl (fun _=>pM) (fun _=>?_) (nc g7)
     refine dH 19 rfl (fun _=>pB) (fun _=>?_) (nc g7)
     obtain⟨z8,hz9,b10⟩:=v9 (xs:=ns) (n:=IntKind.i64.wrap ((m:Int) - 1)) (by(simp only [IntKind.wrap_i64] at *;omega)) (by(simp only [IntKind.wrap_i64] at *;omega))
     refine dH 20 rfl (fun _=>p8 (by kernel_rfl) rfl rfl b10 hz9) (fun _=>?_) (nc g7)
     refine dH 21 rfl (fun _=>Y8 (by kernel_rfl) rfl rfl) (fun _=>?_) (nc g7)
     refine dH 22 rfl (fun _=>pB) (fun _=>?_) (nc g7)
     refine dH 23 rfl (fun _=>C8 rfl g7 rfl) (fun _=>?_) (C9 g6)
     refine dT 24 rfl (r8 rfl g6 rfl) ?_
     refine dT 25 rfl pM ?_
     refine dH 26 rfl (fun _=>pF 1) (fun g11=>?_) (fun g11=>?_)
     ·
      have g11':=d8 g11
      refine dH 27 rfl (fun _=>pL) (fun _=>?_) (C9 g11)
      refine dH 28 rfl (fun _=>pM) (fun _=>?_) (C9 g11)
      obtain⟨z12,hz13,b14⟩:=v9 (xs:=vs) (n:=(m:Int)) (by omega) (by omega)
      refine dH 29 rfl (fun _=>p8 (by kernel_rfl) rfl rfl b14 hz13) (fun _=>?_) (C9 g11)
      refine dH 30 rfl (fun _=>Y8 (by kernel_rfl) rfl rfl) (fun _=>?_) (C9 g11)
      refine C7 31 rfl rfl (by kernel_rfl) rfl rfl rfl (fun _=>(n9 1 1 false (H9 Tryz.func149) (E6 z12 (by exact(ov _ (D8 (by assumption))).1) (by exact(ov _ (D8 (by assumption))).2)) rfl (.cons rfl (.c .t0) .nil) rfl rfl rfl)) (fun _=>?_) (C9 g11)
      refine dH 32 rfl (fun _=>R3 rfl) (fun _=>?_) (C9 g11)
      refine dT 33 rfl (r8 rfl g11 rfl) ?_
      refine dE ?_
      refine j9 rfl (fun h15=>?_) (fun h15=>?_)
      ·
       have h15':=d8 (d4 h15)
       refine t9<|rA<|c9 ?_
       refine tk Tryz.func147 (.tmp rfl .nil) ?_ <;>(try clear ih0)
       all_goals(refine K7 ?_;(rw [C3 (m:=m) (by omega) (by exact MX (by assumption) (by omega))];done))
      ·
       have h15':=a8 (Y5 h15)
       refine m9<|i9<|l9<|rM ?_
       refine rB ?_
       refine rA<|c9 ?_
       refine Z9 ?_ (ih0 (m + 1) (by(try dsimp only);omega) (by(try dsimp only);exact⟨by omega,i2,i6 i3 (by(rw [oR (m:=m) (by assumption) (by assumption) (by omega) (by assumption) (by(try simp only [IntKind.wrap_i64]);omega),decide_eq_true (by omega),decide_eq_true (by omega),decide_eq_true (by omega)];rfl))⟩))
       exact⟨⟨rfl,⟨(L7 (n8 (by omega) (by omega))),trivial⟩⟩,⟨rfl,trivial⟩,rfl⟩
     ·
      have g11':=a8 g11
      refine dG 27 (nc g11) (fun _=>?_)
      refine dG 28 (nc g11) (fun _=>?_)
      refine dG 29 (nc g11) (fun _=>?_)
      refine dG 30 (nc g11) (fun _=>?_)
      refine dG 31 (nc g11) (fun _=>?_)
      refine dG 32 (nc g11) (fun _=>?_)
      refine dT 33 rfl (C8 rfl g11 rfl) ?_
      refine dE ?_
      refine j9 rfl (fun _=>?_) (nc rfl)
      refine t9<|rA<|c9 ?_
      refine tk Tryz.func147 (.tmp rfl .nil) ?_ <;>(try clear ih0)
      all_goals(refine K7 ?_;(rw [C3 (m:=m) (by omega) (by exact fR (m:=m) (by assumption) (by omega) (by assumption) (by(try simp only [IntKind.wrap_i64]);omega) (by omega))];done))
    ·
     have g7':=d8 g7
     refine dG 12 (C9 g7) (fun _=>?_)
     refine dG 13 (C9 g7) (fun _=>?_)
     refine dG 14 (C9 g7) (fun _=>?_)
     refine dG 15 (C9 g7) (fun _=>?_)
     refine dG 16 (C9 g7) (fun _=>?_)
     refine dG 17 (C9 g7) (fun _=>?_)
     refine dG 18 (C9 g7) (fun _=>?_)
     refine dG 19 (C9 g7) (fun _=>?_)
     refine dG 20 (C9 g7) (fun _=>?_)
     refine dG 21 (C9 g7) (fun _=>?_)
     refine dG 22 (C9 g7) (fun _=>?_)
     refine dH 23 rfl (fun _=>r8 rfl g7 rfl) (fun _=>?_) (C9 g6)
     refine dT 24 rfl (r8 rfl g6 rfl) ?_
     refine dT 25 rfl pM ?_
     refine dH 26 rfl (fun _=>pF 1) (fun _=>?_) (C9 rfl)
     refine dH 27 rfl (fun _=>pL) (fun _=>?_) (C9 rfl)
     refine dH 28 rfl (fun _=>pM) (fun _=>?_) (C9 rfl)
     obtain⟨z16,hz17,b18⟩:=v9 (xs:=vs) (n:=(m:Int)) (by omega) (by omega)
     refine dH 29 rfl (fun _=>p8 (by kernel_rfl) rfl rfl b18 hz17) (fun _=>?_) (C9 rfl)
     refine dH 30 rfl (fun _=>Y8 (by kernel_rfl) rfl rfl) (fun _=>?_) (C9 rfl)
     refine C7 31 rfl rfl (by kernel_rfl) rfl rfl rfl (fun _=>(n9 1 1 false (H9 Tryz.func149) (E6 z16 (by exact(ov _ (D8 (by assumption))).1) (by exact(ov _ (D8 (by assumption))).2)) rfl (.cons rfl (.c .t0) .nil) rfl rfl rfl)) (fun _=>?_) (C9 rfl)
     refine dH 32 rfl (fun _=>R3 rfl) (fun _=>?_) (C9 rfl)
     refine dT 33 rfl (r8 rfl rfl rfl) ?_
     refine dE ?_
     refine j9 rfl (fun h19=>?_) (fun h19=>?_)
     ·
      have h19':=d8 (d4 h19)
      refine t9<|rA<|c9 ?_
      refine tk Tryz.func147 (.tmp rfl .nil) ?_ <;>(try clear ih0)
      all_goals(refine K7 ?_;(rw [C3 (m:=m) (by omega) (by exact MX (by assumption) (by omega))];done))
     ·
      have h19':=a8 (Y5 h19)
      refine m9<|i9<|l9<|rM ?_
      refine rB ?_
      refine rA<|c9 ?_
      refine Z9 ?_ (ih0 (m + 1) (by(try dsimp only);omega) (by(try dsimp only);exact⟨by omega,i2,i6 i3 (by(rw [JS (m:=m) (by assumption) (by assumption) (by omega),decide_eq_true (by omega),decide_eq_true (by omega)];rfl))⟩))
      exact⟨⟨rfl,⟨(L7 (n8 (by omega) (by omega))),trivial⟩⟩,⟨rfl,trivial⟩,rfl⟩
   ·
    have g6':=d8 (d4 g6)
    refine dG 9 (nc g6) (fun _=>?_)
    refine dG 10 (nc g6) (fun _=>?_)
    refine dK 11 ?_
    refine dK 12 ?_
    refine dK 13 ?_
    refine dK 14 ?_
    refine dK 15 ?_
    refine dK 16 ?_
    refine dK 17 ?_
    refine dK 18 ?_
    refine dK 19 ?_
    refine dK 20 ?_
    refine dK 21 ?_
    refine dK 22 ?_
    refine dG 23 (nc g6) (fun _=>?_)
    refine dT 24 rfl (C8 rfl g6 rfl) ?_
    refine dT 25 rfl pM ?_
    refine dG 26 (nc rfl) (fun _=>?_)
    refine dG 27 (nc rfl) (fun _=>?_)
    refine dG 28 (nc rfl) (fun _=>?_)
    refine dG 29 (nc rfl) (fun _=>?_)
    refine dG 30 (nc rfl) (fun _=>?_)
    refine dG 31 (nc rfl) (fun _=>?_)
    refine dG 32 (nc rfl) (fun _=>?_)
    refine dT 33 rfl (C8 rfl rfl rfl) ?_
    refine dE ?_
    refine j9 rfl (fun _=>?_) (nc rfl)
    refine t9<|rA<|c9 ?_
    refine tk Tryz.func147 (.tmp rfl .nil) ?_ <;>(try clear ih0)
    all_goals(refine K7 ?_;(rw [C3 (m:=m) (by omega) (by exact XS (by assumption) (by omega))];done))
  ·
   have h2':=d8 h2
   refine N9 rfl<|t9<|rA<|c9 ?_
   refine tk Tryz.func147 (.tmp rfl .nil) ?_ <;>(try clear ih0)
   all_goals(refine K7 ?_;(rw [YS i2 i3 (by omega)];done))
theorem gW (ns vs:List Int)(v:Int)(hn:ns.length≤4611686018427387904)(hv:vs.length≤4611686018427387904)(on:∀x∈ns,B7 x)(ov:∀x∈vs,B7 x)(hv1: -9223372036854775808≤v)(hv2:v≤9223372036854775807):Pu Tryz.prog 193 [.agg [.t none (.sl 1 f9 ns),.t none (.sl 1 f9 vs)],.c (.t none (.v (.int .i64 v)))] [] 0 (.c (.t none (.v (.int .i64 (lY ns vs v))))):=by
 refine S7 Tryz.func193 fun w S=>?_
 have sl:y4 ns vs=true→ns.length=vs.length:=(fun h=>by unfold y4 at h;rw [Bool.and_eq_true] at h;exact a8 h.1);have s39:y4 ns vs=true→∀(k:Nat) y,ns[k]? =some y→0≤y∧y≤39:=(fun h k y hy=>GI h hy)
 refine t9 ?_
 refine d9 (m8 0 rfl rfl rfl rfl) ?_
 refine rA<|c9<|k9<|t9 ?_
 refine rA<|c9<|p9 ?_
 refine J9 (fun m=>⟨[(1,some (.c (.t none (.v (.int .i64 v))))),(2,some (.c (.ptr 0 0))),(5,some (.c (.t none (.v (.int .i64 ((m:Int)))))))],[(0,some (.box [.t none (.sl 1 f9 ns),.t none (.sl 1 f9 vs)]))],1⟩:Nat→St) (fun m=>m≤ns.length∧∀j y,j < m→ns[j]? =some y→y≠ -1 - v) (fun m=>ns.length - m) 0 ⟨⟨rfl,⟨rfl,⟨rfl,trivial⟩⟩⟩,⟨rfl,trivial⟩,rfl⟩ (by exact⟨Nat.zero_le _,fun j y h=>by omega⟩) ?_
 rintro m hI ih0
 try dsimp only at hI ih0
 obtain⟨i1,i2⟩:=hI
 refine k9<|t9<|rM ?_
 refine rF 0 ?_
 refine rL ?_
 refine d9 (P9 rfl rfl rfl) ?_
 refine rB ?_
 refine rM ?_
 refine A9 (fun g1=>?_) (fun g1=>?_)
 ·
  have g1':=a8 g1
  refine rC 2 ?_
  refine A9 (fun _=>?_) (nc g1)
  refine d9 (n9 1 1 false (H9 Tryz.func147) (K4 ns vs (by omega) (by omega) (by omega) (by omega)) rfl (.cons rfl (.agg (.cons .t0 (.cons .t0 .nil))) .nil) rfl rfl rfl) ?_
  refine d9 (M9 rfl rfl g1 rfl) ?_
  refine c9 ?_
  refine j9 rfl (fun h2=>?_) (fun h2=>?_)
  ·
   have h2':=h2
   refine m9<|k9<|p9<|t9<|rF 0 ?_
   refine rL ?_
   refine rM ?_
   obtain⟨z3,hz4,b5⟩:=v9 (xs:=ns) (n:=(m:Int)) (by omega) (by omega)
   refine d9 (Q9 rfl (by kernel_rfl) rfl rfl b5 hz4) ?_
   refine d9 (i8 rfl (by kernel_rfl) rfl rfl) ?_
   refine d9 (n9 1 1 false (H9 Tryz.func85) (K2 z3 (by(have e7:=s39 (by assumption) _ _ (by assumption);omega))) rfl (.cons rfl (.c .t0) .nil) rfl rfl rfl) ?_
   refine rM ?_
   refine rB<|c9 ?_
   refine j9 rfl (fun h6=>?_) (fun h6=>?_)
   ·
    have h6':=a8 h6
    refine t9<|rF 1 ?_
    refine rL ?_
    refine rM ?_
    obtain⟨z7,hz8,b9⟩:=v9 (xs:=vs) (n:=(m:Int)) (by omega) (by(have e7:=sl (by assumption);omega))
    refine d9 (Q9 rfl (by kernel_rfl) rfl rfl b9 hz8) ?_
    refine d9 (i8 rfl (by kernel_rfl) rfl rfl) ?_
    refine rA<|c9 ?_
    refine tk Tryz.func193 (.tmp rfl .nil) ?_ <;>(try clear ih0)
    all_goals(refine XX ?_;(exact ML (by assumption) i2 hz4 (by omega) hz8))
   ·
    have h6':=d8 h6
    refine m9<|i9<|l9<|rM ?_
    refine rB ?_
    refine rA<|c9 ?_
    refine Z9 ?_ (ih0 (m + 1) (by(try dsimp only);omega) (by(try dsimp only);exact⟨by omega,UJ i2 hz4 rfl (by omega)⟩))
    exact⟨⟨rfl,⟨rfl,⟨(L7 (n8 (by omega) (by omega))),trivial⟩⟩⟩,⟨rfl,trivial⟩,rfl⟩
  ·
   have h2':=h2
   refine N9 rfl<|t9<|rM ?_
   refine rA<|c9 ?_
   refine tk Tryz.func193 (.tmp rfl .nil) ?_ <;>(try clear ih0)
   all_goals(refine XX ?_;(exact RK (by assumption)))
 ·
  have g1':=d8 g1
  refine A9 (C9 g1) (fun _=>?_)
  refine d9 (G9 rfl rfl g1 rfl) ?_
  refine c9 ?_
  refine j9 rfl (C9 rfl) (fun _=>?_)
  refine N9 rfl<|t9<|rM ?_
  refine rA<|c9 ?_
  refine tk Tryz.func193 (.tmp rfl .nil) ?_ <;>(try clear ih0)
  all_goals(refine XX ?_;(exact kM i2 (by omega)))
theorem BW (ns vs:List Int)(r:Int)(ts:List Int)(hn:ns.length≤4611686018427387904)(hv:vs.length≤4611686018427387904)(on:∀x∈ns,B7 x)(ov:∀x∈vs,B7 x)(hts:ts.length≤1048576)(ot:∀x∈ts,B7 x):Pu Tryz.prog 148 [.agg [.t none (.sl 1 f9 ns),.t none (.sl 1 f9 vs)],.agg [.t none (.v (.int .i64 r)),.t none (.sl 1 f9 ts)]] [(4,some (.row none 3 true 1 f9 (ts.map (lY ns vs))))] 5 (.agg [.t none (.v (.int .i64 r)),.own 4]):=by
 refine S7 Tryz.func148 fun w S=>?_
 refine t9 ?_
 refine d9 (m8 0 rfl rfl rfl rfl) ?_
 refine d9 (m8 1 rfl rfl rfl rfl) ?_
 refine d9 (F9 2 (zs:=[.int .i64 0,.slice none 0 0]) rfl rfl (by kernel_rfl) rfl) ?_
 refine P8<|rF 0 ?_
 refine rL ?_
 refine d9 (oD [(0,1),(1,1)] [.int .i64 0,.slice none 0 0]) ?_
 refine d9 (F9 3 (zs:=[.int .i64 0,.slice none 0 0]) rfl rfl (by kernel_rfl) rfl) ?_
 refine rS 2<|c9<|k9<|t9 ?_
 refine rA<|c9<|p9 ?_
 refine A6 4 (b:=3) (o:=1) (et:=3) (sz:=1) true f9 rfl rfl rfl ?_
 refine J9 (fun m=>⟨[(2,some (.c (.ptr 0 0))),(3,some (.c (.ptr 1 0))),(4,some (.c (.ptr 2 0))),(5,some (.c (.ptr 3 0))),(6,some (.c (.t none (.v (.int .i64 ((m:Int)))))))],[(0,some (.box [.t none (.sl 1 f9 ns),.t none (.sl 1 f9 vs)])),(1,some (.box [.t none (.v (.int .i64 r)),.t none (.sl 1 f9 ts)])),(2,some (.box [.t none (.v (.int .i64 0)),.t none (.v (.slice none 0 0))])),(3,some (.box [.t none (.v (.int .i64 r)),.own 4])),(4,some (.row none 3 true 1 f9 ((ts.take m).map (lY ns vs))))],5⟩:Nat→St) (fun m=>m≤ts.length) (fun m=>ts.length - m) 0 ⟨⟨rfl,⟨rfl,⟨rfl,⟨rfl,⟨rfl,trivial⟩⟩⟩⟩⟩,⟨rfl,⟨rfl,⟨rfl,⟨rfl,⟨rfl,trivial⟩⟩⟩⟩⟩,rfl⟩ (by exact Nat.zero_le _) ?_
 rintro m hI ih0
 try dsimp only at hI ih0
 have i1:=hI
 refine k9<|t9<|rM ?_
 refine rF 1 ?_
 refine rL ?_
 refine d9 (P9 rfl rfl rfl) ?_
 refine rB<|c9 ?_
 refine j9 rfl (fun h1=>?_) (fun h1=>?_)
 ·
  have h1':=a8 h1
  refine m9<|k9<|p9 ?_
  refine tD (fun i=>!(Nat.beq i 10||Nat.beq i 12)) ?_
  refine dT 0 rfl (pF 1) ?_
  refine dT 1 rfl pL ?_
  refine dT 2 rfl (pC 2) ?_
  refine dT 3 rfl (pF 1) ?_
  refine dT 4 rfl pL ?_
  refine dT 5 rfl pM ?_
  obtain⟨z2,hz3,b4⟩:=v9 (xs:=ts) (n:=(m:Int)) (by omega) (by omega)
  refine dT 6 rfl (p8 (by kernel_rfl) rfl rfl b4 hz3) ?_
  refine dT 7 rfl (Y8 (by kernel_rfl) rfl rfl) ?_
  refine dO 8 rfl (n9 5 5 false (H9 Tryz.func193) (gW ns vs z2 (by omega) (by omega) (by omega) (by omega) (by exact(ot _ (D8 (by assumption))).1) (by exact(ot _ (D8 (by assumption))).2)) rfl (.cons rfl (.agg (.cons .t0 (.cons .t0 .nil))) (.cons rfl (.c .t0) .nil)) rfl rfl rfl) ?_
  refine dO 9 rfl (w8 5 (e:=3) (sz:=1) (zs:=[.int .i64 0]) rfl rfl (by kernel_rfl) rfl rfl rfl rfl rfl) ?_
  refine dO 10 rfl (W9 4 (e:=3) (sz:=1) (by':=8) (lY ns vs z2) rfl (by kernel_rfl) rfl rfl rfl rfl rfl rfl (.cons .sc .nil) rfl (by(simp;omega)) (by(simp;omega))) ?_
  refine dT 11 rfl (pF 1) ?_
  refine dO 12 rfl (oS 1) ?_
  refine dE ?_
  refine i9<|l9<|rM ?_
  refine rB ?_
  refine rA<|c9 ?_
  refine Z9 ?_ (ih0 (m + 1) (by(try dsimp only);omega) (by(try dsimp only);omega))
  exact⟨⟨rfl,⟨rfl,⟨rfl,⟨rfl,⟨(L7 (n8 (by omega) (by omega))),trivial⟩⟩⟩⟩⟩,⟨rfl,⟨rfl,⟨rfl,⟨rfl,⟨(Q8 (uP hz3)),trivial⟩⟩⟩⟩⟩,rfl⟩
 ·
  have h1':=d8 h1
  refine N9 rfl<|t9<|rC 2 ?_
  refine rS 2<|c9 ?_
  refine tk Tryz.func148 (X9 2 .nil) ?_ (hL:=⟨Q8 ?_,trivial⟩) <;>(try clear ih0)
  all_goals first | rfl | ((rw [List.take_of_length_le (by omega)]))
theorem V3 (ns vs:List Int)(rs:T9)(fs:w9)(hn:ns.length≤4611686018427387904)(hv:vs.length≤4611686018427387904)(on:∀x∈ns,B7 x)(ov:∀x∈vs,B7 x)(hrs:rs.length≤1048576)(hfs:N8 (fun(x:Int ×(List Int))=>x.2.length) fs≤1048576)(ho:∀z∈fs,∀x∈z.2,B7 x):Pu Tryz.prog 83 [.agg [.t none (.sl 1 f9 ns),.t none (.sl 1 f9 vs)],.agg [.t none (.sl 3 (j8 Y9 f9 U9) rs),.t none (.sl 2 (y9 f9 (x9 1 f9)) fs)]] [] 0 (.tup [(true,[.t none (.sl 3 (j8 Y9 f9 U9) (DU rs fs ns vs)),.t none (.sl 2 (y9 f9 (x9 1 f9)) (BU rs fs ns vs))]),(false,[.t none (.v (.bool (YZ rs fs ns vs)))])]):=by
 refine S7 Tryz.func83 fun w S=>?_
 have gl:=I8 (f:=(fun(x:Int ×(List Int))=>x.2.length)) (l:=fs)
 refine t9 ?_
 refine d9 (m8 0 rfl rfl rfl rfl) ?_
 refine d9 (m8 1 rfl rfl rfl rfl) ?_
 refine d9 (F9 2 (zs:=[.slice none 0 0,.slice none 0 0]) rfl rfl (by kernel_rfl) rfl) ?_
 refine rA<|c9<|k9<|t9 ?_
 refine rC 2 ?_
 refine d9 (n9 3 3 false (H9 Tryz.func147) (K4 ns vs (by omega) (by omega) (by omega) (by omega)) rfl (.cons rfl (.agg (.cons .t0 (.cons .t0 .nil))) .nil) rfl rfl rfl) ?_
 refine d9 (E8 rfl rfl) ?_
 refine rM ?_
 refine A9 (fun g1=>?_) (fun g1=>?_)
 ·
  have g1':=(Y5 g1)
  refine rC 2 ?_
  refine A9 (fun _=>?_) (C9 g1)
  refine d9 (n9 3 3 false (H9 Tryz.func37) (H6 rs fs (by omega) (by omega) (by omega)) rfl (.cons rfl (.agg (.cons .t0 (.cons .t0 .nil))) .nil) rfl rfl rfl) ?_
  refine A9 (fun _=>?_) (C9 g1)
  refine d9 (E8 rfl rfl) ?_
  refine d9 (G9 rfl rfl g1 rfl) ?_
  refine c9 ?_
  refine j9 rfl (fun h2=>?_) (fun h2=>?_)
  ·
   have h2':=(d4 h2)
   refine t9 ?_
   refine d9 (oD [(0,1),(1,1)] [.slice none 0 0,.slice none 0 0]) ?_
   refine rS 2 ?_
   refine rA<|c9 ?_
   refine A6 3 (b:=2) (o:=0) (et:=95) (sz:=3) true (j8 Y9 f9 U9) rfl rfl rfl ?_
   refine A6 4 (b:=2) (o:=1) (et:=64) (sz:=2) true (y9 f9 (x9 1 f9)) rfl rfl rfl ?_
   refine s9 3 rfl (K9 rfl) ?_
   refine s9 4 rfl (K9 rfl) ?_
   refine tk Tryz.func83 (X9 2 (.tmp rfl .nil)) ?_ <;>(try clear ih0)
   all_goals((have e8:=PN (rs:=rs) (fs:=fs) (ns:=ns) (vs:=vs) (by assumption);(rw [e8.1,e8.2.1,e8.2.2];rfl)))
  ·
   have h2':=(Y5 h2)
   refine m9<|t9 ?_
   refine d9 (c7 3 (e:=95) (sz:=3) (zs:=[.string (U6 ([])),.int .i64 0,.bool false]) (j8 Y9 f9 U9) rfl rfl (by kernel_rfl) rfl) ?_
   refine rF 0 ?_
   refine rL ?_
   refine d9 (o7 3 (e:=95) (sz:=3) (by':=32) rfl (by kernel_rfl) rfl rfl rfl rfl (fun _ j=>by rcases j with _ | _ | j <;> exact⟨_,rfl⟩) (by(simp;omega)) (by(simp;omega))) ?_
   refine d9 (oD [(0,1),(1,1)] [.slice none 0 0,.slice none 0 0]) ?_
   refine d9 (F9 4 (zs:=[.slice none 0 0,.slice none 0 0]) rfl rfl (by kernel_rfl) rfl) ?_
   refine rS 2<|c9<|k9<|t9 ?_
   refine rA<|c9<|p9 ?_
   refine s9 3 rfl (K9 rfl) ?_
   refine eQ 4 1 (sz:=2) (y9 f9 (x9 1 f9)) rfl rfl ?_
   refine J9 (fun(m,gs)=>⟨[(2,some (.c (.ptr 0 0))),(3,some (.c (.ptr 1 0))),(4,some (.c (.ptr 2 0))),(5,some (.c (.t none (.v (.bool false))))),(6,some (.c (.ptr 4 0))),(7,some (.c (.t none (.v (.int .i64 ((m:Int)))))))],[(0,some (.box [.t none (.sl 1 f9 ns),.t none (.sl 1 f9 vs)])),(1,some (.box [.t none (.sl 3 (j8 Y9 f9 U9) rs),.t none (.sl 2 (y9 f9 (x9 1 f9)) fs)])),(2,some (.box [.t none (.v (.slice none 0 0)),.t none (.v (.slice none 0 0))])),(4,some (.box [.t none (.sl 3 (j8 Y9 f9 U9) ([]++rs)),.t none (.sl 2 (y9 f9 (x9 1 f9)) gs)]))],5⟩:Nat × w9→St) (fun(m,gs)=>m≤fs.length∧gs=E4 [] ((fs.take m).map (gU ns vs))) (fun(m,gs)=>fs.length - m) (0,[]) ⟨⟨rfl,⟨rfl,⟨rfl,⟨rfl,⟨rfl,⟨rfl,trivial⟩⟩⟩⟩⟩⟩,⟨rfl,⟨rfl,⟨rfl,⟨rfl,trivial⟩⟩⟩⟩,rfl⟩ (by exact⟨Nat.zero_le _,rfl⟩) ?_
   rintro⟨m,gs⟩ hI ih0
   try dsimp only at hI ih0
   obtain⟨i1,i2⟩:=hI;have ar:=RM i2
   refine k9<|t9<|rM ?_
   refine rF 1 ?_
   refine rL ?_
   refine d9 (P9 rfl rfl rfl) ?_
   refine rB<|c9 ?_
   refine j9 rfl (fun h3=>?_) (fun h3=>?_)
   ·
    have h3':=a8 h3
    refine m9<|k9<|p9 ?_
    refine tD (fun i=>!(Nat.beq i 9)) ?_
    refine dT 0 rfl (pC 2) ?_
    refine dT 1 rfl (pC 2) ?_
    refine dT 2 rfl (pF 1) ?_
    refine dT 3 rfl pL ?_
    refine dT 4 rfl pM ?_
    obtain⟨z4,hz5,b6⟩:=v9 (xs:=fs) (n:=(m:Int)) (by omega) (by omega)
    refine dT 5 rfl (p8 (by kernel_rfl) rfl rfl b6 hz5) ?_
    refine dT 6 rfl (p6 (n:=2) (by kernel_rfl) (by kernel_rfl) rfl rfl) ?_
    refine dO 7 rfl (n9 5 10 false (H9 Tryz.func148) (BW ns vs z4.1 z4.2 (by omega) (by omega) (by omega) (by omega) (by(have e1:=X7 (f:=(fun(x:Int ×(List Int))=>x.2.length)) (l:=fs) (m:=m) (by assumption);(try dsimp only at e1);omega)) (by exact ho _ (D8 (by assumption)))) rfl (.cons rfl (.agg (.cons .t0 (.cons .t0 .nil))) (.cons rfl (.agg (.cons .t0 (.cons .t0 .nil))) .nil)) rfl rfl rfl) ?_
    refine W7 9 rfl (K9 rfl) ?_
    refine dO 8 rfl (n9 10 10 true (H9 Tryz.func87) (Y7 ([]++rs) gs z4.1 (z4.2.map (lY ns vs)) (by omega) (by(rw [List.length_map];have e1:=X7 (f:=(fun(x:Int ×(List Int))=>x.2.length)) (l:=fs) (m:=m) (by assumption);(try dsimp only at e1);omega))) rfl (.cons rfl (.agg (.cons .t0 (.cons .t0 .nil))) (.cons rfl (.agg (.cons .t0 (.cons .t0 .nil))) .nil)) rfl rfl rfl) ?_
    refine dO 9 rfl (oS 2) ?_
    refine dE ?_
    refine i9<|l9<|rM ?_
    refine rB ?_
    refine rA<|c9 ?_
    refine Z9 ?_ (ih0 (m + 1,G4 gs (z4.1,(z4.2.map (lY ns vs)))) (by(try dsimp only);omega) (by(try dsimp only);exact⟨by omega,by rw [i2];exact MW (f:=gU ns vs) hz5⟩))
    exact⟨⟨rfl,⟨rfl,⟨rfl,⟨rfl,⟨rfl,⟨(L7 (n8 (by omega) (by omega))),trivial⟩⟩⟩⟩⟩⟩,⟨rfl,⟨rfl,⟨rfl,⟨rfl,trivial⟩⟩⟩⟩,rfl⟩
   ·
    have h3':=d8 h3
    refine N9 rfl<|t9<|rC 2 ?_
    refine d9 (n9 5 10 false (H9 Tryz.func33) (M6 ([]++rs) gs (by assumption) (by omega)) rfl (.cons rfl (.agg (.cons .t0 (.cons .t0 .nil))) .nil) rfl rfl rfl) ?_
    refine rS 2 ?_
    refine rA<|c9 ?_
    refine s9 7 rfl (K9 rfl) ?_
    refine s9 9 rfl (K9 rfl) ?_
    refine tk Tryz.func83 (X9 2 (.tmp rfl .nil)) ?_ <;>(try clear ih0)
    all_goals((have e8:=oN (rs:=rs) (fs:=fs) (ns:=ns) (vs:=vs) (by assumption) (by assumption);(have e9:=MJ i2 (by omega));(rw [e8.1,e8.2.1,e8.2.2,← e9];rfl)))
 ·
  have g1':=(d4 g1)
  refine A9 (nc g1) (fun _=>?_)
  refine A9 (nc g1) (fun _=>?_)
  refine d9 (M9 rfl rfl g1 rfl) ?_
  refine c9 ?_
  refine j9 rfl (fun _=>?_) (nc rfl)
  refine t9 ?_
  refine d9 (oD [(0,1),(1,1)] [.slice none 0 0,.slice none 0 0]) ?_
  refine rS 2 ?_
  refine rA<|c9 ?_
  refine A6 3 (b:=2) (o:=0) (et:=95) (sz:=3) true (j8 Y9 f9 U9) rfl rfl rfl ?_
  refine A6 4 (b:=2) (o:=1) (et:=64) (sz:=2) true (y9 f9 (x9 1 f9)) rfl rfl rfl ?_
  refine s9 3 rfl (K9 rfl) ?_
  refine s9 4 rfl (K9 rfl) ?_
  refine tk Tryz.func83 (X9 2 (.tmp rfl .nil)) ?_ <;>(try clear ih0)
  all_goals((have e8:=SN (rs:=rs) (fs:=fs) (ns:=ns) (vs:=vs) (by assumption);(rw [e8.1,e8.2.1,e8.2.2];rfl)))
theorem O0 (a0:List (Int ×(List Int)))(a1:List (Int ×(List Int)))(a2:Bool)(a3:Int)(a4:Int)(hs:N8 (fun(x:Int ×(List Int))=>x.2.length) a0 + N8 (fun(x:Int ×(List Int))=>x.2.length) a1≤1048576):Pu Tryz.prog 84 [.agg [.t none (.sl 2 (y9 f9 (x9 1 f9)) a0),.t none (.sl 2 (y9 f9 (x9 1 f9)) a1),.t none (.v (.bool a2)),.t none (.v (.int .i64 a3)),.t none (.v (.int .i64 a4))]] [(1,some (.row none 3 true 1 f9 (W4 false (O9 (I9 a0)) (O9 (I9 a1)))))] 4 (.c (.own 1)):=by
 refine S7 Tryz.func84 fun w S=>?_
 have g0:=I8 (f:=(fun(x:Int ×(List Int))=>x.2.length)) (l:=a0);have g1:=I8 (f:=(fun(x:Int ×(List Int))=>x.2.length)) (l:=a1);have v0:=Q7 (I9 a0);have v1:=F7 a0;have v2:=Q7 (I9 a1);have v3:=F7 a1
 refine t9 ?_
 refine d9 (m8 0 rfl rfl rfl rfl) ?_
 refine rA<|P8 ?_
 refine d9 (c7 1 (e:=3) (sz:=1) (zs:=[.int .i64 0]) f9 rfl rfl (by kernel_rfl) rfl) ?_
 refine rA<|P8 ?_
 refine rF 0 ?_
 refine rL ?_
 refine d9 (n9 2 3 false (H9 Tryz.func128) (N5 a0 (by omega)) rfl (.cons rfl (.c .t0) .nil) rfl rfl rfl) ?_
 refine rA<|P8 ?_
 refine rF 1 ?_
 refine rL ?_
 refine d9 (n9 3 4 false (H9 Tryz.func128) (N5 a1 (by omega)) rfl (.cons rfl (.c .t0) .nil) rfl rfl rfl) ?_
 refine rA<|c9<|k9<|t9 ?_
 refine rA<|c9<|p9 ?_
 refine J9 (fun m=>⟨[(2,some (.c (.t none (.v (.slice none 0 0))))),(3,some (.c (.own 1))),(4,some (.c (.own 2))),(5,some (.c (.own 3))),(6,some (.c (.t none (.v (.int .i64 ((m:Int)))))))],[(0,some (.box [.t none (.sl 2 (y9 f9 (x9 1 f9)) a0),.t none (.sl 2 (y9 f9 (x9 1 f9)) a1),.t none (.v (.bool a2)),.t none (.v (.int .i64 a3)),.t none (.v (.int .i64 a4))])),(1,some (.row none 3 true 1 f9 (((O9 (I9 a1)).take m).filter (fun x=>zV (O9 (I9 a0)) x == false)))),(2,some (.row none 3 true 1 f9 (O9 (I9 a0)))),(3,some (.row none 3 true 1 f9 (O9 (I9 a1))))],4⟩:Nat→St) (fun m=>m≤(O9 (I9 a1)).length) (fun m=>(O9 (I9 a1)).length - m) 0 ⟨⟨rfl,⟨rfl,⟨rfl,⟨rfl,⟨rfl,trivial⟩⟩⟩⟩⟩,⟨rfl,⟨rfl,⟨rfl,⟨rfl,trivial⟩⟩⟩⟩,rfl⟩ (by exact Nat.zero_le _) ?_
 rintro m hI ih0
 try dsimp only at hI ih0
 have i1:=hI;have fl:=GQ (p:=(fun x=>zV (O9 (I9 a0)) x == false)) (l:=O9 (I9 a1)) (m:=m)
 refine k9<|t9<|rM ?_
 refine rM ?_
 refine d9 (A7 rfl rfl rfl rfl) ?_
 refine rB<|c9 ?_
 refine j9 rfl (fun h1=>?_) (fun h1=>?_)
 ·
  have h1':=a8 h1
  refine m9<|k9<|p9<|t9<|rM ?_
  refine rM ?_
  refine rM ?_
  obtain⟨z2,hz3,b4⟩:=v9 (xs:=O9 (I9 a1)) (n:=(m:Int)) (by omega) (by omega)
  refine d9 (o8 rfl (by kernel_rfl) rfl rfl rfl b4 (f8 b4 hz3)) ?_
  refine d9 (t8 rfl (by kernel_rfl) rfl rfl rfl hz3) ?_
  refine d9 (n9 4 4 false (H9 Tryz.func129) (L0 (O9 (I9 a0)) z2 (by omega)) rfl (.cons rfl (.c (.own rfl)) (.cons rfl (.c .t0) .nil)) rfl rfl rfl) ?_
  refine d9 (E8 rfl rfl) ?_
  refine c9 ?_
  refine j9 rfl (fun h5=>?_) (fun h5=>?_)
  ·
   have h5':=(d4 h5)
   refine l9<|rM ?_
   refine rM ?_
   refine rM ?_
   refine d9 (o8 rfl (by kernel_rfl) rfl rfl rfl b4 (f8 b4 hz3)) ?_
   refine d9 (t8 rfl (by kernel_rfl) rfl rfl rfl hz3) ?_
   refine d9 (w8 4 (e:=3) (sz:=1) (zs:=[.int .i64 0]) rfl rfl (by kernel_rfl) rfl rfl rfl rfl rfl) ?_
   refine d9 (W9 1 (e:=3) (sz:=1) (by':=8) z2 rfl (by kernel_rfl) rfl rfl rfl rfl rfl rfl (.cons .sc .nil) rfl (by omega) (by omega)) ?_
   refine rA<|c9<|i9<|l9 ?_
   refine rM ?_
   refine rB ?_
   refine rA<|c9 ?_
   refine Z9 ?_ (ih0 (m + 1) (by(try dsimp only);omega) (by(try dsimp only);omega))
   exact⟨⟨rfl,⟨rfl,⟨rfl,⟨rfl,⟨(L7 (n8 (by omega) (by omega))),trivial⟩⟩⟩⟩⟩,⟨rfl,⟨(Q8 (by(rw [XV (by assumption) (by simp_all)];done))),⟨rfl,⟨rfl,trivial⟩⟩⟩⟩,rfl⟩
  ·
   have h5':=(Y5 h5)
   refine m9<|i9<|l9<|rM ?_
   refine rB ?_
   refine rA<|c9 ?_
   refine Z9 ?_ (ih0 (m + 1) (by(try dsimp only);omega) (by(try dsimp only);omega))
   exact⟨⟨rfl,⟨rfl,⟨rfl,⟨rfl,⟨(L7 (n8 (by omega) (by omega))),trivial⟩⟩⟩⟩⟩,⟨rfl,⟨(Q8 (by(rw [eU (by assumption) (by simp_all)];done))),⟨rfl,⟨rfl,trivial⟩⟩⟩⟩,rfl⟩
 ·
  have h1':=d8 h1
  refine N9 rfl<|t9<|rM ?_
  refine rA<|c9 ?_
  refine tk Tryz.func84 (.tmp rfl .nil) ?_ (hL:=⟨Q8 ?_,trivial⟩) <;>(try clear ih0)
  all_goals first | rfl | ((rw [NQ (by omega)];rfl))
theorem uY (rs:T9)(l:w9)(hl:N8 (fun(x:Int ×(List Int))=>x.2.length) l≤1048576)(ho:∀z∈l,∀x∈z.2,B7 x):Pu Tryz.prog 50 [.agg [.t none (.sl 3 (j8 Y9 f9 U9) rs),.t none (.sl 2 (y9 f9 (x9 1 f9)) l)]] [(1,some (.row none 3 true 1 f9 (O9 (l7 (U8 l)))))] 2 (.c (.own 1)):=by
 refine S7 Tryz.func50 fun w S=>?_
 have gl:=I8 (f:=(fun(x:Int ×(List Int))=>x.2.length)) (l:=l);have gv:=GY l
 refine t9 ?_
 refine d9 (m8 0 rfl rfl rfl rfl) ?_
 refine rA<|P8 ?_
 refine d9 (c7 1 (e:=3) (sz:=1) (zs:=[.int .i64 0]) f9 rfl rfl (by kernel_rfl) rfl) ?_
 refine rA<|c9<|k9<|t9 ?_
 refine rA<|c9<|p9 ?_
 refine J9 (fun m=>⟨[(1,some (.c (.ptr 0 0))),(2,some (.c (.t none (.v (.slice none 0 0))))),(3,some (.c (.own 1))),(4,some (.c (.t none (.v (.int .i64 ((m:Int)))))))],[(0,some (.box [.t none (.sl 3 (j8 Y9 f9 U9) rs),.t none (.sl 2 (y9 f9 (x9 1 f9)) l)])),(1,some (.row none 3 true 1 f9 (O9 (l7 (U8 (l.take m))))))],2⟩:Nat→St) (fun m=>m≤l.length) (fun m=>l.length - m) 0 ⟨⟨rfl,⟨rfl,⟨rfl,⟨rfl,trivial⟩⟩⟩⟩,⟨rfl,⟨rfl,trivial⟩⟩,rfl⟩ (by exact Nat.zero_le _) ?_
 rintro m hI ih0
 try dsimp only at hI ih0
 have i1:=hI
 refine k9<|t9<|rM ?_
 refine rF 1 ?_
 refine rL ?_
 refine d9 (P9 rfl rfl rfl) ?_
 refine rB<|c9 ?_
 refine j9 rfl (fun h1=>?_) (fun h1=>?_)
 ·
  have h1':=a8 h1
  refine m9<|k9<|p9<|t9<|rF 1 ?_
  refine rL ?_
  refine rM ?_
  obtain⟨z2,hz3,b4⟩:=v9 (xs:=l) (n:=(m:Int)) (by omega) (by omega)
  refine d9 (Q9 rfl (by kernel_rfl) rfl rfl b4 hz3) ?_
  refine d9 (m6 rfl (n:=2) (by kernel_rfl) (by kernel_rfl) rfl rfl) ?_
  refine d9 (n9 2 4 false (H9 Tryz.func90) (A3 z2.1 z2.2 (by(have e1:=X7 (f:=(fun(x:Int ×(List Int))=>x.2.length)) (l:=l) (m:=m) (by assumption);(try dsimp only at e1);omega)) (by exact ho _ (D8 (by assumption)))) rfl (.cons rfl (.agg (.cons .t0 (.cons .t0 .nil))) .nil) rfl rfl rfl) ?_
  refine rA<|P8 ?_
  refine rA<|c9<|p9 ?_
  refine J9 (fun n=>⟨[(1,some (.c (.ptr 0 0))),(2,some (.c (.t none (.v (.slice none 0 0))))),(3,some (.c (.own 1))),(4,some (.c (.t none (.v (.int .i64 ((m:Int))))))),(5,some (.c (.own 3))),(6,some (.c (.t none (.v (.int .i64 ((n:Int)))))))],[(0,some (.box [.t none (.sl 3 (j8 Y9 f9 U9) rs),.t none (.sl 2 (y9 f9 (x9 1 f9)) l)])),(1,some (.row none 3 true 1 f9 (O9 (l7 (U8 (l.take m))++(O9 (l7 z2.2)).take n)))),(3,some (.row none 3 true 1 f9 (O9 (l7 z2.2))))],4⟩:Nat→St) (fun n=>n≤(O9 (l7 z2.2)).length) (fun n=>(O9 (l7 z2.2)).length - n) 0 ⟨⟨rfl,⟨rfl,⟨rfl,⟨rfl,⟨rfl,⟨rfl,trivial⟩⟩⟩⟩⟩⟩,⟨rfl,⟨(Q8 (by rw [List.take_zero,List.append_nil])),⟨rfl,trivial⟩⟩⟩,rfl⟩ (by exact Nat.zero_le _) ?_
  rintro n hI ih1
  try dsimp only at hI ih1
  have j1:=hI;have vp:=DW (m:=m) hz3;have vq:=kX (U8 (l.take m));have vr:=kX z2.2;have vs:=Q7 (l7 z2.2);have vt:=Q7 (l7 (U8 (l.take m))++(O9 (l7 z2.2)).take n);rw [List.length_append,List.length_take] at vt
  refine k9<|t9<|rM ?_
  refine rM ?_
  refine d9 (A7 rfl rfl rfl rfl) ?_
  refine rB<|c9 ?_
  refine j9 rfl (fun h5=>?_) (fun h5=>?_)
  ·
   have h5':=a8 h5
   refine m9<|k9<|p9<|l9<|rM ?_
   refine rM ?_
   refine rM ?_
   obtain⟨z6,hz7,b8⟩:=v9 (xs:=O9 (l7 z2.2)) (n:=(n:Int)) (by omega) (by omega)
   refine d9 (o8 rfl (by kernel_rfl) rfl rfl rfl b8 (f8 b8 hz7)) ?_
   refine d9 (t8 rfl (by kernel_rfl) rfl rfl rfl hz7) ?_
   refine d9 (OX 1 (l':=O3 (O9 (l7 (U8 (l.take m))++(O9 (l7 z2.2)).take n)) z6) (H9 Tryz.func106) (fun U=>vY U  (O9 (l7 (U8 (l.take m))++(O9 (l7 z2.2)).take n)) z6 (by omega)) rfl rfl (.cons rfl (.own rfl) (.cons rfl .t0 .nil))) ?_
   refine rA<|c9<|i9<|l9 ?_
   refine rM ?_
   refine rB ?_
   refine rA<|c9 ?_
   refine Z9 ?_ (ih1 (n + 1) (by(try dsimp only);omega) (by(try dsimp only);omega))
   exact⟨⟨rfl,⟨rfl,⟨rfl,⟨rfl,⟨rfl,⟨(L7 (n8 (by omega) (by omega))),trivial⟩⟩⟩⟩⟩⟩,⟨rfl,⟨(Q8 (by rw [jJ (n:=n) _ hz7,RV])),⟨rfl,trivial⟩⟩⟩,rfl⟩
  ·
   have h5':=d8 h5
   refine N9 rfl<|i9<|l9<|rM ?_
   refine rB ?_
   refine rA<|c9 ?_
   refine Z9 ?_ (ih0 (m + 1) (by(try dsimp only);omega) (by(try dsimp only);omega))
   exact⟨⟨rfl,⟨rfl,⟨rfl,⟨(L7 (n8 (by omega) (by omega))),trivial⟩⟩⟩⟩,⟨rfl,⟨(Q8 (by rw [FW (m:=m) hz3,NL,List.take_of_length_le (i:=n) (l:=O9 (l7 z2.2)) (by omega),DL])),trivial⟩⟩,rfl⟩
 ·
  have h1':=d8 h1
  refine N9 rfl<|t9<|rM ?_
  refine rA<|c9 ?_
  refine tk Tryz.func50 (.tmp rfl .nil) ?_ (hL:=⟨Q8 ?_,trivial⟩) <;>(try clear ih0) <;>(try clear ih1)
  all_goals first | rfl | ((rw [VX (by omega)]))
theorem O1 (rs:T9)(l:w9)(hl:N8 (fun(x:Int ×(List Int))=>x.2.length) l≤1048576)(ho:∀z∈l,∀x∈z.2,B7 x):Pu Tryz.prog 20 [.agg [.t none (.sl 3 (j8 Y9 f9 U9) rs),.t none (.sl 2 (y9 f9 (x9 1 f9)) l)]] [] 0 (.c (.t none (.v (.int .i64 (i5 (O9 (l7 (U8 l)))))))):=by
 refine S7 Tryz.func20 fun w S=>?_
 have gl:=I8 (f:=(fun(x:Int ×(List Int))=>x.2.length)) (l:=l);have gv:=GY l;have q1:=Q7 (l7 (U8 l));have q2:=kX (U8 l)
 refine t9 ?_
 refine d9 (m8 0 rfl rfl rfl rfl) ?_
 refine rA<|P8 ?_
 refine rC 2 ?_
 refine d9 (n9 1 3 false (H9 Tryz.func50) (uY rs l (by omega) (by omega)) rfl (.cons rfl (.agg (.cons .t0 (.cons .t0 .nil))) .nil) rfl rfl rfl) ?_
 refine rA<|c9<|k9<|t9 ?_
 refine rM ?_
 refine d9 (A7 rfl rfl rfl rfl) ?_
 refine rB<|c9 ?_
 refine j9 rfl (fun h1=>?_) (fun h1=>?_)
 ·
  have h1':=a8 h1
  refine t9<|rA<|c9 ?_
  refine tk Tryz.func20 (.tmp rfl .nil) ?_
  all_goals(refine XX ?_;(rw [YT (by omega)];done))
 ·
  have h1':=d8 h1
  refine m9<|t9<|rM ?_
  refine rM ?_
  refine d9 (A7 rfl rfl rfl rfl) ?_
  refine rB ?_
  obtain⟨z2,hz3,b4⟩:=v9 (xs:=O9 (l7 (U8 l))) (n:=IntKind.i64.wrap (((O9 (l7 (U8 l))).length:Int) - 1)) (by(simp only [IntKind.wrap_i64];omega)) (by(simp only [IntKind.wrap_i64];omega))
  refine d9 (o8 rfl (by kernel_rfl) rfl rfl rfl b4 (f8 b4 hz3)) ?_
  refine d9 (t8 rfl (by kernel_rfl) rfl rfl rfl hz3) ?_
  refine rB ?_
  refine rA<|c9 ?_
  refine tk Tryz.func20 (.tmp rfl .nil) ?_
  all_goals(refine XX ?_;(rw [cP (by assumption) (by simp only [IntKind.wrap_i64];omega)];done))
theorem Z1 (rs:T9)(fs:w9)(a0:List (Int ×(List Int)))(a1:List (Int ×(List Int)))(a2:Bool)(a3:Int)(a4:Int)(b:List Int)(hrs:rs.length≤1048576)(hsz:N8 (fun(x:Int ×(List Int))=>x.2.length) fs +(N8 (fun(x:Int ×(List Int))=>x.2.length) a0 + N8 (fun(x:Int ×(List Int))=>x.2.length) a1)≤1048576)(ho:∀z∈fs,∀x∈z.2,B7 x)(hoa:∀z∈a0,∀x∈z.2,B7 x)(hoh:∀z∈a1,∀x∈z.2,B7 x)(hbl:b.length≤1048576)(hob:∀x∈b,B7 x):Pu Tryz.prog 34 [.agg [.t none (.sl 3 (j8 Y9 f9 U9) rs),.t none (.sl 2 (y9 f9 (x9 1 f9)) fs)],.agg [.t none (.sl 2 (y9 f9 (x9 1 f9)) a0),.t none (.sl 2 (y9 f9 (x9 1 f9)) a1),.t none (.v (.bool a2)),.t none (.v (.int .i64 a3)),.t none (.v (.int .i64 a4))],.c (.t none (.sl 1 f9 b))] [] 0 (.tup [(true,[.t none (.sl 3 (j8 Y9 f9 U9) (TW rs fs a0 a1 a2 a3 a4 b)),.t none (.sl 2 (y9 f9 (x9 1 f9)) (tV rs fs a0 a1 a2 a3 a4 b))]),(false,[.t none (.v (.int .i64 (YW rs fs a0 a1 a2 a3 a4 b)))])]):=by
 refine S7 Tryz.func34 fun w S=>?_
 have g0:=I8 (f:=(fun(x:Int ×(List Int))=>x.2.length)) (l:=a0);have g1:=I8 (f:=(fun(x:Int ×(List Int))=>x.2.length)) (l:=a1);have g2:=I8 (f:=(fun(x:Int ×(List Int))=>x.2.length)) (l:=fs);have v1:=QP false (O9 (I9 a0)) (O9 (I9 a1));have v2:=Q7 (I9 a1);have v3:=F7 a1;have nb:0≤i5 (O9 (l7 (U8 fs)))∧i5 (O9 (l7 (U8 fs)))≤40:=ZK fs;have X5:f6 rs fs a0 a1 a2 a3 a4 b=true→a2=false→(W4 false (O9 (I9 a0)) (O9 (I9 a1))).length≤5:=GN;have XR:f6 rs fs a0 a1 a2 a3 a4 b=true→a2=false→∀(k:Nat) x,(W4 false (O9 (I9 a0)) (O9 (I9 a1)))[k]? =some x→0≤x∧x < 5:=(fun h h2 k x hx=>JR h h2 (D8 hx));have XL:f6 rs fs a0 a1 a2 a3 a4 b=true→b.length=5:=(fun h=>(rX (O4 h)).2.2);have oW:∀x∈nY fs a0 a1 b,B7 x:=dS _ _ _ hob nb.1 (by(have e7:(sQ a0 a1).length=(W4 false (O9 (I9 a0)) (O9 (I9 a1))).length:=rfl);have e8:iO fs≤40:=nb.2;omega)
 refine t9 ?_
 refine d9 (m8 0 rfl rfl rfl rfl) ?_
 refine d9 (m8 1 rfl rfl rfl rfl) ?_
 refine d9 (F9 2 (zs:=[.slice none 0 0,.slice none 0 0]) rfl rfl (by kernel_rfl) rfl) ?_
 refine rA<|P8 ?_
 refine rC 2 ?_
 refine d9 (n9 3 8 false (H9 Tryz.func33) (M6 rs fs (by omega) (by omega)) rfl (.cons rfl (.agg (.cons .t0 (.cons .t0 .nil))) .nil) rfl rfl rfl) ?_
 refine d9 (F9 8 (zs:=[.slice none 0 0,.slice none 0 0]) rfl rfl (by kernel_rfl) rfl) ?_
 refine rS 2<|c9<|k9<|t9 ?_
 refine rC 2 ?_
 refine rC 5 ?_
 refine rM ?_
 refine d9 (n9 9 9 false (H9 Tryz.func81) (K3 rs fs a0 a1 a2 a3 a4 b (by omega) (by omega) (by omega) (by omega) (by omega) (by omega) (by omega)) rfl (.cons rfl (.agg (.cons .t0 (.cons .t0 .nil))) (.cons rfl (.agg (.cons .t0 (.cons .t0 (.cons .t0 (.cons .t0 (.cons .t0 .nil)))))) (.cons rfl (.c .t0) .nil))) rfl rfl rfl) ?_
 refine d9 (E8 rfl rfl) ?_
 refine c9 ?_
 refine j9 rfl (fun h1=>?_) (fun h1=>?_)
 ·
  have h1':=(d4 h1)
  refine t9<|rC 2 ?_
  refine rS 2 ?_
  refine rA<|c9 ?_
  refine s9 5 rfl (K9 rfl) ?_
  refine s9 7 rfl (K9 rfl) ?_
  refine tk Tryz.func34 (X9 2 (.tmp rfl .nil)) ?_ <;>(try clear ih0) <;>(try clear ih1)
  all_goals((have e8:=NN (rs:=rs) (fs:=fs) (a0:=a0) (a1:=a1) (a2:=a2) (a3:=a3) (a4:=a4) (v:=b) (by assumption);(rw [e8.1,e8.2.1,e8.2.2];rfl)))
 ·
  have h1':=(Y5 h1)
  refine m9<|k9<|t9<|rF 2 ?_
  refine rL<|c9 ?_
  refine j9 rfl (fun h2=>?_) (fun h2=>?_)
  ·
   have h2':=h2
   refine t9<|rM ?_
   refine rF 3 ?_
   refine rL ?_
   obtain⟨z3,hz4,b5⟩:=v9 (xs:=b) (n:=a3) (by exact(F5 (O4 (by assumption)) (by assumption)).1.1) (by exact(F5 (O4 (by assumption)) (by assumption)).1.2)
   refine d9 (Q9 rfl (by kernel_rfl) rfl rfl b5 hz4) ?_
   refine d9 (i8 rfl (by kernel_rfl) rfl rfl) ?_
   refine rA<|P8 ?_
   refine rM ?_
   refine rF 4 ?_
   refine rL ?_
   obtain⟨z6,hz7,b8⟩:=v9 (xs:=b) (n:=a4) (by exact(F5 (O4 (by assumption)) (by assumption)).2.1) (by exact(F5 (O4 (by assumption)) (by assumption)).2.2)
   refine d9 (Q9 rfl (by kernel_rfl) rfl rfl b8 hz7) ?_
   refine d9 (i8 rfl (by kernel_rfl) rfl rfl) ?_
   refine rA<|c9<|k9<|t9 ?_
   refine rM ?_
   refine rB ?_
   refine rM ?_
   refine A9 (fun g9=>?_) (fun g9=>?_)
   ·
    have g9':=a8 g9
    refine rM ?_
    refine A9 (fun _=>?_) (nc g9)
    refine rB ?_
    refine d9 (M9 rfl rfl g9 rfl) ?_
    refine c9 ?_
    refine j9 rfl (fun h10=>?_) (fun h10=>?_)
    ·
     have h10':=a8 h10
     refine t9<|rC 2 ?_
     refine rS 2 ?_
     refine rA<|c9 ?_
     refine s9 5 rfl (K9 rfl) ?_
     refine s9 7 rfl (K9 rfl) ?_
     refine tk Tryz.func34 (X9 2 (.tmp rfl .nil)) ?_ <;>(try clear ih0) <;>(try clear ih1)
     all_goals((have e8:=YR (rs:=rs) (fs:=fs) (a0:=a0) (a1:=a1) (a2:=a2) (a3:=a3) (a4:=a4) (v:=b) (by assumption) (by assumption) hz4 hz7;(have e7:=PL (rs:=rs) (fs:=fs) (a:=z3) (b:=z6) (by omega) (by omega);(rw [e8.1,e8.2.1,e8.2.2,e7.1,e7.2.1,e7.2.2];rfl))))
    ·
     have h10':=d8 h10
     refine m9<|t9<|rM ?_
     refine rM ?_
     refine d9 (tN rfl rfl rfl) ?_
     refine d9 (n9 9 9 false (H9 Tryz.func82) (o5 (if z6 < z3 then z6 else z3) (by(have o3:=hob _ (List.mem_of_getElem? (l:=b) (i:=a3.toNat) (by assumption));have o4:=hob _ (List.mem_of_getElem? (l:=b) (i:=a4.toNat) (by assumption));unfold B7 at o3 o4;omega)) (by omega)) rfl (.cons rfl (.c .t0) .nil) rfl rfl rfl) ?_
     refine rM ?_
     refine d9 (D9 rfl rfl rfl rfl) ?_
     refine d9 (D9 rfl rfl rfl rfl) ?_
     refine rA ?_
     refine rA<|P8 ?_
     refine rM ?_
     refine d9 (M5 9 (e:=3) (sz:=1) (zs:=[.int .i64 0]) (enc:=f9) (if -40≤(if z6 < z3 then z6 else z3)∧(if z6 < z3 then z6 else z3)≤ -1 then -1 - (if z6 < z3 then z6 else z3) else 0) rfl rfl (by kernel_rfl) rfl rfl rfl rfl rfl rfl (.cons .sc .nil)) ?_
     refine rM ?_
     refine rM ?_
     refine d9 (LN rfl rfl rfl) ?_
     refine d9 (M5 10 (e:=3) (sz:=1) (zs:=[.int .i64 0]) (enc:=f9) (if z3 < z6 then z6 else z3) rfl rfl (by kernel_rfl) rfl rfl rfl rfl rfl rfl (.cons .sc .nil)) ?_
     refine d9 (oD [(0,1),(1,1)] [.slice none 0 0,.slice none 0 0]) ?_
     refine rC 2 ?_
     refine bX 9 rfl (K9 rfl) ?_
     refine bX 10 rfl (K9 rfl) ?_
     refine d9 (n9 11 11 true (H9 Tryz.func83) (V3 ([if -40≤(if z6 < z3 then z6 else z3)∧(if z6 < z3 then z6 else z3)≤ -1 then -1 - (if z6 < z3 then z6 else z3) else 0]) ([if z3 < z6 then z6 else z3]) rs fs (by(simp only [List.length_cons,List.length_nil];omega)) (by(simp only [List.length_cons,List.length_nil];omega)) (by(have o3:=hob _ (List.mem_of_getElem? (l:=b) (i:=a3.toNat) (by assumption));have o4:=hob _ (List.mem_of_getElem? (l:=b) (i:=a4.toNat) (by assumption));unfold B7 at o3 o4;(exact RU (by unfold B7;omega)))) (by(have o3:=hob _ (List.mem_of_getElem? (l:=b) (i:=a3.toNat) (by assumption));have o4:=hob _ (List.mem_of_getElem? (l:=b) (i:=a4.toNat) (by assumption));unfold B7 at o3 o4;(exact RU (by unfold B7;omega)))) (by omega) (by omega) (by omega)) rfl (.cons rfl (.agg (.cons .t0 (.cons .t0 .nil))) (.cons rfl (.agg (.cons .t0 (.cons .t0 .nil))) .nil)) rfl rfl rfl) ?_
     refine rM ?_
     refine d9 (D9 rfl rfl rfl rfl) ?_
     refine d9 (D9 rfl rfl rfl rfl) ?_
     refine d9 (F9 11 (zs:=[.slice none 0 0,.slice none 0 0]) rfl rfl (by kernel_rfl) rfl) ?_
     refine rS 2 ?_
     refine rA<|P8 ?_
     refine rC 2 ?_
     refine rS 2 ?_
     refine rA<|c9 ?_
     refine tk Tryz.func34 (X9 2 (.tmp rfl .nil)) ?_ <;>(try clear ih0) <;>(try clear ih1)
     all_goals((have e8:=YR (rs:=rs) (fs:=fs) (a0:=a0) (a1:=a1) (a2:=a2) (a3:=a3) (a4:=a4) (v:=b) (by assumption) (by assumption) hz4 hz7;(have e7:=SU (rs:=rs) (fs:=fs) (a:=z3) (b:=z6) (by omega);(rw [e8.1,e8.2.1,e8.2.2,e7.1,e7.2.1,e7.2.2];rfl))))
   ·
    have g9':=d8 g9
    refine A9 (C9 g9) (fun _=>?_)
    refine d9 (G9 rfl rfl g9 rfl) ?_
    refine c9 ?_
    refine j9 rfl (C9 rfl) (fun _=>?_)
    refine m9<|t9<|rM ?_
    refine rM ?_
    refine d9 (tN rfl rfl rfl) ?_
    refine d9 (n9 9 9 false (H9 Tryz.func82) (o5 (if z6 < z3 then z6 else z3) (by(have o3:=hob _ (List.mem_of_getElem? (l:=b) (i:=a3.toNat) (by assumption));have o4:=hob _ (List.mem_of_getElem? (l:=b) (i:=a4.toNat) (by assumption));unfold B7 at o3 o4;omega)) (by omega)) rfl (.cons rfl (.c .t0) .nil) rfl rfl rfl) ?_
    refine rM ?_
    refine d9 (D9 rfl rfl rfl rfl) ?_
    refine d9 (D9 rfl rfl rfl rfl) ?_
    refine rA ?_
    refine rA<|P8 ?_
    refine rM ?_
    refine d9 (M5 9 (e:=3) (sz:=1) (zs:=[.int .i64 0]) (enc:=f9) (if -40≤(if z6 < z3 then z6 else z3)∧(if z6 < z3 then z6 else z3)≤ -1 then -1 - (if z6 < z3 then z6 else z3) else 0) rfl rfl (by kernel_rfl) rfl rfl rfl rfl rfl rfl (.cons .sc .nil)) ?_
    refine rM ?_
    refine rM ?_
    refine d9 (LN rfl rfl rfl) ?_
    refine d9 (M5 10 (e:=3) (sz:=1) (zs:=[.int .i64 0]) (enc:=f9) (if z3 < z6 then z6 else z3) rfl rfl (by kernel_rfl) rfl rfl rfl rfl rfl rfl (.cons .sc .nil)) ?_
    refine d9 (oD [(0,1),(1,1)] [.slice none 0 0,.slice none 0 0]) ?_
    refine rC 2 ?_
    refine bX 9 rfl (K9 rfl) ?_
    refine bX 10 rfl (K9 rfl) ?_
    refine d9 (n9 11 11 true (H9 Tryz.func83) (V3 ([if -40≤(if z6 < z3 then z6 else z3)∧(if z6 < z3 then z6 else z3)≤ -1 then -1 - (if z6 < z3 then z6 else z3) else 0]) ([if z3 < z6 then z6 else z3]) rs fs (by(simp only [List.length_cons,List.length_nil];omega)) (by(simp only [List.length_cons,List.length_nil];omega)) (by(have o3:=hob _ (List.mem_of_getElem? (l:=b) (i:=a3.toNat) (by assumption));have o4:=hob _ (List.mem_of_getElem? (l:=b) (i:=a4.toNat) (by assumption));unfold B7 at o3 o4;(exact RU (by unfold B7;omega)))) (by(have o3:=hob _ (List.mem_of_getElem? (l:=b) (i:=a3.toNat) (by assumption));have o4:=hob _ (List.mem_of_getElem? (l:=b) (i:=a4.toNat) (by assumption));unfold B7 at o3 o4;(exact RU (by unfold B7;omega)))) (by omega) (by omega) (by omega)) rfl (.cons rfl (.agg (.cons .t0 (.cons .t0 .nil))) (.cons rfl (.agg (.cons .t0 (.cons .t0 .nil))) .nil)) rfl rfl rfl) ?_
    refine rM ?_
    refine d9 (D9 rfl rfl rfl rfl) ?_
    refine d9 (D9 rfl rfl rfl rfl) ?_
    refine d9 (F9 11 (zs:=[.slice none 0 0,.slice none 0 0]) rfl rfl (by kernel_rfl) rfl) ?_
    refine rS 2 ?_
    refine rA<|P8 ?_
    refine rC 2 ?_
    refine rS 2 ?_
    refine rA<|c9 ?_
    refine tk Tryz.func34 (X9 2 (.tmp rfl .nil)) ?_ <;>(try clear ih0) <;>(try clear ih1)
    all_goals((have e8:=YR (rs:=rs) (fs:=fs) (a0:=a0) (a1:=a1) (a2:=a2) (a3:=a3) (a4:=a4) (v:=b) (by assumption) (by assumption) hz4 hz7;(have e7:=SU (rs:=rs) (fs:=fs) (a:=z3) (b:=z6) (by omega);(rw [e8.1,e8.2.1,e8.2.2,e7.1,e7.2.1,e7.2.2];rfl))))
  ·
   have h2':=h2
   refine m9<|t9 ?_
   refine d9 (c7 9 (e:=3) (sz:=1) (zs:=[.int .i64 0]) f9 rfl rfl (by kernel_rfl) rfl) ?_
   refine rM ?_
   refine d9 (o7 9 (e:=3) (sz:=1) (by':=8) rfl (by kernel_rfl) rfl rfl rfl rfl (fun _ _=>⟨_,rfl⟩) (by(simp only [List.length_cons,List.length_nil];omega)) (by(simp only [List.length_cons,List.length_nil];omega))) ?_
   refine rA<|P8 ?_
   refine rC 5 ?_
   refine d9 (n9 10 14 false (H9 Tryz.func84) (O0 a0 a1 a2 a3 a4 (by omega)) rfl (.cons rfl (.agg (.cons .t0 (.cons .t0 (.cons .t0 (.cons .t0 (.cons .t0 .nil)))))) .nil) rfl rfl rfl) ?_
   refine rA<|c9<|k9<|t9 ?_
   refine rA<|c9<|p9 ?_
   refine J9 (fun m=>⟨[(3,some (.c (.ptr 0 0))),(4,some (.c (.ptr 1 0))),(6,some (.c (.ptr 2 0))),(8,some (.c (.ptr 8 0))),(15,some (.c (.own 9))),(16,some (.c (.own 11))),(17,some (.c (.t none (.v (.int .i64 ((m:Int)))))))],[(0,some (.box [.t none (.sl 3 (j8 Y9 f9 U9) rs),.t none (.sl 2 (y9 f9 (x9 1 f9)) fs)])),(1,some (.box [.t none (.sl 2 (y9 f9 (x9 1 f9)) a0),.t none (.sl 2 (y9 f9 (x9 1 f9)) a1),.t none (.v (.bool a2)),.t none (.v (.int .i64 a3)),.t none (.v (.int .i64 a4))])),(2,some (.box [.t none (.v (.slice none 0 0)),.t none (.v (.slice none 0 0))])),(5,some (.row none 95 true 3 (j8 Y9 f9 U9) rs)),(7,some (.row none 64 true 2 (y9 f9 (x9 1 f9)) fs)),(8,some (.box [.own 5,.own 7])),(9,some (.row none 3 true 1 f9 (C1 b ((W4 false (O9 (I9 a0)) (O9 (I9 a1))).take m) (i5 (O9 (l7 (U8 fs))))))),(11,some (.row none 3 true 1 f9 (W4 false (O9 (I9 a0)) (O9 (I9 a1)))))],14⟩:Nat→St) (fun m=>m≤(W4 false (O9 (I9 a0)) (O9 (I9 a1))).length∧i5 (O9 (l7 (U8 fs))) +(m:Int)≤40) (fun m=>(W4 false (O9 (I9 a0)) (O9 (I9 a1))).length - m) 0 ⟨⟨rfl,⟨rfl,⟨rfl,⟨rfl,⟨rfl,⟨rfl,⟨rfl,trivial⟩⟩⟩⟩⟩⟩⟩,⟨rfl,⟨rfl,⟨rfl,⟨rfl,⟨rfl,⟨rfl,⟨rfl,⟨rfl,trivial⟩⟩⟩⟩⟩⟩⟩⟩,rfl⟩ (by exact⟨Nat.zero_le _,by omega⟩) ?_
   rintro m hI ih0
   try dsimp only at hI ih0
   obtain⟨i1,i3⟩:=hI;have ea:f6 rs fs a0 a1 a2 a3 a4 b=true:=(by assumption);have eb:a2=false:=(by assumption);have e5:=X5 ea eb;have eL:=XL ea;have eR:=XR ea eb
   refine k9<|t9<|rM ?_
   refine rM ?_
   refine d9 (A7 rfl rfl rfl rfl) ?_
   refine rB<|c9 ?_
   refine j9 rfl (fun h11=>?_) (fun h11=>?_)
   ·
    have h11':=a8 h11
    refine m9<|k9<|p9<|t9<|rC 2 ?_
    refine d9 (n9 14 14 false (H9 Tryz.func20) (O1 rs fs (by omega) (by omega)) rfl (.cons rfl (.agg (.cons .t0 (.cons .t0 .nil))) .nil) rfl rfl rfl) ?_
    refine rM ?_
    refine rB ?_
    refine rA<|c9<|k9<|t9 ?_
    refine rM ?_
    refine rB<|c9 ?_
    refine j9 rfl (fun h12=>?_) (fun h12=>?_)
    ·
     have h12':=a8 h12
     refine t9<|rC 2 ?_
     refine rS 2 ?_
     refine rA<|c9 ?_
     refine s9 5 rfl (K9 rfl) ?_
     refine s9 7 rfl (K9 rfl) ?_
     refine tk Tryz.func34 (X9 2 (.tmp rfl .nil)) ?_ <;>(try clear ih0) <;>(try clear ih1)
     all_goals((have en:(sQ a0 a1).length=(W4 false (O9 (I9 a0)) (O9 (I9 a1))).length:=rfl;have eN:iO fs=i5 (O9 (l7 (U8 fs))):=rfl;have e8:=fV (rs:=rs) (fs:=fs) (a0:=a0) (a1:=a1) (a2:=a2) (a3:=a3) (a4:=a4) (v:=b) ea eb (fN (by(try simp only [IntKind.wrap_i64] at *);omega));(rw [e8.1,e8.2.1,e8.2.2];rfl)))
    ·
     have h12':=d8 h12
     refine m9 ?_
     refine tD (fun i=>!(Nat.beq i 8)) ?_
     refine dT 0 rfl pM ?_
     refine dT 1 rfl pM ?_
     refine dT 2 rfl pM ?_
     obtain⟨z13,hz14,b15⟩:=v9 (xs:=W4 false (O9 (I9 a0)) (O9 (I9 a1))) (n:=(m:Int)) (by omega) (by omega)
     refine dT 3 rfl (V9 (by kernel_rfl) rfl rfl rfl b15 (f8 b15 hz14)) ?_
     refine dT 4 rfl (M8 (by kernel_rfl) rfl rfl rfl hz14) ?_
     refine dT 5 rfl pM ?_
     refine dO 6 rfl (n9 14 14 false (H9 Tryz.func85) (K2 (IntKind.i64.wrap ((i5 (O9 (l7 (U8 fs)))) +(m:Int))) (by(simp only [IntKind.wrap_i64];omega))) rfl (.cons rfl (.c .t0) .nil) rfl rfl rfl) ?_
     obtain⟨z16,hz17,b18⟩:=v9 (xs:=C1 b ((W4 false (O9 (I9 a0)) (O9 (I9 a1))).take m) (i5 (O9 (l7 (U8 fs))))) (n:=z13) (by(have e2:=eR _ _ (by assumption);(try rw [dY]);omega)) (by(have e2:=eR _ _ (by assumption);(try rw [dY]);omega))
     refine dT 7 rfl (V9 (by kernel_rfl) rfl rfl rfl b18 (f8 b18 hz17)) ?_
     refine dO 8 rfl (F8 (-1 - (IntKind.i64.wrap ((i5 (O9 (l7 (U8 fs)))) +(m:Int)))) (n:=1) (by kernel_rfl) rfl rfl hz17 rfl rfl rfl rfl (.cons .sc .nil) rfl (fun j h1 h2=>by(simp at h1 h2;omega))) ?_
     refine dE ?_
     refine i9<|l9<|rM ?_
     refine rB ?_
     refine rA<|c9 ?_
     refine Z9 ?_ (ih0 (m + 1) (by(try dsimp only);omega) (by(try dsimp only);(simp only [IntKind.wrap_i64] at *;omega)))
     exact⟨⟨rfl,⟨rfl,⟨rfl,⟨rfl,⟨rfl,⟨rfl,⟨(L7 (n8 (by omega) (by omega))),trivial⟩⟩⟩⟩⟩⟩⟩,⟨rfl,⟨rfl,⟨rfl,⟨rfl,⟨rfl,⟨rfl,⟨(Q8 (by rw [n8 (by omega) (by omega)];exact pT hz14)),⟨rfl,trivial⟩⟩⟩⟩⟩⟩⟩⟩,rfl⟩
   ·
    have h11':=d8 h11
    refine N9 rfl<|t9<|rC 2 ?_
    refine d9 (F9 14 (zs:=[.slice none 0 0,.slice none 0 0]) rfl rfl (by kernel_rfl) rfl) ?_
    refine rS 2<|c9<|k9<|t9 ?_
    refine rA<|c9<|p9 ?_
    refine s9 5 rfl (K9 rfl) ?_
    refine s9 7 rfl (K9 rfl) ?_
    refine J9 (fun(n,gs)=>⟨[(4,some (.c (.ptr 1 0))),(6,some (.c (.ptr 2 0))),(8,some (.c (.ptr 8 0))),(15,some (.c (.own 9))),(19,some (.c (.ptr 14 0))),(20,some (.c (.t none (.v (.int .i64 ((n:Int)))))))],[(0,some (.box [.t none (.sl 3 (j8 Y9 f9 U9) rs),.t none (.sl 2 (y9 f9 (x9 1 f9)) fs)])),(1,some (.box [.t none (.sl 2 (y9 f9 (x9 1 f9)) a0),.t none (.sl 2 (y9 f9 (x9 1 f9)) a1),.t none (.v (.bool a2)),.t none (.v (.int .i64 a3)),.t none (.v (.int .i64 a4))])),(2,some (.box [.t none (.v (.slice none 0 0)),.t none (.v (.slice none 0 0))])),(8,some (.box [.t none (.sl 3 (j8 Y9 f9 U9) rs),.t none (.sl 2 (y9 f9 (x9 1 f9)) fs)])),(9,some (.row none 3 true 1 f9 (nY fs a0 a1 b))),(11,some (.row none 3 true 1 f9 (W4 false (O9 (I9 a0)) (O9 (I9 a1))))),(14,some (.box [.t none (.sl 3 (j8 Y9 f9 U9) rs),.t none (.sl 2 (y9 f9 (x9 1 f9)) gs)]))],15⟩:Nat × w9→St) (fun(n,gs)=>n≤a1.length∧gs=E4 fs ((a1.take n).map (FU (nY fs a0 a1 b)))) (fun(n,gs)=>a1.length - n) (0,fs) ⟨⟨rfl,⟨rfl,⟨rfl,⟨rfl,⟨rfl,⟨rfl,trivial⟩⟩⟩⟩⟩⟩,⟨rfl,⟨rfl,⟨rfl,⟨rfl,⟨(Q8 (by rw [List.take_of_length_le (by omega)];rfl)),⟨rfl,⟨rfl,trivial⟩⟩⟩⟩⟩⟩⟩,rfl⟩ (by exact⟨Nat.zero_le _,rfl⟩) ?_
    rintro⟨n,gs⟩ hI ih1
    try dsimp only at hI ih1
    obtain⟨j1,i2⟩:=hI
    refine k9<|t9<|rM ?_
    refine rF 1 ?_
    refine rL ?_
    refine d9 (P9 rfl rfl rfl) ?_
    refine rB<|c9 ?_
    refine j9 rfl (fun h19=>?_) (fun h19=>?_)
    ·
     have h19':=a8 h19
     refine m9<|k9<|p9<|t9<|rF 1 ?_
     refine rL ?_
     refine rM ?_
     obtain⟨z20,hz21,b22⟩:=v9 (xs:=a1) (n:=(n:Int)) (by omega) (by omega)
     refine d9 (Q9 rfl (by kernel_rfl) rfl rfl b22 hz21) ?_
     refine d9 (m6 rfl (n:=2) (by kernel_rfl) (by kernel_rfl) rfl rfl) ?_
     refine rM ?_
     rcases hm23:w6 (nY fs a0 a1 b) z20.2 with _ | q25
     ·
      refine d9 (n9 15 19 false (H9 Tryz.func86) (U5 z20.1 z20.2 (nY fs a0 a1 b) (by(have e1:=X7 (f:=(fun(x:Int ×(List Int))=>x.2.length)) (l:=a1) (m:=n) (by assumption);(try dsimp only at e1);omega)) (by exact hoh _ (D8 (by assumption))) (by omega) _ hm23) rfl (.cons rfl (.agg (.cons .t0 (.cons .t0 .nil))) (.cons rfl (.c (.own rfl)) .nil)) rfl rfl rfl) ?_
      refine rM ?_
      refine d9 (D9 rfl rfl rfl rfl) ?_
      refine d9 (D9 rfl rfl rfl rfl) ?_
      refine d9 (F9 19 (zs:=[.int .i64 0,.slice none 0 0]) rfl rfl (by kernel_rfl) rfl) ?_
      refine rS 2 ?_
      refine rA<|EO ?_
      refine rC 2 ?_
      refine rC 2 ?_
      refine jH 115 1 (sz:=1) f9 rfl rfl ?_
      refine d9 (n9 20 20 true (H9 Tryz.func87) (Y7 rs gs 0 ([]) (by(have e2:=GR i2;omega)) (by(simp only [List.length_cons,List.length_nil];omega))) rfl (.cons rfl (.agg (.cons .t0 (.cons .t0 .nil))) (.cons rfl (.agg (.cons .t0 (.cons .t0 .nil))) .nil)) rfl rfl rfl) ?_
      refine rS 2<|c9<|i9<|l9 ?_
      refine rM ?_
      refine rB ?_
      refine rA<|c9 ?_
      refine Z9 ?_ (ih1 (n + 1,G4 gs (0,([]))) (by(try dsimp only);omega) (by(try dsimp only);exact⟨by omega,by(exact KM i2 hz21 (by assumption))⟩))
      exact⟨⟨rfl,⟨rfl,⟨rfl,⟨rfl,⟨rfl,⟨(L7 (n8 (by omega) (by omega))),trivial⟩⟩⟩⟩⟩⟩,⟨rfl,⟨rfl,⟨rfl,⟨rfl,⟨rfl,⟨rfl,⟨rfl,trivial⟩⟩⟩⟩⟩⟩⟩,rfl⟩
     ·
      refine d9 (n9 15 19 false (H9 Tryz.func86) (U5 z20.1 z20.2 (nY fs a0 a1 b) (by(have e1:=X7 (f:=(fun(x:Int ×(List Int))=>x.2.length)) (l:=a1) (m:=n) (by assumption);(try dsimp only at e1);omega)) (by exact hoh _ (D8 (by assumption))) (by omega) _ hm23) rfl (.cons rfl (.agg (.cons .t0 (.cons .t0 .nil))) (.cons rfl (.c (.own rfl)) .nil)) rfl rfl rfl) ?_
      refine rM ?_
      refine d9 (D9 rfl rfl rfl rfl) ?_
      refine d9 (D9 rfl rfl rfl rfl) ?_
      refine d9 (F9 19 (zs:=[.int .i64 0,.slice none 0 0]) rfl rfl (by kernel_rfl) rfl) ?_
      refine rS 2 ?_
      refine rA<|EO ?_
      refine rC 2 ?_
      refine rC 2 ?_
      refine bX 18 rfl (K9 rfl) ?_
      refine d9 (n9 20 20 true (H9 Tryz.func87) (Y7 rs gs z20.1 q25 (by(have e2:=GR i2;omega)) (by(have e9:=d5 (by assumption);have e1:=X7 (f:=(fun(x:Int ×(List Int))=>x.2.length)) (l:=a1) (m:=n) (by assumption);(try dsimp only at e1);omega))) rfl (.cons rfl (.agg (.cons .t0 (.cons .t0 .nil))) (.cons rfl (.agg (.cons .t0 (.cons .t0 .nil))) .nil)) rfl rfl rfl) ?_
      refine rS 2<|c9<|i9<|l9 ?_
      refine rM ?_
      refine rB ?_
      refine rA<|c9 ?_
      refine Z9 ?_ (ih1 (n + 1,G4 gs (z20.1,q25)) (by(try dsimp only);omega) (by(try dsimp only);exact⟨by omega,by(exact MM i2 hz21 (by assumption))⟩))
      exact⟨⟨rfl,⟨rfl,⟨rfl,⟨rfl,⟨rfl,⟨(L7 (n8 (by omega) (by omega))),trivial⟩⟩⟩⟩⟩⟩,⟨rfl,⟨rfl,⟨rfl,⟨rfl,⟨rfl,⟨rfl,⟨rfl,trivial⟩⟩⟩⟩⟩⟩⟩,rfl⟩
    ·
     have h19':=d8 h19
     refine N9 rfl<|k9<|t9<|rF 1 ?_
     refine rL ?_
     refine d9 (P9 rfl rfl rfl) ?_
     refine rB<|c9 ?_
     refine j9 rfl (fun h26=>?_) (fun h26=>?_)
     ·
      have h26':=a8 h26
      refine t9<|rC 2 ?_
      refine rS 2 ?_
      refine rA<|c9 ?_
      refine tk Tryz.func34 (X9 2 (.tmp rfl .nil)) ?_ <;>(try clear ih0) <;>(try clear ih1)
      all_goals(((have et:gs=vU fs a0 a1 b:=(by rw [i2,List.take_of_length_le (by omega),vR (rX (O4 ea)).1]));have en:(sQ a0 a1).length=(W4 false (O9 (I9 a0)) (O9 (I9 a1))).length:=rfl;have eN:iO fs=i5 (O9 (l7 (U8 fs))):=rfl;(have e8:=fV (rs:=rs) (fs:=fs) (a0:=a0) (a1:=a1) (a2:=a2) (a3:=a3) (a4:=a4) (v:=b) ea eb (by exact eP (by rw [← et];omega));(rw [e8.1,e8.2.1,e8.2.2];rfl))))
     ·
      have h26':=d8 h26
      refine m9<|t9<|rC 2 ?_
      refine d9 (n9 15 20 false (H9 Tryz.func33) (M6 rs gs (by omega) (by(have e2:=GR i2;omega))) rfl (.cons rfl (.agg (.cons .t0 (.cons .t0 .nil))) .nil) rfl rfl rfl) ?_
      refine rS 2 ?_
      refine rA<|c9 ?_
      refine s9 17 rfl (K9 rfl) ?_
      refine s9 19 rfl (K9 rfl) ?_
      refine tk Tryz.func34 (X9 2 (.tmp rfl .nil)) ?_ <;>(try clear ih0) <;>(try clear ih1)
      all_goals(((have et:gs=vU fs a0 a1 b:=(by rw [i2,List.take_of_length_le (by omega),vR (rX (O4 ea)).1]));have en:(sQ a0 a1).length=(W4 false (O9 (I9 a0)) (O9 (I9 a1))).length:=rfl;have eN:iO fs=i5 (O9 (l7 (U8 fs))):=rfl;(have e8:=OQ (rs:=rs) (fs:=fs) (a0:=a0) (a1:=a1) (a2:=a2) (a3:=a3) (a4:=a4) (v:=b) ea eb (CN (by omega) (by rw [← et];omega));(rw [e8.1,e8.2.1,e8.2.2,et];rfl))))
theorem dU (rs:T9)(fs:w9)(ds:List Y1)(hrs:rs.length≤1048576)(hsz:N8 (fun(x:Int ×(List Int))=>x.2.length) fs + N8 (fun(x:(List (Int ×(List Int))) ×(List (Int ×(List Int))) × Bool × Int × Int)=>(N8 (fun(x:Int ×(List Int))=>x.2.length) x.1) +(N8 (fun(x:Int ×(List Int))=>x.2.length) x.2.1)) ds≤1048576)(ho:∀z∈fs,∀x∈z.2,B7 x)(hod:∀d∈ds,∀z∈d.1,∀x∈z.2,B7 x)(hoe:∀d∈ds,∀z∈d.2.1,∀x∈z.2,B7 x):Pu Tryz.prog 8 [.agg [.t none (.sl 3 (j8 Y9 f9 U9) rs),.t none (.sl 2 (y9 f9 (x9 1 f9)) fs)],.c (.t none (.sl 5 (TY (x9 2 (y9 f9 (x9 1 f9))) (x9 2 (y9 f9 (x9 1 f9))) U9 f9 f9) ds))] [] 0 (.tup [(true,[.t none (.sl 3 (j8 Y9 f9 U9) (CU rs fs ds)),.t none (.sl 2 (y9 f9 (x9 1 f9)) (MV rs fs ds))]),(true,[.t none (.v (.int .i64 (P1 rs fs ds))),.t none (.sl 1 f9 (P3 rs fs ds))]),(false,[.t none (.v (.int .i64 (mQ rs fs ds)))])]):=by
 refine S7 Tryz.func8 fun w S=>?_
 have gl:=I8 (f:=(fun(x:(List (Int ×(List Int))) ×(List (Int ×(List Int))) × Bool × Int × Int)=>(N8 (fun(x:Int ×(List Int))=>x.2.length) x.1) +(N8 (fun(x:Int ×(List Int))=>x.2.length) x.2.1))) (l:=ds);have gv:=zT (rs:=rs) (fs:=fs) (ds:=ds);have go:=NO (rs:=rs) (ds:=ds) ho;have gi:B6 rs fs ds=true→0≤P1 rs fs ds∧P1 rs fs ds < ds.length:=MR
 refine t9 ?_
 refine d9 (m8 0 rfl rfl rfl rfl) ?_
 refine d9 (F9 1 (zs:=[.slice none 0 0,.slice none 0 0]) rfl rfl (by kernel_rfl) rfl) ?_
 refine d9 (F9 2 (zs:=[.int .i64 0,.slice none 0 0]) rfl rfl (by kernel_rfl) rfl) ?_
 refine rA<|P8 ?_
 refine rC 2 ?_
 refine rM ?_
 refine KO (MU 3 4 (H9 Tryz.func11) (F2 rs fs ds (by omega) (by omega) (by omega) (by omega) (by omega)) rfl (.cons rfl (.agg (.cons .t0 (.cons .t0 .nil))) (.cons rfl (.c .t0) .nil)) (fun _=>rfl) rfl rfl) fun e1=>?_
 refine rM ?_
 refine d9 (D9 rfl rfl rfl rfl) ?_
 refine d9 (D9 rfl rfl rfl rfl) ?_
 refine d9 (D9 rfl rfl rfl rfl) ?_
 refine rA ?_
 refine rA ?_
 refine rA<|c9<|k9<|t9 ?_
 refine rM ?_
 refine d9 (E8 rfl rfl) ?_
 refine c9 ?_
 refine j9 rfl (fun h2=>?_) (fun h2=>?_)
 ·
  have h2':=(d4 h2)
  refine t9<|rC 2 ?_
  refine d9 (n9 4 9 false (H9 Tryz.func33) (M6 rs fs (by omega) (by omega)) rfl (.cons rfl (.agg (.cons .t0 (.cons .t0 .nil))) .nil) rfl rfl rfl) ?_
  refine d9 (oD [(0,1),(1,1)] [.int .i64 0,.slice none 0 0]) ?_
  refine rS 2 ?_
  refine rS 2 ?_
  refine rA<|c9 ?_
  refine A6 9 (b:=2) (o:=1) (et:=3) (sz:=1) true f9 rfl rfl rfl ?_
  refine s9 6 rfl (K9 rfl) ?_
  refine s9 8 rfl (K9 rfl) ?_
  refine s9 9 rfl (K9 rfl) ?_
  refine tk Tryz.func8 (X9 2 (X9 2 (.tmp rfl .nil))) ?_
  all_goals((have e8:=RT (rs:=rs) (fs:=fs) (ds:=ds) (by assumption);(rw [e8.1,e8.2.1,e8.2.2.1,e8.2.2.2.1,e8.2.2.2.2];rfl)))
 ·
  have h2':=(Y5 h2)
  refine m9<|k9 ?_
  refine tD (fun i=>!(Nat.beq i 11)) ?_
  refine dT 0 rfl (pC 2) ?_
  refine dT 1 rfl pM ?_
  refine dT 2 rfl pM ?_
  obtain⟨z3,hz4,b5⟩:=v9 (xs:=ds) (n:=P1 rs fs ds) (by(have e7:=gi (by assumption);omega)) (by(have e7:=gi (by assumption);omega))
  refine dT 3 rfl (p8 (by kernel_rfl) rfl rfl b5 hz4) ?_
  refine dT 4 rfl (p6 (n:=5) (by kernel_rfl) (by kernel_rfl) rfl rfl) ?_
  refine dT 5 rfl pM ?_
  refine W7 3 rfl (K9 rfl) ?_
  refine H8 6 10 rfl rfl (by kernel_rfl) rfl rfl (n9 4 4 true (H9 Tryz.func34) (Z1 rs fs z3.1 z3.2.1 z3.2.2.1 z3.2.2.2.1 z3.2.2.2.2 (P3 rs fs ds) (by omega) (by(have e1:=kZ (f:=(fun(x:(List (Int ×(List Int))) ×(List (Int ×(List Int))) × Bool × Int × Int)=>(N8 (fun(x:Int ×(List Int))=>x.2.length) x.1) +(N8 (fun(x:Int ×(List Int))=>x.2.length) x.2.1))) (l:=ds) (D8 (by assumption));(try dsimp only at e1);omega)) (by omega) (by exact hod _ (D8 (by assumption))) (by exact hoe _ (D8 (by assumption))) (by omega) (by omega)) rfl (.cons rfl (.agg (.cons .t0 (.cons .t0 .nil))) (.cons rfl (.agg (.cons .t0 (.cons .t0 (.cons .t0 (.cons .t0 (.cons .t0 .nil)))))) (.cons rfl (.c .t0) .nil))) rfl rfl rfl) (F9 4 (zs:=[.slice none 0 0,.slice none 0 0]) rfl rfl (by kernel_rfl) rfl) ?_ ?_
  ·
   refine dT 7 rfl pM ?_
   refine dT 8 rfl (j6 rfl rfl rfl) ?_
   refine H8 9 10 rfl rfl (by kernel_rfl) rfl rfl (D9 rfl rfl rfl rfl) (F9 4 (zs:=[.slice none 0 0,.slice none 0 0]) rfl rfl (by kernel_rfl) rfl) ?_ ?_
   ·
    refine dO 10 rfl (F9 4 (zs:=[.slice none 0 0,.slice none 0 0]) rfl rfl (by kernel_rfl) rfl) ?_
    refine dO 11 rfl (oS 2) ?_
    refine dT 12 rfl pA ?_
    refine dE ?_
    refine t9<|rC 2 ?_
    refine rM ?_
    refine rM ?_
    refine d9 (oD [(0,1),(1,1)] [.int .i64 0,.slice none 0 0]) ?_
    refine rM ?_
    refine rS 2 ?_
    refine rS 2 ?_
    refine rA<|c9 ?_
    refine tk Tryz.func8 (X9 2 (X9 2 (.tmp rfl .nil))) ?_
    all_goals((have e8:=P2 (rs:=rs) (fs:=fs) (ds:=ds) (by assumption) hz4;(rw [e8.1,e8.2.1,e8.2.2];rfl)))
   ·
    refine H8 9 11 rfl rfl (by kernel_rfl) rfl rfl (D9 rfl rfl rfl rfl) (oS 2) ?_ ?_
    ·
     refine dO 11 rfl (oS 2) ?_
     refine dT 12 rfl pA ?_
     refine dE ?_
     refine t9<|rC 2 ?_
     refine rM ?_
     refine rM ?_
     refine d9 (oD [(0,1),(1,1)] [.int .i64 0,.slice none 0 0]) ?_
     refine rM ?_
     refine rS 2 ?_
     refine rS 2 ?_
     refine rA<|c9 ?_
     refine tk Tryz.func8 (X9 2 (X9 2 (.tmp rfl .nil))) ?_
     all_goals((have e8:=P2 (rs:=rs) (fs:=fs) (ds:=ds) (by assumption) hz4;(rw [e8.1,e8.2.1,e8.2.2];rfl)))
    ·
     refine dT 9 rfl (j6 rfl rfl rfl) ?_
     refine dT 12 rfl pA ?_
     refine dE ?_
     refine t9<|rC 2 ?_
     refine rM ?_
     refine rM ?_
     refine d9 (oD [(0,1),(1,1)] [.int .i64 0,.slice none 0 0]) ?_
     refine rM ?_
     refine rS 2 ?_
     refine rS 2 ?_
     refine rA<|c9 ?_
     refine tk Tryz.func8 (X9 2 (X9 2 (.tmp rfl .nil))) ?_
     all_goals((have e8:=P2 (rs:=rs) (fs:=fs) (ds:=ds) (by assumption) hz4;(rw [e8.1,e8.2.1,e8.2.2];rfl)))
  ·
   refine dO 6 rfl (n9 5 5 true (H9 Tryz.func34) (Z1 rs fs z3.1 z3.2.1 z3.2.2.1 z3.2.2.2.1 z3.2.2.2.2 (P3 rs fs ds) (by omega) (by(have e1:=kZ (f:=(fun(x:(List (Int ×(List Int))) ×(List (Int ×(List Int))) × Bool × Int × Int)=>(N8 (fun(x:Int ×(List Int))=>x.2.length) x.1) +(N8 (fun(x:Int ×(List Int))=>x.2.length) x.2.1))) (l:=ds) (D8 (by assumption));(try dsimp only at e1);omega)) (by omega) (by exact hod _ (D8 (by assumption))) (by exact hoe _ (D8 (by assumption))) (by omega) (by omega)) rfl (.cons rfl (.agg (.cons .t0 (.cons .t0 .nil))) (.cons rfl (.agg (.cons .t0 (.cons .t0 (.cons .t0 (.cons .t0 (.cons .t0 .nil)))))) (.cons rfl (.c .t0) .nil))) rfl rfl rfl) ?_
   refine dT 7 rfl pM ?_
   refine dT 8 rfl (j6 rfl rfl rfl) ?_
   refine H8 9 11 rfl rfl (by kernel_rfl) rfl rfl (D9 rfl rfl rfl rfl) (oS 2) ?_ ?_
   ·
    refine dO 11 rfl (oS 2) ?_
    refine dT 12 rfl pA ?_
    refine dE ?_
    refine t9<|rC 2 ?_
    refine rM ?_
    refine rM ?_
    refine d9 (oD [(0,1),(1,1)] [.int .i64 0,.slice none 0 0]) ?_
    refine rM ?_
    refine rS 2 ?_
    refine rS 2 ?_
    refine rA<|c9 ?_
    refine tk Tryz.func8 (X9 2 (X9 2 (.tmp rfl .nil))) ?_
    all_goals((have e8:=P2 (rs:=rs) (fs:=fs) (ds:=ds) (by assumption) hz4;(rw [e8.1,e8.2.1,e8.2.2];rfl)))
   ·
    refine dT 9 rfl (j6 rfl rfl rfl) ?_
    refine dT 12 rfl pA ?_
    refine dE ?_
    refine t9<|rC 2 ?_
    refine rM ?_
    refine rM ?_
    refine d9 (oD [(0,1),(1,1)] [.int .i64 0,.slice none 0 0]) ?_
    refine rM ?_
    refine rS 2 ?_
    refine rS 2 ?_
    refine rA<|c9 ?_
    refine tk Tryz.func8 (X9 2 (X9 2 (.tmp rfl .nil))) ?_
    all_goals((have e8:=P2 (rs:=rs) (fs:=fs) (ds:=ds) (by assumption) hz4;(rw [e8.1,e8.2.1,e8.2.2];rfl)))
theorem bY (p0:List UInt8)(p1:Int)(p2:Bool)(q0:List UInt8)(q1:Int)(q2:Bool):bG Tryz.prog .neq 95 [.string (U6 p0),.int .i64 p1,.bool p2] [.string (U6 q0),.int .i64 q1,.bool q2] (.bool (!(decide ((p0,p1,p2)=(q0,q1,q2))))):=by
 refine⟨rfl,fun x y w=>?_⟩
 have hS:Tryz.prog.underlying 95=some (.struct (Tryz.prog.fieldsOf 95)):=by kernel_rfl
 have hp:Tryz.prog.stoodInHeld 95=false:=by kernel_rfl
 have u3:=Tryz.underlying3;have a3:=Tryz.isAgg3;have z3:=Tryz.sizeOf3;have u4:=Tryz.underlying4;have a4:=Tryz.isAgg4;have z4:=Tryz.sizeOf4;have u9:=Tryz.underlying9;have a9:=Tryz.isAgg9;have z9:=Tryz.sizeOf9
 rw [Sem.run_bind,run_eqGuard_agg w _ _ _ _ _ _ (by kernel_rfl),Result.andThen_ok,run_neq_struct,show(10000:Nat)=9999 + 1 from rfl,run_equalIn_agg w 9999 95 _ _ hS hp]
 simp only [Program.fieldsOf,Tryz.underlying95]
 go_simp
 by_cases h0:p0=q0 <;> by_cases h1:p1=q1 <;> by_cases h2:p2=q2 <;> simp [h0,h1,h2,vW]
theorem uS (a b:T9)(ha:a.length≤1048576)(hb:b.length≤1048576):Pu Tryz.prog 35 [.c (.t none (.sl 3 (j8 Y9 f9 U9) a)),.c (.t none (.sl 3 (j8 Y9 f9 U9) b))] [] 0 (.c (.t none (.v (.bool (decide (a=b)))))):=by
 refine S7 Tryz.func35 fun w S=>?_
 refine t9<|rA<|c9<|k9<|t9 ?_
 refine rM ?_
 refine d9 (P9 rfl rfl rfl) ?_
 refine rM ?_
 refine d9 (P9 rfl rfl rfl) ?_
 refine rB<|c9 ?_
 refine j9 rfl (fun h1=>?_) (fun h1=>?_)
 ·
  have h1':=a8 h1
  refine t9<|rA<|c9 ?_
  refine tk Tryz.func35 (.tmp rfl .nil) ?_ <;>(try clear ih0)
  all_goals(refine K7 ?_;(have:a≠b:=by rintro rfl;simp at *);simp [this])
 ·
  have h1':=d8 h1
  refine m9<|k9<|t9<|rA<|c9<|p9 ?_
  refine J9 (fun m=>⟨[(0,some (.c (.t none (.sl 3 (j8 Y9 f9 U9) a)))),(1,some (.c (.t none (.sl 3 (j8 Y9 f9 U9) b)))),(5,some (.c (.t none (.v (.int .i64 ((m:Int)))))))],[],0⟩:Nat→St) (fun m=>m≤a.length∧a.length=b.length∧a.take m=b.take m) (fun m=>a.length - m) 0 ⟨⟨rfl,⟨rfl,⟨rfl,trivial⟩⟩⟩,trivial,rfl⟩ (by exact⟨Nat.zero_le _,by omega,rfl⟩) ?_
  rintro m hI ih0
  try dsimp only at hI ih0
  obtain⟨i1,i2,i3⟩:=hI
  refine k9<|t9<|rM ?_
  refine rM ?_
  refine d9 (P9 rfl rfl rfl) ?_
  refine rB<|c9 ?_
  refine j9 rfl (fun h2=>?_) (fun h2=>?_)
  ·
   have h2':=a8 h2
   refine m9<|k9<|p9<|k9 ?_
   refine tY ?_
   refine dT 0 rfl pM ?_
   refine dT 1 rfl pM ?_
   obtain⟨z3,hz4,b5⟩:=v9 (xs:=a) (n:=(m:Int)) (by omega) (by omega)
   refine dT 2 rfl (p8 (by kernel_rfl) rfl rfl b5 hz4) ?_
   refine dT 3 rfl (p6 (n:=3) (by kernel_rfl) (by kernel_rfl) rfl rfl) ?_
   refine dT 4 rfl pM ?_
   refine dT 5 rfl pM ?_
   obtain⟨z6,hz7,b8⟩:=v9 (xs:=b) (n:=(m:Int)) (by omega) (by omega)
   refine dT 6 rfl (p8 (by kernel_rfl) rfl rfl b8 hz7) ?_
   refine dT 7 rfl (p6 (n:=3) (by kernel_rfl) (by kernel_rfl) rfl rfl) ?_
   refine dT 8 rfl (xH rfl rfl (bY _ _ _ _ _ _)) ?_
   refine dE ?_
   refine j9 rfl (fun h9=>?_) (fun h9=>?_)
   ·
    have h9':=d8 (d4 h9)
    refine t9<|rA<|c9 ?_
    refine tk Tryz.func35 (.tmp rfl .nil) ?_ <;>(try clear ih0)
    all_goals(refine K7 ?_;have:=MN (a:=a) (b:=b) hz4 hz7 (fun e=>by subst e;simp_all);simp [this])
   ·
    have h9':=a8 (Y5 h9)
    refine m9<|i9<|l9<|rM ?_
    refine rB ?_
    refine rA<|c9 ?_
    refine Z9 ?_ (ih0 (m + 1) (by(try dsimp only);omega) (by(try dsimp only);exact⟨by omega,i2,U0 i3 (YX hz4 hz7 (by assumption))⟩))
    exact⟨⟨rfl,⟨rfl,⟨(L7 (n8 (by omega) (by omega))),trivial⟩⟩⟩,trivial,rfl⟩
  ·
   have h2':=d8 h2
   refine N9 rfl<|t9<|rA<|c9 ?_
   refine tk Tryz.func35 (.tmp rfl .nil) ?_ <;>(try clear ih0)
   all_goals((obtain rfl:m=a.length:=by omega);rw [List.take_length,i2,List.take_length] at i3;refine K7 ?_;simp [i3])
theorem C2 (rs:T9)(fs:w9)(rs2:T9)(fs2:w9)(hrs:rs.length≤1048576)(hfs:N8 (fun(x:Int ×(List Int))=>x.2.length) fs≤1048576)(hrs2:rs2.length≤1048576)(hfs2:N8 (fun(x:Int ×(List Int))=>x.2.length) fs2≤1048576):Pu Tryz.prog 9 [.agg [.t none (.sl 3 (j8 Y9 f9 U9) rs),.t none (.sl 2 (y9 f9 (x9 1 f9)) fs)],.agg [.t none (.sl 3 (j8 Y9 f9 U9) rs2),.t none (.sl 2 (y9 f9 (x9 1 f9)) fs2)]] [] 0 (.c (.t none (.v (.bool (decide (rs=rs2)&&decide (fs=fs2)))))):=by
 refine S7 Tryz.func9 fun w S=>?_
 have gl:=I8 (f:=(fun(x:Int ×(List Int))=>x.2.length)) (l:=fs);have gl2:=I8 (f:=(fun(x:Int ×(List Int))=>x.2.length)) (l:=fs2)
 refine t9 ?_
 refine d9 (m8 0 rfl rfl rfl rfl) ?_
 refine d9 (m8 1 rfl rfl rfl rfl) ?_
 refine rA<|c9<|k9<|t9 ?_
 refine rF 0 ?_
 refine rL ?_
 refine rF 0 ?_
 refine rL ?_
 refine d9 (n9 2 2 false (H9 Tryz.func35) (uS rs rs2 (by omega) (by omega)) rfl (.cons rfl (.c .t0) (.cons rfl (.c .t0) .nil)) rfl rfl rfl) ?_
 refine d9 (E8 rfl rfl) ?_
 refine rM ?_
 refine A9 (fun g1=>?_) (fun g1=>?_)
 ·
  have g1':=a8 (Y5 g1)
  refine rF 1 ?_
  refine A9 (fun _=>?_) (C9 g1)
  refine rL ?_
  refine A9 (fun _=>?_) (C9 g1)
  refine d9 (P9 rfl rfl rfl) ?_
  refine A9 (fun _=>?_) (C9 g1)
  refine rF 1 ?_
  refine A9 (fun _=>?_) (C9 g1)
  refine rL ?_
  refine A9 (fun _=>?_) (C9 g1)
  refine d9 (P9 rfl rfl rfl) ?_
  refine A9 (fun _=>?_) (C9 g1)
  refine rB ?_
  refine d9 (G9 rfl rfl g1 rfl) ?_
  refine c9 ?_
  refine j9 rfl (fun h2=>?_) (fun h2=>?_)
  ·
   have h2':=a8 h2
   refine t9<|rA<|c9 ?_
   refine tk Tryz.func9 (.tmp rfl .nil) ?_ <;>(try clear ih0)
   all_goals(refine K7 ?_;(have e7:fs.length≠fs2.length→¬fs=fs2:=fun h e=>h (by rw [e]));grind)
  ·
   have h2':=d8 h2
   refine m9<|k9<|t9<|rA<|c9<|p9 ?_
   refine J9 (fun m=>⟨[(2,some (.c (.ptr 0 0))),(3,some (.c (.ptr 1 0))),(5,some (.c (.t none (.v (.int .i64 ((m:Int)))))))],[(0,some (.box [.t none (.sl 3 (j8 Y9 f9 U9) rs),.t none (.sl 2 (y9 f9 (x9 1 f9)) fs)])),(1,some (.box [.t none (.sl 3 (j8 Y9 f9 U9) rs2),.t none (.sl 2 (y9 f9 (x9 1 f9)) fs2)]))],2⟩:Nat→St) (fun m=>m≤fs.length∧fs.length=fs2.length∧decide (rs=rs2)=true∧fs.take m=fs2.take m) (fun m=>fs.length - m) 0 ⟨⟨rfl,⟨rfl,⟨rfl,trivial⟩⟩⟩,⟨rfl,⟨rfl,trivial⟩⟩,rfl⟩ (by exact⟨Nat.zero_le _,by grind,by grind,rfl⟩) ?_
   rintro m hI ih0
   try dsimp only at hI ih0
   obtain⟨i1,i2,i4,i3⟩:=hI
   refine k9<|t9<|rM ?_
   refine rF 1 ?_
   refine rL ?_
   refine d9 (P9 rfl rfl rfl) ?_
   refine rB<|c9 ?_
   refine j9 rfl (fun h3=>?_) (fun h3=>?_)
   ·
    have h3':=a8 h3
    refine m9<|k9<|p9<|k9 ?_
    refine tY ?_
    refine dT 0 rfl (pF 1) ?_
    refine dT 1 rfl pL ?_
    refine dT 2 rfl pM ?_
    obtain⟨z4,hz5,b6⟩:=v9 (xs:=fs) (n:=(m:Int)) (by omega) (by omega)
    refine dT 3 rfl (p8 (by kernel_rfl) rfl rfl b6 hz5) ?_
    refine dT 4 rfl (p6 (n:=2) (by kernel_rfl) (by kernel_rfl) rfl rfl) ?_
    refine dT 5 rfl (pF 1) ?_
    refine dT 6 rfl pL ?_
    refine dT 7 rfl pM ?_
    obtain⟨z7,hz8,b9⟩:=v9 (xs:=fs2) (n:=(m:Int)) (by omega) (by omega)
    refine dT 8 rfl (p8 (by kernel_rfl) rfl rfl b9 hz8) ?_
    refine dT 9 rfl (p6 (n:=2) (by kernel_rfl) (by kernel_rfl) rfl rfl) ?_
    refine dO 10 rfl (n9 2 2 false (H9 Tryz.func36) (H5 z4.1 z4.2 z7.1 z7.2 (by(have e1:=X7 (f:=(fun(x:Int ×(List Int))=>x.2.length)) (l:=fs) (m:=m) (by assumption);(try dsimp only at e1);omega)) (by(have e1:=X7 (f:=(fun(x:Int ×(List Int))=>x.2.length)) (l:=fs2) (m:=m) (by assumption);(try dsimp only at e1);omega))) rfl (.cons rfl (.agg (.cons .t0 (.cons .t0 .nil))) (.cons rfl (.agg (.cons .t0 (.cons .t0 .nil))) .nil)) rfl rfl rfl) ?_
    refine dT 11 rfl pB ?_
    refine dE ?_
    refine j9 rfl (fun h10=>?_) (fun h10=>?_)
    ·
     have h10':=a8 h10
     refine t9<|rA<|c9 ?_
     refine tk Tryz.func9 (.tmp rfl .nil) ?_ <;>(try clear ih0)
     all_goals(refine K7 ?_;have e7:=MN (a:=fs) (b:=fs2) hz5 hz8 (fun e=>(by assumption:¬W8 _ _=0) (E3.2 e));simp [e7])
    ·
     have h10':=d8 h10
     refine m9<|i9<|l9<|rM ?_
     refine rB ?_
     refine rA<|c9 ?_
     refine Z9 ?_ (ih0 (m + 1) (by(try dsimp only);omega) (by(try dsimp only);exact⟨by omega,i2,i4,U0 i3 (YX hz5 hz8 (E3.1 (by simp only [Decidable.not_not] at *;assumption)))⟩))
     exact⟨⟨rfl,⟨rfl,⟨(L7 (n8 (by omega) (by omega))),trivial⟩⟩⟩,⟨rfl,⟨rfl,trivial⟩⟩,rfl⟩
   ·
    have h3':=d8 h3
    refine N9 rfl<|t9<|rA<|c9 ?_
    refine tk Tryz.func9 (.tmp rfl .nil) ?_ <;>(try clear ih0)
    all_goals((obtain rfl:m=fs.length:=by omega);rw [List.take_length,i2,List.take_length] at i3;refine K7 ?_;grind)
 ·
  have g1':=d8 (d4 g1)
  refine A9 (nc g1) (fun _=>?_)
  refine A9 (nc g1) (fun _=>?_)
  refine A9 (nc g1) (fun _=>?_)
  refine A9 (nc g1) (fun _=>?_)
  refine A9 (nc g1) (fun _=>?_)
  refine A9 (nc g1) (fun _=>?_)
  refine d9 (M9 rfl rfl g1 rfl) ?_
  refine c9 ?_
  refine j9 rfl (fun _=>?_) (nc rfl)
  refine t9<|rA<|c9 ?_
  refine tk Tryz.func9 (.tmp rfl .nil) ?_ <;>(try clear ih0)
  all_goals(simp_all <;> omega)
theorem HU (a b:List Int)(ha:a.length≤4611686018427387904):Pu Tryz.prog 10 [.c (.t none (.sl 1 f9 a)),.c (.t none (.sl 1 f9 b))] [] 0 (.c (.t none (.v (.bool (decide (a=b)))))):=by
 refine S7 Tryz.func10 fun w S=>?_
 refine t9<|rA<|c9<|k9<|t9 ?_
 refine rM ?_
 refine d9 (P9 rfl rfl rfl) ?_
 refine rM ?_
 refine d9 (P9 rfl rfl rfl) ?_
 refine rB<|c9 ?_
 refine j9 rfl (fun h1=>?_) (fun h1=>?_)
 ·
  have h1':=a8 h1
  refine t9<|rA<|c9 ?_
  refine tk Tryz.func10 (.tmp rfl .nil) ?_ <;>(try clear ih0)
  all_goals((have:a≠b:=by rintro rfl;simp at *);simp [this])
 ·
  have h1':=d8 h1
  refine m9<|k9<|t9<|rA<|c9<|p9 ?_
  refine J9 (fun m=>⟨[(0,some (.c (.t none (.sl 1 f9 a)))),(1,some (.c (.t none (.sl 1 f9 b)))),(5,some (.c (.t none (.v (.int .i64 ((m:Int)))))))],[],0⟩:Nat→St) (fun m=>m≤a.length∧a.length=b.length∧a.take m=b.take m) (fun m=>a.length - m) 0 ⟨⟨rfl,⟨rfl,⟨rfl,trivial⟩⟩⟩,trivial,rfl⟩ (by exact⟨Nat.zero_le _,by omega,rfl⟩) ?_
  rintro m hI ih0
  try dsimp only at hI ih0
  obtain⟨i1,i2,i3⟩:=hI
  refine k9<|t9<|rM ?_
  refine rM ?_
  refine d9 (P9 rfl rfl rfl) ?_
  refine rB<|c9 ?_
  refine j9 rfl (fun h2=>?_) (fun h2=>?_)
  ·
   have h2':=a8 h2
   refine m9<|k9<|p9<|k9 ?_
   refine tY ?_
   refine dT 0 rfl pM ?_
   refine dT 1 rfl pM ?_
   obtain⟨z3,hz4,b5⟩:=v9 (xs:=a) (n:=(m:Int)) (by omega) (by omega)
   refine dT 2 rfl (p8 (by kernel_rfl) rfl rfl b5 hz4) ?_
   refine dT 3 rfl (Y8 (by kernel_rfl) rfl rfl) ?_
   refine dT 4 rfl pM ?_
   refine dT 5 rfl pM ?_
   obtain⟨z6,hz7,b8⟩:=v9 (xs:=b) (n:=(m:Int)) (by omega) (by omega)
   refine dT 6 rfl (p8 (by kernel_rfl) rfl rfl b8 hz7) ?_
   refine dT 7 rfl (Y8 (by kernel_rfl) rfl rfl) ?_
   refine dT 8 rfl pB ?_
   refine dE ?_
   refine j9 rfl (fun h9=>?_) (fun h9=>?_)
   ·
    have h9':=a8 h9
    refine t9<|rA<|c9 ?_
    refine tk Tryz.func10 (.tmp rfl .nil) ?_ <;>(try clear ih0)
    all_goals(have:=MN (a:=a) (b:=b) (by assumption) (by assumption) (by assumption);simp_all)
   ·
    have h9':=d8 h9
    refine m9<|i9<|l9<|rM ?_
    refine rB ?_
    refine rA<|c9 ?_
    refine Z9 ?_ (ih0 (m + 1) (by(try dsimp only);omega) (by(try dsimp only);exact⟨by omega,i2,U0 i3 (YX (by assumption) (by assumption) (by omega))⟩))
    exact⟨⟨rfl,⟨rfl,⟨(L7 (n8 (by omega) (by omega))),trivial⟩⟩⟩,trivial,rfl⟩
  ·
   have h2':=d8 h2
   refine N9 rfl<|t9<|rA<|c9 ?_
   refine tk Tryz.func10 (.tmp rfl .nil) ?_ <;>(try clear ih0)
   all_goals((obtain rfl:m=a.length:=by omega);rw [List.take_length,i2,List.take_length] at i3;simp [i3])
theorem eS (code:List Int)(hc:code.length≤1048576):wK Tryz.prog 92 [.c (.t none (.sl 1 u7 code))] (fun(⟨rs,fs,b,hs,e,lv,rv,i2,h2⟩:T9 × w9 × w9 × w9 × Bool × Int × Int × Int × Int)=>NY rs fs∧R1 (b,hs,e,lv,rv)∧0≤i2∧i2≤code.length) (fun(⟨rs,fs,b,hs,e,lv,rv,i2,h2⟩:T9 × w9 × w9 × w9 × Bool × Int × Int × Int × Int)=>[(2,some (.box [.t none (.sl 1 u7 code),.t none (.v (.int .i64 i2)),.t none (.v (.int .i64 h2))]))]) 3 (fun(⟨rs,fs,b,hs,e,lv,rv,i2,h2⟩:T9 × w9 × w9 × w9 × Bool × Int × Int × Int × Int)=> .tup [(false,[.ptr 2 0]),(true,[.t none (.sl 3 (j8 Y9 f9 U9) rs),.t none (.sl 2 (y9 f9 (x9 1 f9)) fs)]),(true,[.t none (.sl 2 (y9 f9 (x9 1 f9)) b),.t none (.sl 2 (y9 f9 (x9 1 f9)) hs),.t none (.v (.bool e)),.t none (.v (.int .i64 lv)),.t none (.v (.int .i64 rv))])]):=by
 refine P4 Tryz.func92 rfl (Nat.le_of_ble_eq_true rfl) fun w S=>?_
 refine t9<|rA ?_
 refine d9 (F9 0 (zs:=[.slice none 0 0,.slice none 0 0]) rfl rfl (by kernel_rfl) rfl) ?_
 refine d9 (F9 1 (zs:=[.slice none 0 0,.slice none 0 0,.bool false,.int .i64 0,.int .i64 0]) rfl rfl (by kernel_rfl) rfl) ?_
 refine P8<|rM ?_
 refine K8 (R4 2 3 (H9 Tryz.func39) (M3 code (by omega)) rfl (.cons rfl (.c .t0) .nil) rfl rfl) ?_
 rintro⟨h1,hq2⟩
 try dsimp only at hq2
 try dsimp only
 refine rA<|P8 ?_
 refine rM ?_
 refine K8 (o9 2 3 4 (pv:=none) (H9 Tryz.func131) (DX code 0 h1 (by omega) (by omega) (by omega)) rfl rfl (.cur rfl .nil) rfl (fun⟨_,_,_,_⟩=>rfl) (fun _=>rfl) (fun⟨_,_,_,_⟩=>rfl) rfl rfl) ?_
 rintro⟨⟨rs4,fs5,i26,h27⟩,hq8⟩
 try dsimp only at hq8
 try dsimp only
 obtain⟨q9,q10⟩:=hq8
 refine d9 (F9 4 (zs:=[.slice none 0 0,.slice none 0 0]) rfl rfl (by kernel_rfl) rfl) ?_
 refine rS 2<|P8 ?_
 refine rM ?_
 refine K8 (o9 2 5 12 (pv:=none) (H9 Tryz.func154) (PZ code i26 h27 (by omega) (by omega) (by omega)) rfl rfl (.cur rfl .nil) rfl (fun⟨_,_,_,_,_,_,_⟩=>rfl) (fun _=>rfl) (fun⟨_,_,_,_,_,_,_⟩=>rfl) rfl rfl) ?_
 rintro⟨⟨b11,hs12,e13,lv14,rv15,i216,h217⟩,hq18⟩
 try dsimp only at hq18
 try dsimp only
 obtain⟨q19,q20,q21⟩:=hq18
 refine d9 (F9 12 (zs:=[.slice none 0 0,.slice none 0 0,.bool false,.int .i64 0,.int .i64 0]) rfl rfl (by kernel_rfl) rfl) ?_
 refine rS 5<|c9<|k9<|t9 ?_
 refine rM ?_
 refine K8 (o9 2 13 14 (pv:=none) (H9 Tryz.func41) (r9 code i216 h217 16 (by omega) (by omega) (by omega) (by omega) (by omega)) rfl rfl (.cur rfl (.cons rfl .nil)) rfl (fun⟨_,_,_⟩=>rfl) (fun _=>rfl) (fun⟨_,_,_⟩=>rfl) rfl rfl) ?_
 rintro⟨⟨x22,i223,h224⟩,hq25⟩
 try dsimp only at hq25
 try dsimp only
 obtain⟨q26,q27⟩:=hq25
 refine c9<|p9<|t9<|rB ?_
 refine rA<|c9 ?_
 refine j9 rfl (fun h28=>?_) (fun h28=>?_)
 ·
  have h28':=a8 h28
  refine l9<|rM ?_
  refine K8 (o9 2 14 15 (pv:=none) (H9 Tryz.func42) (xY code i223 h224 (by omega) (by omega) (by omega)) rfl rfl (.cur rfl .nil) rfl (fun⟨_,_,_,_⟩=>rfl) (fun _=>rfl) (fun⟨_,_,_,_⟩=>rfl) rfl rfl) ?_
  rintro⟨⟨rs29,fs30,i231,h232⟩,hq33⟩
  try dsimp only at hq33
  try dsimp only
  obtain⟨q34,q35⟩:=hq33
  refine rS 2<|c9<|i9<|k9 ?_
  refine tD (fun i=>!(Nat.beq i 4||Nat.beq i 5)) ?_
  refine dT 0 rfl pM ?_
  refine dT 1 rfl (pC 2) ?_
  refine dT 3 rfl pA ?_
  refine H8 2 4 rfl rfl (by kernel_rfl) rfl rfl (oC 5) (oS 2) ?_ ?_
  ·
   refine dO 4 rfl (oS 2) ?_
   refine dO 5 rfl (oS 5) ?_
   refine dE ?_
   refine s9 10 rfl (K9 rfl) ?_
   refine s9 11 rfl (K9 rfl) ?_
   refine S8 Tryz.func92 (.tmp rfl (X9 2 (X9 5 .nil))) (⟨rs29,fs30,b11,hs12,e13,lv14,rv15,i231,h232⟩) ?_ ?_ (hL:=⟨rfl,trivial⟩)
   ·(try dsimp only) <;>(exact⟨by assumption,by assumption,by omega⟩)
   ·rfl
  ·
   refine dT 2 rfl (pC 5) ?_
   refine dO 5 rfl (oS 5) ?_
   refine dE ?_
   refine s9 10 rfl (K9 rfl) ?_
   refine s9 11 rfl (K9 rfl) ?_
   refine S8 Tryz.func92 (.tmp rfl (X9 2 (X9 5 .nil))) (⟨rs29,fs30,b11,hs12,e13,lv14,rv15,i231,h232⟩) ?_ ?_ (hL:=⟨rfl,trivial⟩)
   ·(try dsimp only) <;>(exact⟨by assumption,by assumption,by omega⟩)
   ·rfl
 ·
  have h28':=d8 h28
  refine t9<|rB ?_
  refine rA<|c9 ?_
  refine j9 rfl (fun h36=>?_) (fun h36=>?_)
  ·
   have h36':=a8 h36
   refine l9<|rM ?_
   refine K8 (o9 2 14 23 (pv:=none) (H9 Tryz.func108) (qV code i223 h224 (by omega) (by omega) (by omega)) rfl rfl (.cur rfl .nil) rfl (fun⟨_,_,_,_,_,_,_⟩=>rfl) (fun _=>rfl) (fun⟨_,_,_,_,_,_,_⟩=>rfl) rfl rfl) ?_
   rintro⟨⟨b37,hs38,e39,lv40,rv41,i242,h243⟩,hq44⟩
   try dsimp only at hq44
   try dsimp only
   obtain⟨q45,q46⟩:=hq44
   refine rS 5<|c9<|i9<|k9 ?_
   refine tD (fun i=>!(Nat.beq i 4||Nat.beq i 5)) ?_
   refine dT 0 rfl pM ?_
   refine dT 1 rfl (pC 2) ?_
   refine dT 3 rfl pA ?_
   refine H8 2 4 rfl rfl (by kernel_rfl) rfl rfl (oC 5) (oS 2) ?_ ?_
   ·
    refine dO 4 rfl (oS 2) ?_
    refine dO 5 rfl (oS 5) ?_
    refine dE ?_
    refine s9 21 rfl (K9 rfl) ?_
    refine s9 22 rfl (K9 rfl) ?_
    refine S8 Tryz.func92 (.tmp rfl (X9 2 (X9 5 .nil))) (⟨rs4,fs5,b37,hs38,e39,lv40,rv41,i242,h243⟩) ?_ ?_ (hL:=⟨rfl,trivial⟩)
    ·(try dsimp only) <;>(exact⟨by assumption,by assumption,by omega⟩)
    ·rfl
   ·
    refine dT 2 rfl (pC 5) ?_
    refine dO 5 rfl (oS 5) ?_
    refine dE ?_
    refine s9 21 rfl (K9 rfl) ?_
    refine s9 22 rfl (K9 rfl) ?_
    refine S8 Tryz.func92 (.tmp rfl (X9 2 (X9 5 .nil))) (⟨rs4,fs5,b37,hs38,e39,lv40,rv41,i242,h243⟩) ?_ ?_ (hL:=⟨rfl,trivial⟩)
    ·(try dsimp only) <;>(exact⟨by assumption,by assumption,by omega⟩)
    ·rfl
  ·
   have h36':=d8 h36
   refine m9<|i9<|k9 ?_
   refine tD (fun i=>!(Nat.beq i 4||Nat.beq i 5)) ?_
   refine dT 0 rfl pM ?_
   refine dT 1 rfl (pC 2) ?_
   refine dT 3 rfl pA ?_
   refine H8 2 4 rfl rfl (by kernel_rfl) rfl rfl (oC 5) (oS 2) ?_ ?_
   ·
    refine dO 4 rfl (oS 2) ?_
    refine dO 5 rfl (oS 5) ?_
    refine dE ?_
    refine s9 10 rfl (K9 rfl) ?_
    refine s9 11 rfl (K9 rfl) ?_
    refine S8 Tryz.func92 (.tmp rfl (X9 2 (X9 5 .nil))) (⟨rs4,fs5,b11,hs12,e13,lv14,rv15,i223,h224⟩) ?_ ?_ (hL:=⟨rfl,trivial⟩)
    ·(try dsimp only) <;>(exact⟨by assumption,by assumption,by omega⟩)
    ·rfl
   ·
    refine dT 2 rfl (pC 5) ?_
    refine dO 5 rfl (oS 5) ?_
    refine dE ?_
    refine s9 10 rfl (K9 rfl) ?_
    refine s9 11 rfl (K9 rfl) ?_
    refine S8 Tryz.func92 (.tmp rfl (X9 2 (X9 5 .nil))) (⟨rs4,fs5,b11,hs12,e13,lv14,rv15,i223,h224⟩) ?_ ?_ (hL:=⟨rfl,trivial⟩)
    ·(try dsimp only) <;>(exact⟨by assumption,by assumption,by omega⟩)
    ·rfl
theorem J7 (code:List Int)(i h:Int)(rs:T9)(fs l:w9)(hc:code.length≤1048576)(hi0:0≤i)(hi1:i≤code.length)(hx:NY rs fs)(hL:∀a∈l,H2 a)(hl4:l.length≤2):vS Tryz.prog 93 [.c (.ptr 0 0),.agg [.t none (.sl 3 (j8 Y9 f9 U9) rs),.t none (.sl 2 (y9 f9 (x9 1 f9)) fs)],.c (.t none (.sl 2 (y9 f9 (x9 1 f9)) l))] [.t none (.sl 1 u7 code),.t none (.v (.int .i64 i)),.t none (.v (.int .i64 h))] (fun(⟨b,i2,h2⟩:(List Int) × Int × Int)=>b.length≤5∧(∀x∈b,B7 x)∧0≤i2∧i2≤code.length) (fun(⟨b,i2,h2⟩:(List Int) × Int × Int)=>[.t none (.sl 1 u7 code),.t none (.v (.int .i64 i2)),.t none (.v (.int .i64 h2))]) (fun(⟨b,i2,h2⟩:(List Int) × Int × Int)=>[]) 1 (fun(⟨b,i2,h2⟩:(List Int) × Int × Int)=> .c (.t none (.sl 1 f9 b))):=by
 refine D7 Tryz.func93 rfl (Nat.le_of_ble_eq_true rfl) fun v0 w S M hM=>?_
 obtain⟨hx1,hx2,hx3,hx4⟩:=hx;have s1:=s0 hx4;have s2:=pU hL;have s3:=bV hx4;have s4:=jR (rs:=rs) hx3 hl4;have s5:∀r∈T7 rs fs l,r.length≤5∧∀x∈r,B7 x:=fun r hr=>⟨Nat.le_of_eq (qY hr),dX s3 hr⟩
 refine t9 ?_
 refine d9 (m8 1 rfl rfl rfl rfl) ?_
 refine rA<|P8 ?_
 refine rC 2 ?_
 refine rM ?_
 refine d9 (n9 2 4 false (H9 Tryz.func91) (fZ rs fs l (by omega) (by omega) (by omega) (by omega)) rfl (.cons rfl (.agg (.cons .t0 (.cons .t0 .nil))) (.cons rfl (.c .t0) .nil)) rfl rfl rfl) ?_
 refine rA<|c9<|k9<|t9 ?_
 refine rM ?_
 refine d9 (A7 rfl rfl rfl rfl) ?_
 refine rB ?_
 refine rM ?_
 refine A9 (fun g1=>?_) (fun g1=>?_)
 ·
  have g1':=a8 g1
  refine rM ?_
  refine A9 (fun _=>?_) (nc g1)
  refine K8 (o9 0 4 5 (pv:=some v0) (H9 Tryz.func57) (K6 code i h 4 (by omega) (by omega) (by omega) (by omega) (by omega)) rfl rfl (.cur rfl (.cons rfl .nil)) rfl (fun⟨_,_,_⟩=>rfl) (fun _=>rfl) (fun⟨_,_,_⟩=>rfl) rfl rfl) ?_
  rintro⟨⟨b2,i23,h24⟩,hq5⟩
  try dsimp only at hq5
  try dsimp only
  refine A9 (fun _=>?_) (nc g1)
  refine d9 (E8 rfl rfl) ?_
  refine d9 (M9 rfl rfl g1 rfl) ?_
  refine c9 ?_
  refine j9 rfl (fun h7=>?_) (fun h7=>?_)
  ·
   have h7':=(d4 h7)
   refine t9<|rM ?_
   refine rM ?_
   refine rM ?_
   refine d9 (A7 rfl rfl rfl rfl) ?_
   refine K8 (o9 0 5 6 (pv:=some v0) (H9 Tryz.func41) (r9 code i23 h24 (((T7 rs fs l).length:Int)) (by omega) (by omega) (by omega) (by omega) (by omega)) rfl rfl (.cur rfl (.cons rfl .nil)) rfl (fun⟨_,_,_⟩=>rfl) (fun _=>rfl) (fun⟨_,_,_⟩=>rfl) rfl rfl) ?_
   rintro⟨⟨x8,i29,h210⟩,hq11⟩
   try dsimp only at hq11
   try dsimp only
   obtain⟨q12,q13⟩:=hq11
   obtain⟨z14,hz15,b16⟩:=v9 (xs:=T7 rs fs l) (n:=x8) (by omega) (by omega)
   refine d9 (o8 rfl (by kernel_rfl) rfl rfl rfl b16 (f8 b16 hz15)) ?_
   refine d9 (t8 rfl (by kernel_rfl) rfl rfl rfl hz15) ?_
   refine rA<|c9 ?_
   refine s9 3 rfl (c8 (i:=3) hM rfl rfl rfl) ?_
   refine S8 Tryz.func93 (.tmp rfl .nil) (⟨z14,i29,h210⟩) ?_ ?_ (hL:=⟨rfl,trivial⟩) <;>(try clear ih0)
   ·(try dsimp only) <;>((exact⟨(s5 _ (D8 (by assumption))).1,(s5 _ (D8 (by assumption))).2,by omega⟩))
   ·rfl
  ·
   have h7':=(Y5 h7)
   refine m9<|t9 ?_
   refine d9 (c7 5 (e:=3) (sz:=1) (zs:=[.int .i64 0]) f9 rfl rfl (by kernel_rfl) rfl) ?_
   refine rA<|c9<|k9<|p9 ?_
   refine J9 (fun(b,i3,h3)=>⟨[(0,some (.c (.ptr 0 0))),(6,some (.c (.t none (.v (.slice none 0 0))))),(8,some (.c (.own 5)))],[(0,some (.pbox v0 [.t none (.sl 1 u7 code),.t none (.v (.int .i64 i3)),.t none (.v (.int .i64 h3))])),(1,some (.box [.t none (.sl 3 (j8 Y9 f9 U9) rs),.t none (.sl 2 (y9 f9 (x9 1 f9)) fs)])),(3,some (.row none 31 true 1 (x9 1 f9) (T7 rs fs l))),(5,some (.row none 3 true 1 f9 b))],6⟩:List Int × Int × Int→St) (fun(b,i3,h3)=>b.length≤5∧(∀x∈b,B7 x)∧(0≤i3∧i3≤code.length)) (fun(b,i3,h3)=>5 - b.length) ([],i23,h24) ⟨⟨rfl,⟨rfl,⟨rfl,trivial⟩⟩⟩,⟨rfl,⟨rfl,⟨rfl,⟨rfl,trivial⟩⟩⟩⟩,rfl⟩ (by exact⟨by simp,fun x hx=>by simp at hx,by omega⟩) ?_
   rintro⟨b,i3,h3⟩ hI ih0
   try dsimp only at hI ih0
   obtain⟨j1,j2,j3⟩:=hI
   refine k9<|t9<|rM ?_
   refine d9 (A7 rfl rfl rfl rfl) ?_
   refine rM ?_
   refine K8 (o9 0 6 7 (pv:=some v0) (H9 Tryz.func41) (r9 code i3 h3 12 (by omega) (by omega) (by omega) (by omega) (by omega)) rfl rfl (.cur rfl (.cons rfl .nil)) rfl (fun⟨_,_,_⟩=>rfl) (fun _=>rfl) (fun⟨_,_,_⟩=>rfl) rfl rfl) ?_
   rintro⟨⟨x17,i218,h219⟩,hq20⟩
   try dsimp only at hq20
   try dsimp only
   obtain⟨q21,q22⟩:=hq20
   refine d9 (U1 rfl rfl rfl (bL rfl (by omega))) ?_
   refine rB ?_
   refine rB<|c9 ?_
   refine j9 rfl (fun h23=>?_) (fun h23=>?_)
   ·
    have h23':=a8 h23
    refine m9<|p9<|l9<|rM ?_
    refine rM ?_
    refine d9 (w8 7 (e:=3) (sz:=1) (zs:=[.int .i64 0]) rfl rfl (by kernel_rfl) rfl rfl rfl rfl rfl) ?_
    refine QV 7 (enc:=f9) ([10,10,0,1,2, -1, -2]) rfl (.cons (.cons (.cons (.cons (.cons (.cons (.cons .nil))))))) (c8 (i:=7) hM rfl rfl rfl) ?_
    refine K8 (o9 0 8 9 (pv:=some v0) (H9 Tryz.func155) (l8 code i218 h219 ([10,10,0,1,2, -1, -2]) (by omega) (by omega) (by omega) (by(simp only [List.length_cons,List.length_nil];omega)) (by(simp only [List.length_cons,List.length_nil];omega))) rfl rfl (.cur rfl (.cons rfl .nil)) rfl (fun⟨_,_,_⟩=>rfl) (fun _=>rfl) (fun⟨_,_,_⟩=>rfl) rfl rfl) ?_
    rintro⟨⟨x24,i225,h226⟩,hq27⟩
    try dsimp only at hq27
    try dsimp only
    obtain⟨q28,q29⟩:=hq27
    refine d9 (w8 9 (e:=3) (sz:=1) (zs:=[.int .i64 0]) rfl rfl (by kernel_rfl) rfl rfl rfl rfl rfl) ?_
    refine d9 (W9 5 (e:=3) (sz:=1) (by':=8) x24 rfl (by kernel_rfl) rfl rfl rfl rfl rfl rfl (.cons .sc .nil) rfl (by omega) (by omega)) ?_
    refine rA<|c9<|i9 ?_
    refine Z9 ?_ (ih0 (b++[x24],i225,h226) (by(try dsimp only);(simp only [List.length_append,List.length_singleton,IntKind.wrap_i64] at *;omega)) (by(try dsimp only);exact⟨(by simp only [List.length_append,List.length_singleton,IntKind.wrap_i64] at *;omega),d7 j2 (FI (by assumption)),by omega⟩))
    exact⟨⟨rfl,⟨rfl,⟨rfl,trivial⟩⟩⟩,⟨rfl,⟨rfl,⟨rfl,⟨rfl,trivial⟩⟩⟩⟩,rfl⟩
   ·
    have h23':=d8 h23
    refine N9 rfl<|t9<|rM ?_
    refine rA<|c9 ?_
    refine s9 5 rfl (c8 (i:=5) hM rfl rfl rfl) ?_
    refine S8 Tryz.func93 (.tmp rfl .nil) (⟨b,i218,h219⟩) ?_ ?_ (hL:=⟨rfl,trivial⟩) <;>(try clear ih0)
    ·(try dsimp only) <;>((exact⟨j1,j2,by omega⟩))
    ·rfl
 ·
  have g1':=d8 g1
  refine A9 (C9 g1) (fun _=>?_)
  refine A9 (C9 g1) (fun _=>?_)
  refine d9 (G9 rfl rfl g1 rfl) ?_
  refine c9 ?_
  refine j9 rfl (C9 rfl) (fun _=>?_)
  refine m9<|t9 ?_
  refine d9 (c7 4 (e:=3) (sz:=1) (zs:=[.int .i64 0]) f9 rfl rfl (by kernel_rfl) rfl) ?_
  refine rA<|c9<|k9<|p9 ?_
  refine J9 (fun(b,i3,h3)=>⟨[(0,some (.c (.ptr 0 0))),(6,some (.c (.t none (.v (.slice none 0 0))))),(8,some (.c (.own 4)))],[(0,some (.pbox v0 [.t none (.sl 1 u7 code),.t none (.v (.int .i64 i3)),.t none (.v (.int .i64 h3))])),(1,some (.box [.t none (.sl 3 (j8 Y9 f9 U9) rs),.t none (.sl 2 (y9 f9 (x9 1 f9)) fs)])),(3,some (.row none 31 true 1 (x9 1 f9) (T7 rs fs l))),(4,some (.row none 3 true 1 f9 b))],5⟩:List Int × Int × Int→St) (fun(b,i3,h3)=>b.length≤5∧(∀x∈b,B7 x)∧(0≤i3∧i3≤code.length)) (fun(b,i3,h3)=>5 - b.length) ([],i,h) ⟨⟨rfl,⟨rfl,⟨rfl,trivial⟩⟩⟩,⟨rfl,⟨rfl,⟨rfl,⟨rfl,trivial⟩⟩⟩⟩,rfl⟩ (by exact⟨by simp,fun x hx=>by simp at hx,by omega⟩) ?_
  rintro⟨b,i3,h3⟩ hI ih0
  try dsimp only at hI ih0
  obtain⟨j1,j2,j3⟩:=hI
  refine k9<|t9<|rM ?_
  refine d9 (A7 rfl rfl rfl rfl) ?_
  refine rM ?_
  refine K8 (o9 0 5 6 (pv:=some v0) (H9 Tryz.func41) (r9 code i3 h3 12 (by omega) (by omega) (by omega) (by omega) (by omega)) rfl rfl (.cur rfl (.cons rfl .nil)) rfl (fun⟨_,_,_⟩=>rfl) (fun _=>rfl) (fun⟨_,_,_⟩=>rfl) rfl rfl) ?_
  rintro⟨⟨x30,i231,h232⟩,hq33⟩
  try dsimp only at hq33
  try dsimp only
  obtain⟨q34,q35⟩:=hq33
  refine d9 (U1 rfl rfl rfl (bL rfl (by omega))) ?_
  refine rB ?_
  refine rB<|c9 ?_
  refine j9 rfl (fun h36=>?_) (fun h36=>?_)
  ·
   have h36':=a8 h36
   refine m9<|p9<|l9<|rM ?_
   refine rM ?_
   refine d9 (w8 6 (e:=3) (sz:=1) (zs:=[.int .i64 0]) rfl rfl (by kernel_rfl) rfl rfl rfl rfl rfl) ?_
   refine QV 6 (enc:=f9) ([10,10,0,1,2, -1, -2]) rfl (.cons (.cons (.cons (.cons (.cons (.cons (.cons .nil))))))) (c8 (i:=6) hM rfl rfl rfl) ?_
   refine K8 (o9 0 7 8 (pv:=some v0) (H9 Tryz.func155) (l8 code i231 h232 ([10,10,0,1,2, -1, -2]) (by omega) (by omega) (by omega) (by(simp only [List.length_cons,List.length_nil];omega)) (by(simp only [List.length_cons,List.length_nil];omega))) rfl rfl (.cur rfl (.cons rfl .nil)) rfl (fun⟨_,_,_⟩=>rfl) (fun _=>rfl) (fun⟨_,_,_⟩=>rfl) rfl rfl) ?_
   rintro⟨⟨x37,i238,h239⟩,hq40⟩
   try dsimp only at hq40
   try dsimp only
   obtain⟨q41,q42⟩:=hq40
   refine d9 (w8 8 (e:=3) (sz:=1) (zs:=[.int .i64 0]) rfl rfl (by kernel_rfl) rfl rfl rfl rfl rfl) ?_
   refine d9 (W9 4 (e:=3) (sz:=1) (by':=8) x37 rfl (by kernel_rfl) rfl rfl rfl rfl rfl rfl (.cons .sc .nil) rfl (by omega) (by omega)) ?_
   refine rA<|c9<|i9 ?_
   refine Z9 ?_ (ih0 (b++[x37],i238,h239) (by(try dsimp only);(simp only [List.length_append,List.length_singleton,IntKind.wrap_i64] at *;omega)) (by(try dsimp only);exact⟨(by simp only [List.length_append,List.length_singleton,IntKind.wrap_i64] at *;omega),d7 j2 (FI (by assumption)),by omega⟩))
   exact⟨⟨rfl,⟨rfl,⟨rfl,trivial⟩⟩⟩,⟨rfl,⟨rfl,⟨rfl,⟨rfl,trivial⟩⟩⟩⟩,rfl⟩
  ·
   have h36':=d8 h36
   refine N9 rfl<|t9<|rM ?_
   refine rA<|c9 ?_
   refine s9 4 rfl (c8 (i:=4) hM rfl rfl rfl) ?_
   refine S8 Tryz.func93 (.tmp rfl .nil) (⟨b,i231,h232⟩) ?_ ?_ (hL:=⟨rfl,trivial⟩) <;>(try clear ih0)
   ·(try dsimp only) <;>((exact⟨j1,j2,by omega⟩))
   ·rfl
theorem SZ (code:List Int)(hc:code.length≤1048576):wK Tryz.prog 40 [.c (.t none (.sl 1 u7 code))] (fun(⟨rs,fs,b,hs,e,lv,rv,v⟩:T9 × w9 × w9 × w9 × Bool × Int × Int ×(List Int))=>NY rs fs∧R1 (b,hs,e,lv,rv)∧v.length≤5∧(∀x∈v,B7 x)) (fun(⟨rs,fs,b,hs,e,lv,rv,v⟩:T9 × w9 × w9 × w9 × Bool × Int × Int ×(List Int))=>[]) 0 (fun(⟨rs,fs,b,hs,e,lv,rv,v⟩:T9 × w9 × w9 × w9 × Bool × Int × Int ×(List Int))=> .tup [(true,[.t none (.sl 3 (j8 Y9 f9 U9) rs),.t none (.sl 2 (y9 f9 (x9 1 f9)) fs)]),(true,[.t none (.sl 2 (y9 f9 (x9 1 f9)) b),.t none (.sl 2 (y9 f9 (x9 1 f9)) hs),.t none (.v (.bool e)),.t none (.v (.int .i64 lv)),.t none (.v (.int .i64 rv))]),(false,[.t none (.sl 1 f9 v)])]):=by
 refine P4 Tryz.func40 rfl (Nat.le_of_ble_eq_true rfl) fun w S=>?_
 refine t9 ?_
 refine d9 (F9 0 (zs:=[.slice none 0 0,.slice none 0 0]) rfl rfl (by kernel_rfl) rfl) ?_
 refine d9 (F9 1 (zs:=[.slice none 0 0,.slice none 0 0,.bool false,.int .i64 0,.int .i64 0]) rfl rfl (by kernel_rfl) rfl) ?_
 refine rA<|P8 ?_
 refine rM ?_
 refine K8 (R4 2 5 (H9 Tryz.func92) (eS code (by omega)) rfl (.cons rfl (.c .t0) .nil) rfl rfl) ?_
 rintro⟨⟨rs1,fs2,b3,hs4,e5,lv6,rv7,i28,h29⟩,hq10⟩
 try dsimp only at hq10
 try dsimp only
 obtain⟨q11,q12,q13⟩:=hq10
 have hx0:NY rs1 fs2:=(by assumption);obtain⟨hx1,hx2,hx3,hx4⟩:=hx0;have xs1:=s0 hx4;have xs3:=bV hx4;have dd:R1 (b3,hs4,e5,lv6,rv7):=(by assumption);have ds1:=pU dd.2.2.1;have ds2:=pU dd.2.2.2.1;have ds3:=dd.1;have ds4:=dd.2.1;have ds5:=dd.2.2.2.2;(try dsimp only at ds1 ds2 ds3 ds4 ds5);have do1:=IX dd.2.2.1;have do2:=IX dd.2.2.2.1;have a121:(N6 rs1 fs2 b3 hs4 e5 lv6 rv7).length≤121:=oK hx3 dd.1.2;have s5:∀r∈N6 rs1 fs2 b3 hs4 e5 lv6 rv7,r.length≤5∧∀x∈r,B7 x:=(fun r hr=>⟨Nat.le_of_eq (JX hr).2,dX xs3 (JX hr).1⟩)
 refine rM ?_
 refine d9 (D9 rfl rfl rfl rfl) ?_
 refine d9 (D9 rfl rfl rfl rfl) ?_
 refine d9 (D9 rfl rfl rfl rfl) ?_
 refine d9 (F9 5 (zs:=[.slice none 0 0,.slice none 0 0]) rfl rfl (by kernel_rfl) rfl) ?_
 refine d9 (F9 6 (zs:=[.slice none 0 0,.slice none 0 0,.bool false,.int .i64 0,.int .i64 0]) rfl rfl (by kernel_rfl) rfl) ?_
 refine rA ?_
 refine rS 2 ?_
 refine rS 5<|P8 ?_
 refine rC 2 ?_
 refine rC 5 ?_
 refine d9 (n9 7 10 false (H9 Tryz.func38) (Z3 rs1 fs2 b3 hs4 e5 lv6 rv7 (by omega) (by omega) (by omega) (by omega) (by omega)) rfl (.cons rfl (.agg (.cons .t0 (.cons .t0 .nil))) (.cons rfl (.agg (.cons .t0 (.cons .t0 (.cons .t0 (.cons .t0 (.cons .t0 .nil)))))) .nil)) rfl rfl rfl) ?_
 refine rA<|c9<|k9<|t9 ?_
 refine rM ?_
 refine d9 (A7 rfl rfl rfl rfl) ?_
 refine rB ?_
 refine rM ?_
 refine A9 (fun g14=>?_) (fun g14=>?_)
 ·
  have g14':=a8 g14
  refine rM ?_
  refine A9 (fun _=>?_) (nc g14)
  refine K8 (o9 4 10 11 (pv:=none) (H9 Tryz.func57) (K6 code i28 h29 4 (by omega) (by omega) (by omega) (by omega) (by omega)) rfl rfl (.cur rfl (.cons rfl .nil)) rfl (fun⟨_,_,_⟩=>rfl) (fun _=>rfl) (fun⟨_,_,_⟩=>rfl) rfl rfl) ?_
  rintro⟨⟨b15,i216,h217⟩,hq18⟩
  try dsimp only at hq18
  try dsimp only
  refine A9 (fun _=>?_) (nc g14)
  refine d9 (E8 rfl rfl) ?_
  refine d9 (M9 rfl rfl g14 rfl) ?_
  refine c9 ?_
  refine j9 rfl (fun h20=>?_) (fun h20=>?_)
  ·
   have h20':=(d4 h20)
   refine k9 ?_
   refine tD (fun i=>!(Nat.beq i 6||Nat.beq i 9||Nat.beq i 10)) ?_
   refine V8 2 rfl rfl (by kernel_rfl) (by kernel_rfl) (by kernel_rfl) (G5 rfl) ?_
   refine dT 3 rfl pM ?_
   refine dT 4 rfl pM ?_
   refine dT 5 rfl (LZ rfl rfl rfl) ?_
   refine J1 0 1 6 rfl rfl rfl (by kernel_rfl) rfl rfl rfl (N4 (oC 2)) (N4 (oC 5)) (o9 4 11 12 (pv:=none) (H9 Tryz.func41) (r9 code i216 h217 (((N6 rs1 fs2 b3 hs4 e5 lv6 rv7).length:Int)) (by omega) (by omega) (by omega) (by omega) (by omega)) rfl rfl (.cur rfl (.cons rfl .nil)) rfl (fun⟨_,_,_⟩=>rfl) (fun _=>rfl) (fun⟨_,_,_⟩=>rfl) rfl rfl) ?_ ?_ ?_
   ·
    rintro⟨⟩
    refine G8 1 6 rfl rfl (by kernel_rfl) rfl rfl (N4 (oC 5)) (o9 4 11 12 (pv:=none) (H9 Tryz.func41) (r9 code i216 h217 (((N6 rs1 fs2 b3 hs4 e5 lv6 rv7).length:Int)) (by omega) (by omega) (by omega) (by omega) (by omega)) rfl rfl (.cur rfl (.cons rfl .nil)) rfl (fun⟨_,_,_⟩=>rfl) (fun _=>rfl) (fun⟨_,_,_⟩=>rfl) rfl rfl) ?_ ?_
    ·
     rintro⟨⟩
     refine J0 6 rfl (o9 4 11 12 (pv:=none) (H9 Tryz.func41) (r9 code i216 h217 (((N6 rs1 fs2 b3 hs4 e5 lv6 rv7).length:Int)) (by omega) (by omega) (by omega) (by omega) (by omega)) rfl rfl (.cur rfl (.cons rfl .nil)) rfl (fun⟨_,_,_⟩=>rfl) (fun _=>rfl) (fun⟨_,_,_⟩=>rfl) rfl rfl) ?_
     rintro⟨⟨x33,i234,h235⟩,hq36⟩
     try dsimp only at hq36
     try dsimp only
     obtain⟨q37,q38⟩:=hq36
     obtain⟨z39,hz40,b41⟩:=v9 (xs:=N6 rs1 fs2 b3 hs4 e5 lv6 rv7) (n:=x33) (by omega) (by omega)
     refine H8 7 9 rfl rfl (by kernel_rfl) rfl rfl (o8 rfl (by kernel_rfl) rfl rfl rfl b41 (f8 b41 hz40)) (oS 2) ?_ ?_
     ·
      refine H8 8 9 rfl rfl (by kernel_rfl) rfl rfl (t8 rfl (by kernel_rfl) rfl rfl rfl hz40) (oS 2) ?_ ?_
      ·
       refine dO 9 rfl (oS 2) ?_
       refine dO 10 rfl (oS 5) ?_
       refine dT 11 rfl pA ?_
       refine dE ?_
       refine s9 9 rfl (K9 rfl) ?_
       refine S8 Tryz.func40 (X9 2 (X9 5 (.tmp rfl .nil))) (⟨rs1,fs2,b3,hs4,e5,lv6,rv7,z39⟩) ?_ ?_
       ·(try dsimp only) <;>((exact⟨by assumption,by assumption,(s5 _ (D8 (by assumption))).1,(s5 _ (D8 (by assumption))).2⟩))
       ·rfl
      ·
       refine H8 8 10 rfl rfl (by kernel_rfl) rfl rfl (t8 rfl (by kernel_rfl) rfl rfl rfl hz40) (oS 5) ?_ ?_
       ·
        refine dO 10 rfl (oS 5) ?_
        refine dT 11 rfl pA ?_
        refine dE ?_
        refine s9 9 rfl (K9 rfl) ?_
        refine S8 Tryz.func40 (X9 2 (X9 5 (.tmp rfl .nil))) (⟨rs1,fs2,b3,hs4,e5,lv6,rv7,z39⟩) ?_ ?_
        ·(try dsimp only) <;>((exact⟨by assumption,by assumption,(s5 _ (D8 (by assumption))).1,(s5 _ (D8 (by assumption))).2⟩))
        ·rfl
       ·
        refine dT 8 rfl (M8 (by kernel_rfl) rfl rfl rfl hz40) ?_
        refine dT 11 rfl pA ?_
        refine dE ?_
        refine s9 9 rfl (K9 rfl) ?_
        refine S8 Tryz.func40 (X9 2 (X9 5 (.tmp rfl .nil))) (⟨rs1,fs2,b3,hs4,e5,lv6,rv7,z39⟩) ?_ ?_
        ·(try dsimp only) <;>((exact⟨by assumption,by assumption,(s5 _ (D8 (by assumption))).1,(s5 _ (D8 (by assumption))).2⟩))
        ·rfl
     ·
      obtain⟨z42,hz43,b44⟩:=v9 (xs:=N6 rs1 fs2 b3 hs4 e5 lv6 rv7) (n:=x33) (by omega) (by omega)
      refine H8 7 10 rfl rfl (by kernel_rfl) rfl rfl (o8 rfl (by kernel_rfl) rfl rfl rfl b44 (f8 b44 hz43)) (oS 5) ?_ ?_
      ·
       refine H8 8 10 rfl rfl (by kernel_rfl) rfl rfl (t8 rfl (by kernel_rfl) rfl rfl rfl hz43) (oS 5) ?_ ?_
       ·
        refine dO 10 rfl (oS 5) ?_
        refine dT 11 rfl pA ?_
        refine dE ?_
        refine s9 9 rfl (K9 rfl) ?_
        refine S8 Tryz.func40 (X9 2 (X9 5 (.tmp rfl .nil))) (⟨rs1,fs2,b3,hs4,e5,lv6,rv7,z42⟩) ?_ ?_
        ·(try dsimp only) <;>((exact⟨by assumption,by assumption,(s5 _ (D8 (by assumption))).1,(s5 _ (D8 (by assumption))).2⟩))
        ·rfl
       ·
        refine dT 8 rfl (M8 (by kernel_rfl) rfl rfl rfl hz43) ?_
        refine dT 11 rfl pA ?_
        refine dE ?_
        refine s9 9 rfl (K9 rfl) ?_
        refine S8 Tryz.func40 (X9 2 (X9 5 (.tmp rfl .nil))) (⟨rs1,fs2,b3,hs4,e5,lv6,rv7,z42⟩) ?_ ?_
        ·(try dsimp only) <;>((exact⟨by assumption,by assumption,(s5 _ (D8 (by assumption))).1,(s5 _ (D8 (by assumption))).2⟩))
        ·rfl
      ·
       obtain⟨z45,hz46,b47⟩:=v9 (xs:=N6 rs1 fs2 b3 hs4 e5 lv6 rv7) (n:=x33) (by omega) (by omega)
       refine dT 7 rfl (V9 (by kernel_rfl) rfl rfl rfl b47 (f8 b47 hz46)) ?_
       refine dT 8 rfl (M8 (by kernel_rfl) rfl rfl rfl hz46) ?_
       refine dT 11 rfl pA ?_
       refine dE ?_
       refine s9 9 rfl (K9 rfl) ?_
       refine S8 Tryz.func40 (X9 2 (X9 5 (.tmp rfl .nil))) (⟨rs1,fs2,b3,hs4,e5,lv6,rv7,z45⟩) ?_ ?_
       ·(try dsimp only) <;>((exact⟨by assumption,by assumption,(s5 _ (D8 (by assumption))).1,(s5 _ (D8 (by assumption))).2⟩))
       ·rfl
    ·
     rintro⟨⟨x27,i228,h229⟩,hq30⟩
     try dsimp only at hq30
     try dsimp only
     obtain⟨q31,q32⟩:=hq30
     obtain⟨z48,hz49,b50⟩:=v9 (xs:=N6 rs1 fs2 b3 hs4 e5 lv6 rv7) (n:=x27) (by omega) (by omega)
     refine IU 1 7 9 rfl rfl rfl (by kernel_rfl) rfl rfl rfl (oC 5) (o8 rfl (by kernel_rfl) rfl rfl rfl b50 (f8 b50 hz49)) (oS 2) ?_ ?_ ?_
     ·
      obtain⟨z51,hz52,b53⟩:=v9 (xs:=N6 rs1 fs2 b3 hs4 e5 lv6 rv7) (n:=x27) (by omega) (by omega)
      refine H8 7 9 rfl rfl (by kernel_rfl) rfl rfl (o8 rfl (by kernel_rfl) rfl rfl rfl b53 (f8 b53 hz52)) (oS 2) ?_ ?_
      ·
       refine H8 8 9 rfl rfl (by kernel_rfl) rfl rfl (t8 rfl (by kernel_rfl) rfl rfl rfl hz52) (oS 2) ?_ ?_
       ·
        refine dO 9 rfl (oS 2) ?_
        refine dO 10 rfl (oS 5) ?_
        refine dT 11 rfl pA ?_
        refine dE ?_
        refine s9 9 rfl (K9 rfl) ?_
        refine S8 Tryz.func40 (X9 2 (X9 5 (.tmp rfl .nil))) (⟨rs1,fs2,b3,hs4,e5,lv6,rv7,z51⟩) ?_ ?_
        ·(try dsimp only) <;>((exact⟨by assumption,by assumption,(s5 _ (D8 (by assumption))).1,(s5 _ (D8 (by assumption))).2⟩))
        ·rfl
       ·
        refine H8 8 10 rfl rfl (by kernel_rfl) rfl rfl (t8 rfl (by kernel_rfl) rfl rfl rfl hz52) (oS 5) ?_ ?_
        ·
         refine dO 10 rfl (oS 5) ?_
         refine dT 11 rfl pA ?_
         refine dE ?_
         refine s9 9 rfl (K9 rfl) ?_
         refine S8 Tryz.func40 (X9 2 (X9 5 (.tmp rfl .nil))) (⟨rs1,fs2,b3,hs4,e5,lv6,rv7,z51⟩) ?_ ?_
         ·(try dsimp only) <;>((exact⟨by assumption,by assumption,(s5 _ (D8 (by assumption))).1,(s5 _ (D8 (by assumption))).2⟩))
         ·rfl
        ·
         refine dT 8 rfl (M8 (by kernel_rfl) rfl rfl rfl hz52) ?_
         refine dT 11 rfl pA ?_
         refine dE ?_
         refine s9 9 rfl (K9 rfl) ?_
         refine S8 Tryz.func40 (X9 2 (X9 5 (.tmp rfl .nil))) (⟨rs1,fs2,b3,hs4,e5,lv6,rv7,z51⟩) ?_ ?_
         ·(try dsimp only) <;>((exact⟨by assumption,by assumption,(s5 _ (D8 (by assumption))).1,(s5 _ (D8 (by assumption))).2⟩))
         ·rfl
      ·
       obtain⟨z54,hz55,b56⟩:=v9 (xs:=N6 rs1 fs2 b3 hs4 e5 lv6 rv7) (n:=x27) (by omega) (by omega)
       refine H8 7 10 rfl rfl (by kernel_rfl) rfl rfl (o8 rfl (by kernel_rfl) rfl rfl rfl b56 (f8 b56 hz55)) (oS 5) ?_ ?_
       ·
        refine H8 8 10 rfl rfl (by kernel_rfl) rfl rfl (t8 rfl (by kernel_rfl) rfl rfl rfl hz55) (oS 5) ?_ ?_
        ·
         refine dO 10 rfl (oS 5) ?_
         refine dT 11 rfl pA ?_
         refine dE ?_
         refine s9 9 rfl (K9 rfl) ?_
         refine S8 Tryz.func40 (X9 2 (X9 5 (.tmp rfl .nil))) (⟨rs1,fs2,b3,hs4,e5,lv6,rv7,z54⟩) ?_ ?_
         ·(try dsimp only) <;>((exact⟨by assumption,by assumption,(s5 _ (D8 (by assumption))).1,(s5 _ (D8 (by assumption))).2⟩))
         ·rfl
        ·
         refine dT 8 rfl (M8 (by kernel_rfl) rfl rfl rfl hz55) ?_
         refine dT 11 rfl pA ?_
         refine dE ?_
         refine s9 9 rfl (K9 rfl) ?_
         refine S8 Tryz.func40 (X9 2 (X9 5 (.tmp rfl .nil))) (⟨rs1,fs2,b3,hs4,e5,lv6,rv7,z54⟩) ?_ ?_
         ·(try dsimp only) <;>((exact⟨by assumption,by assumption,(s5 _ (D8 (by assumption))).1,(s5 _ (D8 (by assumption))).2⟩))
         ·rfl
       ·
        obtain⟨z57,hz58,b59⟩:=v9 (xs:=N6 rs1 fs2 b3 hs4 e5 lv6 rv7) (n:=x27) (by omega) (by omega)
        refine dT 7 rfl (V9 (by kernel_rfl) rfl rfl rfl b59 (f8 b59 hz58)) ?_
        refine dT 8 rfl (M8 (by kernel_rfl) rfl rfl rfl hz58) ?_
        refine dT 11 rfl pA ?_
        refine dE ?_
        refine s9 9 rfl (K9 rfl) ?_
        refine S8 Tryz.func40 (X9 2 (X9 5 (.tmp rfl .nil))) (⟨rs1,fs2,b3,hs4,e5,lv6,rv7,z57⟩) ?_ ?_
        ·(try dsimp only) <;>((exact⟨by assumption,by assumption,(s5 _ (D8 (by assumption))).1,(s5 _ (D8 (by assumption))).2⟩))
        ·rfl
     ·
      refine IU 1 8 9 rfl rfl rfl (by kernel_rfl) rfl rfl rfl (oC 5) (t8 rfl (by kernel_rfl) rfl rfl rfl hz49) (oS 2) ?_ ?_ ?_
      ·
       refine H8 8 9 rfl rfl (by kernel_rfl) rfl rfl (t8 rfl (by kernel_rfl) rfl rfl rfl hz49) (oS 2) ?_ ?_
       ·
        refine dO 9 rfl (oS 2) ?_
        refine dO 10 rfl (oS 5) ?_
        refine dT 11 rfl pA ?_
        refine dE ?_
        refine s9 9 rfl (K9 rfl) ?_
        refine S8 Tryz.func40 (X9 2 (X9 5 (.tmp rfl .nil))) (⟨rs1,fs2,b3,hs4,e5,lv6,rv7,z48⟩) ?_ ?_
        ·(try dsimp only) <;>((exact⟨by assumption,by assumption,(s5 _ (D8 (by assumption))).1,(s5 _ (D8 (by assumption))).2⟩))
        ·rfl
       ·
        refine H8 8 10 rfl rfl (by kernel_rfl) rfl rfl (t8 rfl (by kernel_rfl) rfl rfl rfl hz49) (oS 5) ?_ ?_
        ·
         refine dO 10 rfl (oS 5) ?_
         refine dT 11 rfl pA ?_
         refine dE ?_
         refine s9 9 rfl (K9 rfl) ?_
         refine S8 Tryz.func40 (X9 2 (X9 5 (.tmp rfl .nil))) (⟨rs1,fs2,b3,hs4,e5,lv6,rv7,z48⟩) ?_ ?_
         ·(try dsimp only) <;>((exact⟨by assumption,by assumption,(s5 _ (D8 (by assumption))).1,(s5 _ (D8 (by assumption))).2⟩))
         ·rfl
        ·
         refine dT 8 rfl (M8 (by kernel_rfl) rfl rfl rfl hz49) ?_
         refine dT 11 rfl pA ?_
         refine dE ?_
         refine s9 9 rfl (K9 rfl) ?_
         refine S8 Tryz.func40 (X9 2 (X9 5 (.tmp rfl .nil))) (⟨rs1,fs2,b3,hs4,e5,lv6,rv7,z48⟩) ?_ ?_
         ·(try dsimp only) <;>((exact⟨by assumption,by assumption,(s5 _ (D8 (by assumption))).1,(s5 _ (D8 (by assumption))).2⟩))
         ·rfl
      ·
       refine H8 1 9 rfl rfl (by kernel_rfl) rfl rfl (oC 5) (oS 2) ?_ ?_
       ·
        refine dO 9 rfl (oS 2) ?_
        refine dO 10 rfl (oS 5) ?_
        refine dT 11 rfl pA ?_
        refine dE ?_
        refine s9 9 rfl (K9 rfl) ?_
        refine S8 Tryz.func40 (X9 2 (X9 5 (.tmp rfl .nil))) (⟨rs1,fs2,b3,hs4,e5,lv6,rv7,z48⟩) ?_ ?_
        ·(try dsimp only) <;>((exact⟨by assumption,by assumption,(s5 _ (D8 (by assumption))).1,(s5 _ (D8 (by assumption))).2⟩))
        ·rfl
       ·
        refine dT 1 rfl (pC 5) ?_
        refine dO 10 rfl (oS 5) ?_
        refine dT 11 rfl pA ?_
        refine dE ?_
        refine s9 9 rfl (K9 rfl) ?_
        refine S8 Tryz.func40 (X9 2 (X9 5 (.tmp rfl .nil))) (⟨rs1,fs2,b3,hs4,e5,lv6,rv7,z48⟩) ?_ ?_
        ·(try dsimp only) <;>((exact⟨by assumption,by assumption,(s5 _ (D8 (by assumption))).1,(s5 _ (D8 (by assumption))).2⟩))
        ·rfl
      ·
       refine dT 1 rfl (pC 5) ?_
       refine H8 8 10 rfl rfl (by kernel_rfl) rfl rfl (t8 rfl (by kernel_rfl) rfl rfl rfl hz49) (oS 5) ?_ ?_
       ·
        refine dO 10 rfl (oS 5) ?_
        refine dT 11 rfl pA ?_
        refine dE ?_
        refine s9 9 rfl (K9 rfl) ?_
        refine S8 Tryz.func40 (X9 2 (X9 5 (.tmp rfl .nil))) (⟨rs1,fs2,b3,hs4,e5,lv6,rv7,z48⟩) ?_ ?_
        ·(try dsimp only) <;>((exact⟨by assumption,by assumption,(s5 _ (D8 (by assumption))).1,(s5 _ (D8 (by assumption))).2⟩))
        ·rfl
       ·
        refine dT 8 rfl (M8 (by kernel_rfl) rfl rfl rfl hz49) ?_
        refine dT 11 rfl pA ?_
        refine dE ?_
        refine s9 9 rfl (K9 rfl) ?_
        refine S8 Tryz.func40 (X9 2 (X9 5 (.tmp rfl .nil))) (⟨rs1,fs2,b3,hs4,e5,lv6,rv7,z48⟩) ?_ ?_
        ·(try dsimp only) <;>((exact⟨by assumption,by assumption,(s5 _ (D8 (by assumption))).1,(s5 _ (D8 (by assumption))).2⟩))
        ·rfl
     ·
      refine dT 1 rfl (pC 5) ?_
      obtain⟨z60,hz61,b62⟩:=v9 (xs:=N6 rs1 fs2 b3 hs4 e5 lv6 rv7) (n:=x27) (by omega) (by omega)
      refine H8 7 10 rfl rfl (by kernel_rfl) rfl rfl (o8 rfl (by kernel_rfl) rfl rfl rfl b62 (f8 b62 hz61)) (oS 5) ?_ ?_
      ·
       refine H8 8 10 rfl rfl (by kernel_rfl) rfl rfl (t8 rfl (by kernel_rfl) rfl rfl rfl hz61) (oS 5) ?_ ?_
       ·
        refine dO 10 rfl (oS 5) ?_
        refine dT 11 rfl pA ?_
        refine dE ?_
        refine s9 9 rfl (K9 rfl) ?_
        refine S8 Tryz.func40 (X9 2 (X9 5 (.tmp rfl .nil))) (⟨rs1,fs2,b3,hs4,e5,lv6,rv7,z60⟩) ?_ ?_
        ·(try dsimp only) <;>((exact⟨by assumption,by assumption,(s5 _ (D8 (by assumption))).1,(s5 _ (D8 (by assumption))).2⟩))
        ·rfl
       ·
        refine dT 8 rfl (M8 (by kernel_rfl) rfl rfl rfl hz61) ?_
        refine dT 11 rfl pA ?_
        refine dE ?_
        refine s9 9 rfl (K9 rfl) ?_
        refine S8 Tryz.func40 (X9 2 (X9 5 (.tmp rfl .nil))) (⟨rs1,fs2,b3,hs4,e5,lv6,rv7,z60⟩) ?_ ?_
        ·(try dsimp only) <;>((exact⟨by assumption,by assumption,(s5 _ (D8 (by assumption))).1,(s5 _ (D8 (by assumption))).2⟩))
        ·rfl
      ·
       obtain⟨z63,hz64,b65⟩:=v9 (xs:=N6 rs1 fs2 b3 hs4 e5 lv6 rv7) (n:=x27) (by omega) (by omega)
       refine dT 7 rfl (V9 (by kernel_rfl) rfl rfl rfl b65 (f8 b65 hz64)) ?_
       refine dT 8 rfl (M8 (by kernel_rfl) rfl rfl rfl hz64) ?_
       refine dT 11 rfl pA ?_
       refine dE ?_
       refine s9 9 rfl (K9 rfl) ?_
       refine S8 Tryz.func40 (X9 2 (X9 5 (.tmp rfl .nil))) (⟨rs1,fs2,b3,hs4,e5,lv6,rv7,z63⟩) ?_ ?_
       ·(try dsimp only) <;>((exact⟨by assumption,by assumption,(s5 _ (D8 (by assumption))).1,(s5 _ (D8 (by assumption))).2⟩))
       ·rfl
   ·
    rintro⟨⟩
    refine G8 0 6 rfl rfl (by kernel_rfl) rfl rfl (N4 (oC 2)) (o9 4 11 12 (pv:=none) (H9 Tryz.func41) (r9 code i216 h217 (((N6 rs1 fs2 b3 hs4 e5 lv6 rv7).length:Int)) (by omega) (by omega) (by omega) (by omega) (by omega)) rfl rfl (.cur rfl (.cons rfl .nil)) rfl (fun⟨_,_,_⟩=>rfl) (fun _=>rfl) (fun⟨_,_,_⟩=>rfl) rfl rfl) ?_ ?_
    ·
     rintro⟨⟩
     refine J0 6 rfl (o9 4 11 12 (pv:=none) (H9 Tryz.func41) (r9 code i216 h217 (((N6 rs1 fs2 b3 hs4 e5 lv6 rv7).length:Int)) (by omega) (by omega) (by omega) (by omega) (by omega)) rfl rfl (.cur rfl (.cons rfl .nil)) rfl (fun⟨_,_,_⟩=>rfl) (fun _=>rfl) (fun⟨_,_,_⟩=>rfl) rfl rfl) ?_
     rintro⟨⟨x72,i273,h274⟩,hq75⟩
     try dsimp only at hq75
     try dsimp only
     obtain⟨q76,q77⟩:=hq75
     obtain⟨z78,hz79,b80⟩:=v9 (xs:=N6 rs1 fs2 b3 hs4 e5 lv6 rv7) (n:=x72) (by omega) (by omega)
     refine H8 7 9 rfl rfl (by kernel_rfl) rfl rfl (o8 rfl (by kernel_rfl) rfl rfl rfl b80 (f8 b80 hz79)) (oS 2) ?_ ?_
     ·
      refine H8 8 9 rfl rfl (by kernel_rfl) rfl rfl (t8 rfl (by kernel_rfl) rfl rfl rfl hz79) (oS 2) ?_ ?_
      ·
       refine dO 9 rfl (oS 2) ?_
       refine dO 10 rfl (oS 5) ?_
       refine dT 11 rfl pA ?_
       refine dE ?_
       refine s9 9 rfl (K9 rfl) ?_
       refine S8 Tryz.func40 (X9 2 (X9 5 (.tmp rfl .nil))) (⟨rs1,fs2,b3,hs4,e5,lv6,rv7,z78⟩) ?_ ?_
       ·(try dsimp only) <;>((exact⟨by assumption,by assumption,(s5 _ (D8 (by assumption))).1,(s5 _ (D8 (by assumption))).2⟩))
       ·rfl
      ·
       refine H8 8 10 rfl rfl (by kernel_rfl) rfl rfl (t8 rfl (by kernel_rfl) rfl rfl rfl hz79) (oS 5) ?_ ?_
       ·
        refine dO 10 rfl (oS 5) ?_
        refine dT 11 rfl pA ?_
        refine dE ?_
        refine s9 9 rfl (K9 rfl) ?_
        refine S8 Tryz.func40 (X9 2 (X9 5 (.tmp rfl .nil))) (⟨rs1,fs2,b3,hs4,e5,lv6,rv7,z78⟩) ?_ ?_
        ·(try dsimp only) <;>((exact⟨by assumption,by assumption,(s5 _ (D8 (by assumption))).1,(s5 _ (D8 (by assumption))).2⟩))
        ·rfl
       ·
        refine dT 8 rfl (M8 (by kernel_rfl) rfl rfl rfl hz79) ?_
        refine dT 11 rfl pA ?_
        refine dE ?_
        refine s9 9 rfl (K9 rfl) ?_
        refine S8 Tryz.func40 (X9 2 (X9 5 (.tmp rfl .nil))) (⟨rs1,fs2,b3,hs4,e5,lv6,rv7,z78⟩) ?_ ?_
        ·(try dsimp only) <;>((exact⟨by assumption,by assumption,(s5 _ (D8 (by assumption))).1,(s5 _ (D8 (by assumption))).2⟩))
        ·rfl
     ·
      obtain⟨z81,hz82,b83⟩:=v9 (xs:=N6 rs1 fs2 b3 hs4 e5 lv6 rv7) (n:=x72) (by omega) (by omega)
      refine H8 7 10 rfl rfl (by kernel_rfl) rfl rfl (o8 rfl (by kernel_rfl) rfl rfl rfl b83 (f8 b83 hz82)) (oS 5) ?_ ?_
      ·
       refine H8 8 10 rfl rfl (by kernel_rfl) rfl rfl (t8 rfl (by kernel_rfl) rfl rfl rfl hz82) (oS 5) ?_ ?_
       ·
        refine dO 10 rfl (oS 5) ?_
        refine dT 11 rfl pA ?_
        refine dE ?_
        refine s9 9 rfl (K9 rfl) ?_
        refine S8 Tryz.func40 (X9 2 (X9 5 (.tmp rfl .nil))) (⟨rs1,fs2,b3,hs4,e5,lv6,rv7,z81⟩) ?_ ?_
        ·(try dsimp only) <;>((exact⟨by assumption,by assumption,(s5 _ (D8 (by assumption))).1,(s5 _ (D8 (by assumption))).2⟩))
        ·rfl
       ·
        refine dT 8 rfl (M8 (by kernel_rfl) rfl rfl rfl hz82) ?_
        refine dT 11 rfl pA ?_
        refine dE ?_
        refine s9 9 rfl (K9 rfl) ?_
        refine S8 Tryz.func40 (X9 2 (X9 5 (.tmp rfl .nil))) (⟨rs1,fs2,b3,hs4,e5,lv6,rv7,z81⟩) ?_ ?_
        ·(try dsimp only) <;>((exact⟨by assumption,by assumption,(s5 _ (D8 (by assumption))).1,(s5 _ (D8 (by assumption))).2⟩))
        ·rfl
      ·
       obtain⟨z84,hz85,b86⟩:=v9 (xs:=N6 rs1 fs2 b3 hs4 e5 lv6 rv7) (n:=x72) (by omega) (by omega)
       refine dT 7 rfl (V9 (by kernel_rfl) rfl rfl rfl b86 (f8 b86 hz85)) ?_
       refine dT 8 rfl (M8 (by kernel_rfl) rfl rfl rfl hz85) ?_
       refine dT 11 rfl pA ?_
       refine dE ?_
       refine s9 9 rfl (K9 rfl) ?_
       refine S8 Tryz.func40 (X9 2 (X9 5 (.tmp rfl .nil))) (⟨rs1,fs2,b3,hs4,e5,lv6,rv7,z84⟩) ?_ ?_
       ·(try dsimp only) <;>((exact⟨by assumption,by assumption,(s5 _ (D8 (by assumption))).1,(s5 _ (D8 (by assumption))).2⟩))
       ·rfl
    ·
     rintro⟨⟨x66,i267,h268⟩,hq69⟩
     try dsimp only at hq69
     try dsimp only
     obtain⟨q70,q71⟩:=hq69
     refine dT 0 rfl (pC 2) ?_
     obtain⟨z87,hz88,b89⟩:=v9 (xs:=N6 rs1 fs2 b3 hs4 e5 lv6 rv7) (n:=x66) (by omega) (by omega)
     refine H8 7 9 rfl rfl (by kernel_rfl) rfl rfl (o8 rfl (by kernel_rfl) rfl rfl rfl b89 (f8 b89 hz88)) (oS 2) ?_ ?_
     ·
      refine H8 8 9 rfl rfl (by kernel_rfl) rfl rfl (t8 rfl (by kernel_rfl) rfl rfl rfl hz88) (oS 2) ?_ ?_
      ·
       refine dO 9 rfl (oS 2) ?_
       refine dO 10 rfl (oS 5) ?_
       refine dT 11 rfl pA ?_
       refine dE ?_
       refine s9 9 rfl (K9 rfl) ?_
       refine S8 Tryz.func40 (X9 2 (X9 5 (.tmp rfl .nil))) (⟨rs1,fs2,b3,hs4,e5,lv6,rv7,z87⟩) ?_ ?_
       ·(try dsimp only) <;>((exact⟨by assumption,by assumption,(s5 _ (D8 (by assumption))).1,(s5 _ (D8 (by assumption))).2⟩))
       ·rfl
      ·
       refine H8 8 10 rfl rfl (by kernel_rfl) rfl rfl (t8 rfl (by kernel_rfl) rfl rfl rfl hz88) (oS 5) ?_ ?_
       ·
        refine dO 10 rfl (oS 5) ?_
        refine dT 11 rfl pA ?_
        refine dE ?_
        refine s9 9 rfl (K9 rfl) ?_
        refine S8 Tryz.func40 (X9 2 (X9 5 (.tmp rfl .nil))) (⟨rs1,fs2,b3,hs4,e5,lv6,rv7,z87⟩) ?_ ?_
        ·(try dsimp only) <;>((exact⟨by assumption,by assumption,(s5 _ (D8 (by assumption))).1,(s5 _ (D8 (by assumption))).2⟩))
        ·rfl
       ·
        refine dT 8 rfl (M8 (by kernel_rfl) rfl rfl rfl hz88) ?_
        refine dT 11 rfl pA ?_
        refine dE ?_
        refine s9 9 rfl (K9 rfl) ?_
        refine S8 Tryz.func40 (X9 2 (X9 5 (.tmp rfl .nil))) (⟨rs1,fs2,b3,hs4,e5,lv6,rv7,z87⟩) ?_ ?_
        ·(try dsimp only) <;>((exact⟨by assumption,by assumption,(s5 _ (D8 (by assumption))).1,(s5 _ (D8 (by assumption))).2⟩))
        ·rfl
     ·
      obtain⟨z90,hz91,b92⟩:=v9 (xs:=N6 rs1 fs2 b3 hs4 e5 lv6 rv7) (n:=x66) (by omega) (by omega)
      refine H8 7 10 rfl rfl (by kernel_rfl) rfl rfl (o8 rfl (by kernel_rfl) rfl rfl rfl b92 (f8 b92 hz91)) (oS 5) ?_ ?_
      ·
       refine H8 8 10 rfl rfl (by kernel_rfl) rfl rfl (t8 rfl (by kernel_rfl) rfl rfl rfl hz91) (oS 5) ?_ ?_
       ·
        refine dO 10 rfl (oS 5) ?_
        refine dT 11 rfl pA ?_
        refine dE ?_
        refine s9 9 rfl (K9 rfl) ?_
        refine S8 Tryz.func40 (X9 2 (X9 5 (.tmp rfl .nil))) (⟨rs1,fs2,b3,hs4,e5,lv6,rv7,z90⟩) ?_ ?_
        ·(try dsimp only) <;>((exact⟨by assumption,by assumption,(s5 _ (D8 (by assumption))).1,(s5 _ (D8 (by assumption))).2⟩))
        ·rfl
       ·
        refine dT 8 rfl (M8 (by kernel_rfl) rfl rfl rfl hz91) ?_
        refine dT 11 rfl pA ?_
        refine dE ?_
        refine s9 9 rfl (K9 rfl) ?_
        refine S8 Tryz.func40 (X9 2 (X9 5 (.tmp rfl .nil))) (⟨rs1,fs2,b3,hs4,e5,lv6,rv7,z90⟩) ?_ ?_
        ·(try dsimp only) <;>((exact⟨by assumption,by assumption,(s5 _ (D8 (by assumption))).1,(s5 _ (D8 (by assumption))).2⟩))
        ·rfl
      ·
       obtain⟨z93,hz94,b95⟩:=v9 (xs:=N6 rs1 fs2 b3 hs4 e5 lv6 rv7) (n:=x66) (by omega) (by omega)
       refine dT 7 rfl (V9 (by kernel_rfl) rfl rfl rfl b95 (f8 b95 hz94)) ?_
       refine dT 8 rfl (M8 (by kernel_rfl) rfl rfl rfl hz94) ?_
       refine dT 11 rfl pA ?_
       refine dE ?_
       refine s9 9 rfl (K9 rfl) ?_
       refine S8 Tryz.func40 (X9 2 (X9 5 (.tmp rfl .nil))) (⟨rs1,fs2,b3,hs4,e5,lv6,rv7,z93⟩) ?_ ?_
       ·(try dsimp only) <;>((exact⟨by assumption,by assumption,(s5 _ (D8 (by assumption))).1,(s5 _ (D8 (by assumption))).2⟩))
       ·rfl
   ·
    rintro⟨⟨x21,i222,h223⟩,hq24⟩
    try dsimp only at hq24
    try dsimp only
    obtain⟨q25,q26⟩:=hq24
    refine dT 0 rfl (pC 2) ?_
    obtain⟨z96,hz97,b98⟩:=v9 (xs:=N6 rs1 fs2 b3 hs4 e5 lv6 rv7) (n:=x21) (by omega) (by omega)
    refine IU 1 7 9 rfl rfl rfl (by kernel_rfl) rfl rfl rfl (oC 5) (o8 rfl (by kernel_rfl) rfl rfl rfl b98 (f8 b98 hz97)) (oS 2) ?_ ?_ ?_
    ·
     obtain⟨z99,hz100,b101⟩:=v9 (xs:=N6 rs1 fs2 b3 hs4 e5 lv6 rv7) (n:=x21) (by omega) (by omega)
     refine H8 7 9 rfl rfl (by kernel_rfl) rfl rfl (o8 rfl (by kernel_rfl) rfl rfl rfl b101 (f8 b101 hz100)) (oS 2) ?_ ?_
     ·
      refine H8 8 9 rfl rfl (by kernel_rfl) rfl rfl (t8 rfl (by kernel_rfl) rfl rfl rfl hz100) (oS 2) ?_ ?_
      ·
       refine dO 9 rfl (oS 2) ?_
       refine dO 10 rfl (oS 5) ?_
       refine dT 11 rfl pA ?_
       refine dE ?_
       refine s9 9 rfl (K9 rfl) ?_
       refine S8 Tryz.func40 (X9 2 (X9 5 (.tmp rfl .nil))) (⟨rs1,fs2,b3,hs4,e5,lv6,rv7,z99⟩) ?_ ?_
       ·(try dsimp only) <;>((exact⟨by assumption,by assumption,(s5 _ (D8 (by assumption))).1,(s5 _ (D8 (by assumption))).2⟩))
       ·rfl
      ·
       refine H8 8 10 rfl rfl (by kernel_rfl) rfl rfl (t8 rfl (by kernel_rfl) rfl rfl rfl hz100) (oS 5) ?_ ?_
       ·
        refine dO 10 rfl (oS 5) ?_
        refine dT 11 rfl pA ?_
        refine dE ?_
        refine s9 9 rfl (K9 rfl) ?_
        refine S8 Tryz.func40 (X9 2 (X9 5 (.tmp rfl .nil))) (⟨rs1,fs2,b3,hs4,e5,lv6,rv7,z99⟩) ?_ ?_
        ·(try dsimp only) <;>((exact⟨by assumption,by assumption,(s5 _ (D8 (by assumption))).1,(s5 _ (D8 (by assumption))).2⟩))
        ·rfl
       ·
        refine dT 8 rfl (M8 (by kernel_rfl) rfl rfl rfl hz100) ?_
        refine dT 11 rfl pA ?_
        refine dE ?_
        refine s9 9 rfl (K9 rfl) ?_
        refine S8 Tryz.func40 (X9 2 (X9 5 (.tmp rfl .nil))) (⟨rs1,fs2,b3,hs4,e5,lv6,rv7,z99⟩) ?_ ?_
        ·(try dsimp only) <;>((exact⟨by assumption,by assumption,(s5 _ (D8 (by assumption))).1,(s5 _ (D8 (by assumption))).2⟩))
        ·rfl
     ·
      obtain⟨z102,hz103,b104⟩:=v9 (xs:=N6 rs1 fs2 b3 hs4 e5 lv6 rv7) (n:=x21) (by omega) (by omega)
      refine H8 7 10 rfl rfl (by kernel_rfl) rfl rfl (o8 rfl (by kernel_rfl) rfl rfl rfl b104 (f8 b104 hz103)) (oS 5) ?_ ?_
      ·
       refine H8 8 10 rfl rfl (by kernel_rfl) rfl rfl (t8 rfl (by kernel_rfl) rfl rfl rfl hz103) (oS 5) ?_ ?_
       ·
        refine dO 10 rfl (oS 5) ?_
        refine dT 11 rfl pA ?_
        refine dE ?_
        refine s9 9 rfl (K9 rfl) ?_
        refine S8 Tryz.func40 (X9 2 (X9 5 (.tmp rfl .nil))) (⟨rs1,fs2,b3,hs4,e5,lv6,rv7,z102⟩) ?_ ?_
        ·(try dsimp only) <;>((exact⟨by assumption,by assumption,(s5 _ (D8 (by assumption))).1,(s5 _ (D8 (by assumption))).2⟩))
        ·rfl
       ·
        refine dT 8 rfl (M8 (by kernel_rfl) rfl rfl rfl hz103) ?_
        refine dT 11 rfl pA ?_
        refine dE ?_
        refine s9 9 rfl (K9 rfl) ?_
        refine S8 Tryz.func40 (X9 2 (X9 5 (.tmp rfl .nil))) (⟨rs1,fs2,b3,hs4,e5,lv6,rv7,z102⟩) ?_ ?_
        ·(try dsimp only) <;>((exact⟨by assumption,by assumption,(s5 _ (D8 (by assumption))).1,(s5 _ (D8 (by assumption))).2⟩))
        ·rfl
      ·
       obtain⟨z105,hz106,b107⟩:=v9 (xs:=N6 rs1 fs2 b3 hs4 e5 lv6 rv7) (n:=x21) (by omega) (by omega)
       refine dT 7 rfl (V9 (by kernel_rfl) rfl rfl rfl b107 (f8 b107 hz106)) ?_
       refine dT 8 rfl (M8 (by kernel_rfl) rfl rfl rfl hz106) ?_
       refine dT 11 rfl pA ?_
       refine dE ?_
       refine s9 9 rfl (K9 rfl) ?_
       refine S8 Tryz.func40 (X9 2 (X9 5 (.tmp rfl .nil))) (⟨rs1,fs2,b3,hs4,e5,lv6,rv7,z105⟩) ?_ ?_
       ·(try dsimp only) <;>((exact⟨by assumption,by assumption,(s5 _ (D8 (by assumption))).1,(s5 _ (D8 (by assumption))).2⟩))
       ·rfl
    ·
     refine IU 1 8 9 rfl rfl rfl (by kernel_rfl) rfl rfl rfl (oC 5) (t8 rfl (by kernel_rfl) rfl rfl rfl hz97) (oS 2) ?_ ?_ ?_
     ·
      refine H8 8 9 rfl rfl (by kernel_rfl) rfl rfl (t8 rfl (by kernel_rfl) rfl rfl rfl hz97) (oS 2) ?_ ?_
      ·
       refine dO 9 rfl (oS 2) ?_
       refine dO 10 rfl (oS 5) ?_
       refine dT 11 rfl pA ?_
       refine dE ?_
       refine s9 9 rfl (K9 rfl) ?_
       refine S8 Tryz.func40 (X9 2 (X9 5 (.tmp rfl .nil))) (⟨rs1,fs2,b3,hs4,e5,lv6,rv7,z96⟩) ?_ ?_
       ·(try dsimp only) <;>((exact⟨by assumption,by assumption,(s5 _ (D8 (by assumption))).1,(s5 _ (D8 (by assumption))).2⟩))
       ·rfl
      ·
       refine H8 8 10 rfl rfl (by kernel_rfl) rfl rfl (t8 rfl (by kernel_rfl) rfl rfl rfl hz97) (oS 5) ?_ ?_
       ·
        refine dO 10 rfl (oS 5) ?_
        refine dT 11 rfl pA ?_
        refine dE ?_
        refine s9 9 rfl (K9 rfl) ?_
        refine S8 Tryz.func40 (X9 2 (X9 5 (.tmp rfl .nil))) (⟨rs1,fs2,b3,hs4,e5,lv6,rv7,z96⟩) ?_ ?_
        ·(try dsimp only) <;>((exact⟨by assumption,by assumption,(s5 _ (D8 (by assumption))).1,(s5 _ (D8 (by assumption))).2⟩))
        ·rfl
       ·
        refine dT 8 rfl (M8 (by kernel_rfl) rfl rfl rfl hz97) ?_
        refine dT 11 rfl pA ?_
        refine dE ?_
        refine s9 9 rfl (K9 rfl) ?_
        refine S8 Tryz.func40 (X9 2 (X9 5 (.tmp rfl .nil))) (⟨rs1,fs2,b3,hs4,e5,lv6,rv7,z96⟩) ?_ ?_
        ·(try dsimp only) <;>((exact⟨by assumption,by assumption,(s5 _ (D8 (by assumption))).1,(s5 _ (D8 (by assumption))).2⟩))
        ·rfl
     ·
      refine H8 1 9 rfl rfl (by kernel_rfl) rfl rfl (oC 5) (oS 2) ?_ ?_
      ·
       refine dO 9 rfl (oS 2) ?_
       refine dO 10 rfl (oS 5) ?_
       refine dT 11 rfl pA ?_
       refine dE ?_
       refine s9 9 rfl (K9 rfl) ?_
       refine S8 Tryz.func40 (X9 2 (X9 5 (.tmp rfl .nil))) (⟨rs1,fs2,b3,hs4,e5,lv6,rv7,z96⟩) ?_ ?_
       ·(try dsimp only) <;>((exact⟨by assumption,by assumption,(s5 _ (D8 (by assumption))).1,(s5 _ (D8 (by assumption))).2⟩))
       ·rfl
      ·
       refine dT 1 rfl (pC 5) ?_
       refine dO 10 rfl (oS 5) ?_
       refine dT 11 rfl pA ?_
       refine dE ?_
       refine s9 9 rfl (K9 rfl) ?_
       refine S8 Tryz.func40 (X9 2 (X9 5 (.tmp rfl .nil))) (⟨rs1,fs2,b3,hs4,e5,lv6,rv7,z96⟩) ?_ ?_
       ·(try dsimp only) <;>((exact⟨by assumption,by assumption,(s5 _ (D8 (by assumption))).1,(s5 _ (D8 (by assumption))).2⟩))
       ·rfl
     ·
      refine dT 1 rfl (pC 5) ?_
      refine H8 8 10 rfl rfl (by kernel_rfl) rfl rfl (t8 rfl (by kernel_rfl) rfl rfl rfl hz97) (oS 5) ?_ ?_
      ·
       refine dO 10 rfl (oS 5) ?_
       refine dT 11 rfl pA ?_
       refine dE ?_
       refine s9 9 rfl (K9 rfl) ?_
       refine S8 Tryz.func40 (X9 2 (X9 5 (.tmp rfl .nil))) (⟨rs1,fs2,b3,hs4,e5,lv6,rv7,z96⟩) ?_ ?_
       ·(try dsimp only) <;>((exact⟨by assumption,by assumption,(s5 _ (D8 (by assumption))).1,(s5 _ (D8 (by assumption))).2⟩))
       ·rfl
      ·
       refine dT 8 rfl (M8 (by kernel_rfl) rfl rfl rfl hz97) ?_
       refine dT 11 rfl pA ?_
       refine dE ?_
       refine s9 9 rfl (K9 rfl) ?_
       refine S8 Tryz.func40 (X9 2 (X9 5 (.tmp rfl .nil))) (⟨rs1,fs2,b3,hs4,e5,lv6,rv7,z96⟩) ?_ ?_
       ·(try dsimp only) <;>((exact⟨by assumption,by assumption,(s5 _ (D8 (by assumption))).1,(s5 _ (D8 (by assumption))).2⟩))
       ·rfl
    ·
     refine dT 1 rfl (pC 5) ?_
     obtain⟨z108,hz109,b110⟩:=v9 (xs:=N6 rs1 fs2 b3 hs4 e5 lv6 rv7) (n:=x21) (by omega) (by omega)
     refine H8 7 10 rfl rfl (by kernel_rfl) rfl rfl (o8 rfl (by kernel_rfl) rfl rfl rfl b110 (f8 b110 hz109)) (oS 5) ?_ ?_
     ·
      refine H8 8 10 rfl rfl (by kernel_rfl) rfl rfl (t8 rfl (by kernel_rfl) rfl rfl rfl hz109) (oS 5) ?_ ?_
      ·
       refine dO 10 rfl (oS 5) ?_
       refine dT 11 rfl pA ?_
       refine dE ?_
       refine s9 9 rfl (K9 rfl) ?_
       refine S8 Tryz.func40 (X9 2 (X9 5 (.tmp rfl .nil))) (⟨rs1,fs2,b3,hs4,e5,lv6,rv7,z108⟩) ?_ ?_
       ·(try dsimp only) <;>((exact⟨by assumption,by assumption,(s5 _ (D8 (by assumption))).1,(s5 _ (D8 (by assumption))).2⟩))
       ·rfl
      ·
       refine dT 8 rfl (M8 (by kernel_rfl) rfl rfl rfl hz109) ?_
       refine dT 11 rfl pA ?_
       refine dE ?_
       refine s9 9 rfl (K9 rfl) ?_
       refine S8 Tryz.func40 (X9 2 (X9 5 (.tmp rfl .nil))) (⟨rs1,fs2,b3,hs4,e5,lv6,rv7,z108⟩) ?_ ?_
       ·(try dsimp only) <;>((exact⟨by assumption,by assumption,(s5 _ (D8 (by assumption))).1,(s5 _ (D8 (by assumption))).2⟩))
       ·rfl
     ·
      obtain⟨z111,hz112,b113⟩:=v9 (xs:=N6 rs1 fs2 b3 hs4 e5 lv6 rv7) (n:=x21) (by omega) (by omega)
      refine dT 7 rfl (V9 (by kernel_rfl) rfl rfl rfl b113 (f8 b113 hz112)) ?_
      refine dT 8 rfl (M8 (by kernel_rfl) rfl rfl rfl hz112) ?_
      refine dT 11 rfl pA ?_
      refine dE ?_
      refine s9 9 rfl (K9 rfl) ?_
      refine S8 Tryz.func40 (X9 2 (X9 5 (.tmp rfl .nil))) (⟨rs1,fs2,b3,hs4,e5,lv6,rv7,z111⟩) ?_ ?_
      ·(try dsimp only) <;>((exact⟨by assumption,by assumption,(s5 _ (D8 (by assumption))).1,(s5 _ (D8 (by assumption))).2⟩))
      ·rfl
  ·
   have h20':=(Y5 h20)
   refine m9<|k9 ?_
   refine tD (fun i=>!(Nat.beq i 6||Nat.beq i 7||Nat.beq i 8)) ?_
   refine dT 2 rfl pM ?_
   refine dT 3 rfl (pC 2) ?_
   refine dT 4 rfl (pF 0) ?_
   refine dT 5 rfl pL ?_
   refine J1 0 1 6 rfl rfl rfl (by kernel_rfl) rfl rfl rfl (N4 (oC 2)) (N4 (oC 5)) (o9 4 11 12 (pv:=none) (H9 Tryz.func93) (J7 code i216 h217 rs1 fs2 b3 (by omega) (by omega) (by omega) (by omega) (by exact dd.2.2.1) (by omega)) rfl rfl (.cur rfl (.agg rfl rfl (.cons rfl .nil))) rfl (fun⟨_,_,_⟩=>rfl) (fun _=>rfl) (fun⟨_,_,_⟩=>rfl) rfl rfl) ?_ ?_ ?_
   ·
    rintro⟨⟩
    refine G8 1 6 rfl rfl (by kernel_rfl) rfl rfl (N4 (oC 5)) (o9 4 11 12 (pv:=none) (H9 Tryz.func93) (J7 code i216 h217 rs1 fs2 b3 (by omega) (by omega) (by omega) (by omega) (by exact dd.2.2.1) (by omega)) rfl rfl (.cur rfl (.agg rfl rfl (.cons rfl .nil))) rfl (fun⟨_,_,_⟩=>rfl) (fun _=>rfl) (fun⟨_,_,_⟩=>rfl) rfl rfl) ?_ ?_
    ·
     rintro⟨⟩
     refine J0 6 rfl (o9 4 11 12 (pv:=none) (H9 Tryz.func93) (J7 code i216 h217 rs1 fs2 b3 (by omega) (by omega) (by omega) (by omega) (by exact dd.2.2.1) (by omega)) rfl rfl (.cur rfl (.agg rfl rfl (.cons rfl .nil))) rfl (fun⟨_,_,_⟩=>rfl) (fun _=>rfl) (fun⟨_,_,_⟩=>rfl) rfl rfl) ?_
     rintro⟨⟨b128,i2129,h2130⟩,hq131⟩
     try dsimp only at hq131
     try dsimp only
     obtain⟨q132,q133,q134⟩:=hq131
     refine dO 7 rfl (oS 2) ?_
     refine dO 8 rfl (oS 5) ?_
     refine dT 9 rfl pA ?_
     refine dE ?_
     refine S8 Tryz.func40 (X9 2 (X9 5 (.tmp rfl .nil))) (⟨rs1,fs2,b3,hs4,e5,lv6,rv7,b128⟩) ?_ ?_
     ·(try dsimp only) <;>((exact⟨by assumption,by assumption,by assumption,by assumption⟩))
     ·rfl
    ·
     rintro⟨⟨b121,i2122,h2123⟩,hq124⟩
     try dsimp only at hq124
     try dsimp only
     obtain⟨q125,q126,q127⟩:=hq124
     refine H8 1 7 rfl rfl (by kernel_rfl) rfl rfl (oC 5) (oS 2) ?_ ?_
     ·
      refine dO 7 rfl (oS 2) ?_
      refine dO 8 rfl (oS 5) ?_
      refine dT 9 rfl pA ?_
      refine dE ?_
      refine S8 Tryz.func40 (X9 2 (X9 5 (.tmp rfl .nil))) (⟨rs1,fs2,b3,hs4,e5,lv6,rv7,b121⟩) ?_ ?_
      ·(try dsimp only) <;>((exact⟨by assumption,by assumption,by assumption,by assumption⟩))
      ·rfl
     ·
      refine dT 1 rfl (pC 5) ?_
      refine dO 8 rfl (oS 5) ?_
      refine dT 9 rfl pA ?_
      refine dE ?_
      refine S8 Tryz.func40 (X9 2 (X9 5 (.tmp rfl .nil))) (⟨rs1,fs2,b3,hs4,e5,lv6,rv7,b121⟩) ?_ ?_
      ·(try dsimp only) <;>((exact⟨by assumption,by assumption,by assumption,by assumption⟩))
      ·rfl
   ·
    rintro⟨⟩
    refine G8 0 6 rfl rfl (by kernel_rfl) rfl rfl (N4 (oC 2)) (o9 4 11 12 (pv:=none) (H9 Tryz.func93) (J7 code i216 h217 rs1 fs2 b3 (by omega) (by omega) (by omega) (by omega) (by exact dd.2.2.1) (by omega)) rfl rfl (.cur rfl (.agg rfl rfl (.cons rfl .nil))) rfl (fun⟨_,_,_⟩=>rfl) (fun _=>rfl) (fun⟨_,_,_⟩=>rfl) rfl rfl) ?_ ?_
    ·
     rintro⟨⟩
     refine J0 6 rfl (o9 4 11 12 (pv:=none) (H9 Tryz.func93) (J7 code i216 h217 rs1 fs2 b3 (by omega) (by omega) (by omega) (by omega) (by exact dd.2.2.1) (by omega)) rfl rfl (.cur rfl (.agg rfl rfl (.cons rfl .nil))) rfl (fun⟨_,_,_⟩=>rfl) (fun _=>rfl) (fun⟨_,_,_⟩=>rfl) rfl rfl) ?_
     rintro⟨⟨b142,i2143,h2144⟩,hq145⟩
     try dsimp only at hq145
     try dsimp only
     obtain⟨q146,q147,q148⟩:=hq145
     refine dO 7 rfl (oS 2) ?_
     refine dO 8 rfl (oS 5) ?_
     refine dT 9 rfl pA ?_
     refine dE ?_
     refine S8 Tryz.func40 (X9 2 (X9 5 (.tmp rfl .nil))) (⟨rs1,fs2,b3,hs4,e5,lv6,rv7,b142⟩) ?_ ?_
     ·(try dsimp only) <;>((exact⟨by assumption,by assumption,by assumption,by assumption⟩))
     ·rfl
    ·
     rintro⟨⟨b135,i2136,h2137⟩,hq138⟩
     try dsimp only at hq138
     try dsimp only
     obtain⟨q139,q140,q141⟩:=hq138
     refine dT 0 rfl (pC 2) ?_
     refine dO 7 rfl (oS 2) ?_
     refine dO 8 rfl (oS 5) ?_
     refine dT 9 rfl pA ?_
     refine dE ?_
     refine S8 Tryz.func40 (X9 2 (X9 5 (.tmp rfl .nil))) (⟨rs1,fs2,b3,hs4,e5,lv6,rv7,b135⟩) ?_ ?_
     ·(try dsimp only) <;>((exact⟨by assumption,by assumption,by assumption,by assumption⟩))
     ·rfl
   ·
    rintro⟨⟨b114,i2115,h2116⟩,hq117⟩
    try dsimp only at hq117
    try dsimp only
    obtain⟨q118,q119,q120⟩:=hq117
    refine dT 0 rfl (pC 2) ?_
    refine H8 1 7 rfl rfl (by kernel_rfl) rfl rfl (oC 5) (oS 2) ?_ ?_
    ·
     refine dO 7 rfl (oS 2) ?_
     refine dO 8 rfl (oS 5) ?_
     refine dT 9 rfl pA ?_
     refine dE ?_
     refine S8 Tryz.func40 (X9 2 (X9 5 (.tmp rfl .nil))) (⟨rs1,fs2,b3,hs4,e5,lv6,rv7,b114⟩) ?_ ?_
     ·(try dsimp only) <;>((exact⟨by assumption,by assumption,by assumption,by assumption⟩))
     ·rfl
    ·
     refine dT 1 rfl (pC 5) ?_
     refine dO 8 rfl (oS 5) ?_
     refine dT 9 rfl pA ?_
     refine dE ?_
     refine S8 Tryz.func40 (X9 2 (X9 5 (.tmp rfl .nil))) (⟨rs1,fs2,b3,hs4,e5,lv6,rv7,b114⟩) ?_ ?_
     ·(try dsimp only) <;>((exact⟨by assumption,by assumption,by assumption,by assumption⟩))
     ·rfl
 ·
  have g14':=d8 g14
  refine A9 (C9 g14) (fun _=>?_)
  refine A9 (C9 g14) (fun _=>?_)
  refine d9 (G9 rfl rfl g14 rfl) ?_
  refine c9 ?_
  refine j9 rfl (C9 rfl) (fun _=>?_)
  refine m9<|k9 ?_
  refine tD (fun i=>!(Nat.beq i 6||Nat.beq i 7||Nat.beq i 8)) ?_
  refine dT 2 rfl pM ?_
  refine dT 3 rfl (pC 2) ?_
  refine dT 4 rfl (pF 0) ?_
  refine dT 5 rfl pL ?_
  refine J1 0 1 6 rfl rfl rfl (by kernel_rfl) rfl rfl rfl (N4 (oC 2)) (N4 (oC 5)) (o9 4 10 11 (pv:=none) (H9 Tryz.func93) (J7 code i28 h29 rs1 fs2 b3 (by omega) (by omega) (by omega) (by omega) (by exact dd.2.2.1) (by omega)) rfl rfl (.cur rfl (.agg rfl rfl (.cons rfl .nil))) rfl (fun⟨_,_,_⟩=>rfl) (fun _=>rfl) (fun⟨_,_,_⟩=>rfl) rfl rfl) ?_ ?_ ?_
  ·
   rintro⟨⟩
   refine G8 1 6 rfl rfl (by kernel_rfl) rfl rfl (N4 (oC 5)) (o9 4 10 11 (pv:=none) (H9 Tryz.func93) (J7 code i28 h29 rs1 fs2 b3 (by omega) (by omega) (by omega) (by omega) (by exact dd.2.2.1) (by omega)) rfl rfl (.cur rfl (.agg rfl rfl (.cons rfl .nil))) rfl (fun⟨_,_,_⟩=>rfl) (fun _=>rfl) (fun⟨_,_,_⟩=>rfl) rfl rfl) ?_ ?_
   ·
    rintro⟨⟩
    refine J0 6 rfl (o9 4 10 11 (pv:=none) (H9 Tryz.func93) (J7 code i28 h29 rs1 fs2 b3 (by omega) (by omega) (by omega) (by omega) (by exact dd.2.2.1) (by omega)) rfl rfl (.cur rfl (.agg rfl rfl (.cons rfl .nil))) rfl (fun⟨_,_,_⟩=>rfl) (fun _=>rfl) (fun⟨_,_,_⟩=>rfl) rfl rfl) ?_
    rintro⟨⟨b163,i2164,h2165⟩,hq166⟩
    try dsimp only at hq166
    try dsimp only
    obtain⟨q167,q168,q169⟩:=hq166
    refine dO 7 rfl (oS 2) ?_
    refine dO 8 rfl (oS 5) ?_
    refine dT 9 rfl pA ?_
    refine dE ?_
    refine S8 Tryz.func40 (X9 2 (X9 5 (.tmp rfl .nil))) (⟨rs1,fs2,b3,hs4,e5,lv6,rv7,b163⟩) ?_ ?_
    ·(try dsimp only) <;>((exact⟨by assumption,by assumption,by assumption,by assumption⟩))
    ·rfl
   ·
    rintro⟨⟨b156,i2157,h2158⟩,hq159⟩
    try dsimp only at hq159
    try dsimp only
    obtain⟨q160,q161,q162⟩:=hq159
    refine H8 1 7 rfl rfl (by kernel_rfl) rfl rfl (oC 5) (oS 2) ?_ ?_
    ·
     refine dO 7 rfl (oS 2) ?_
     refine dO 8 rfl (oS 5) ?_
     refine dT 9 rfl pA ?_
     refine dE ?_
     refine S8 Tryz.func40 (X9 2 (X9 5 (.tmp rfl .nil))) (⟨rs1,fs2,b3,hs4,e5,lv6,rv7,b156⟩) ?_ ?_
     ·(try dsimp only) <;>((exact⟨by assumption,by assumption,by assumption,by assumption⟩))
     ·rfl
    ·
     refine dT 1 rfl (pC 5) ?_
     refine dO 8 rfl (oS 5) ?_
     refine dT 9 rfl pA ?_
     refine dE ?_
     refine S8 Tryz.func40 (X9 2 (X9 5 (.tmp rfl .nil))) (⟨rs1,fs2,b3,hs4,e5,lv6,rv7,b156⟩) ?_ ?_
     ·(try dsimp only) <;>((exact⟨by assumption,by assumption,by assumption,by assumption⟩))
     ·rfl
  ·
   rintro⟨⟩
   refine G8 0 6 rfl rfl (by kernel_rfl) rfl rfl (N4 (oC 2)) (o9 4 10 11 (pv:=none) (H9 Tryz.func93) (J7 code i28 h29 rs1 fs2 b3 (by omega) (by omega) (by omega) (by omega) (by exact dd.2.2.1) (by omega)) rfl rfl (.cur rfl (.agg rfl rfl (.cons rfl .nil))) rfl (fun⟨_,_,_⟩=>rfl) (fun _=>rfl) (fun⟨_,_,_⟩=>rfl) rfl rfl) ?_ ?_
   ·
    rintro⟨⟩
    refine J0 6 rfl (o9 4 10 11 (pv:=none) (H9 Tryz.func93) (J7 code i28 h29 rs1 fs2 b3 (by omega) (by omega) (by omega) (by omega) (by exact dd.2.2.1) (by omega)) rfl rfl (.cur rfl (.agg rfl rfl (.cons rfl .nil))) rfl (fun⟨_,_,_⟩=>rfl) (fun _=>rfl) (fun⟨_,_,_⟩=>rfl) rfl rfl) ?_
    rintro⟨⟨b177,i2178,h2179⟩,hq180⟩
    try dsimp only at hq180
    try dsimp only
    obtain⟨q181,q182,q183⟩:=hq180
    refine dO 7 rfl (oS 2) ?_
    refine dO 8 rfl (oS 5) ?_
    refine dT 9 rfl pA ?_
    refine dE ?_
    refine S8 Tryz.func40 (X9 2 (X9 5 (.tmp rfl .nil))) (⟨rs1,fs2,b3,hs4,e5,lv6,rv7,b177⟩) ?_ ?_
    ·(try dsimp only) <;>((exact⟨by assumption,by assumption,by assumption,by assumption⟩))
    ·rfl
   ·
    rintro⟨⟨b170,i2171,h2172⟩,hq173⟩
    try dsimp only at hq173
    try dsimp only
    obtain⟨q174,q175,q176⟩:=hq173
    refine dT 0 rfl (pC 2) ?_
    refine dO 7 rfl (oS 2) ?_
    refine dO 8 rfl (oS 5) ?_
    refine dT 9 rfl pA ?_
    refine dE ?_
    refine S8 Tryz.func40 (X9 2 (X9 5 (.tmp rfl .nil))) (⟨rs1,fs2,b3,hs4,e5,lv6,rv7,b170⟩) ?_ ?_
    ·(try dsimp only) <;>((exact⟨by assumption,by assumption,by assumption,by assumption⟩))
    ·rfl
  ·
   rintro⟨⟨b149,i2150,h2151⟩,hq152⟩
   try dsimp only at hq152
   try dsimp only
   obtain⟨q153,q154,q155⟩:=hq152
   refine dT 0 rfl (pC 2) ?_
   refine H8 1 7 rfl rfl (by kernel_rfl) rfl rfl (oC 5) (oS 2) ?_ ?_
   ·
    refine dO 7 rfl (oS 2) ?_
    refine dO 8 rfl (oS 5) ?_
    refine dT 9 rfl pA ?_
    refine dE ?_
    refine S8 Tryz.func40 (X9 2 (X9 5 (.tmp rfl .nil))) (⟨rs1,fs2,b3,hs4,e5,lv6,rv7,b149⟩) ?_ ?_
    ·(try dsimp only) <;>((exact⟨by assumption,by assumption,by assumption,by assumption⟩))
    ·rfl
   ·
    refine dT 1 rfl (pC 5) ?_
    refine dO 8 rfl (oS 5) ?_
    refine dT 9 rfl pA ?_
    refine dE ?_
    refine S8 Tryz.func40 (X9 2 (X9 5 (.tmp rfl .nil))) (⟨rs1,fs2,b3,hs4,e5,lv6,rv7,b149⟩) ?_ ?_
    ·(try dsimp only) <;>((exact⟨by assumption,by assumption,by assumption,by assumption⟩))
    ·rfl
theorem YY (code:List Int)(hc:code.length≤1048576):wK Tryz.prog 12 [.c (.t none (.sl 1 u7 code))] (fun(⟨d,v⟩:Int ×(List Int))=>B7 d∧v.length≤5∧(∀x∈v,B7 x)) (fun(⟨d,v⟩:Int ×(List Int))=>[]) 0 (fun(⟨d,v⟩:Int ×(List Int))=> .agg [.t none (.v (.int .i64 d)),.t none (.sl 1 f9 v)]):=by
 refine P4 Tryz.func12 rfl (Nat.le_of_ble_eq_true rfl) fun w S=>?_
 refine t9 ?_
 refine d9 (F9 0 (zs:=[.int .i64 0,.slice none 0 0]) rfl rfl (by kernel_rfl) rfl) ?_
 refine P8<|rM ?_
 refine K8 (R4 1 2 (H9 Tryz.func39) (M3 code (by omega)) rfl (.cons rfl (.c .t0) .nil) rfl rfl) ?_
 rintro⟨h1,hq2⟩
 try dsimp only at hq2
 try dsimp only
 refine rA<|P8 ?_
 refine rM ?_
 refine K8 (R4 2 2 (H9 Tryz.func40) (SZ code (by omega)) rfl (.cons rfl (.c .t0) .nil) rfl rfl) ?_
 rintro⟨⟨rs4,fs5,b6,hs7,e8,lv9,rv10,v11⟩,hq12⟩
 try dsimp only at hq12
 try dsimp only
 obtain⟨q13,q14,q15,q16⟩:=hq12
 refine rM ?_
 refine d9 (D9 rfl rfl rfl rfl) ?_
 refine d9 (D9 rfl rfl rfl rfl) ?_
 refine d9 (D9 rfl rfl rfl rfl) ?_
 refine d9 (F9 2 (zs:=[.slice none 0 0,.slice none 0 0]) rfl rfl (by kernel_rfl) rfl) ?_
 refine d9 (F9 3 (zs:=[.slice none 0 0,.slice none 0 0,.bool false,.int .i64 0,.int .i64 0]) rfl rfl (by kernel_rfl) rfl) ?_
 refine rS 2 ?_
 refine rS 5 ?_
 refine rA<|c9<|k9 ?_
 refine tD (fun i=>!(Nat.beq i 8||Nat.beq i 12)) ?_
 refine V8 0 rfl rfl (by kernel_rfl) (by kernel_rfl) (by kernel_rfl) (I7 (off:=1) (by kernel_rfl) rfl) ?_
 refine V8 3 rfl rfl (by kernel_rfl) (by kernel_rfl) (by kernel_rfl) (I7 (off:=0) (by kernel_rfl) rfl) ?_
 refine dT 7 rfl pM ?_
 refine V8 10 rfl rfl (by kernel_rfl) (by kernel_rfl) (by kernel_rfl) (G5 rfl) ?_
 refine J1 1 4 8 rfl rfl rfl (by kernel_rfl) rfl rfl rfl (N4 oL) (N4 oL) (o9 1 4 5 (pv:=none) (H9 Tryz.func41) (r9 code 0 h1 3 (by omega) (by omega) (by omega) (by omega) (by omega)) rfl rfl (.cur rfl (.cons rfl .nil)) rfl (fun⟨_,_,_⟩=>rfl) (fun _=>rfl) (fun⟨_,_,_⟩=>rfl) rfl rfl) ?_ ?_ ?_
 ·
  rintro⟨⟩
  refine J1 2 4 8 rfl rfl rfl (by kernel_rfl) rfl rfl rfl (N4 (P9 rfl rfl rfl)) (N4 oL) (o9 1 4 5 (pv:=none) (H9 Tryz.func41) (r9 code 0 h1 3 (by omega) (by omega) (by omega) (by omega) (by omega)) rfl rfl (.cur rfl (.cons rfl .nil)) rfl (fun⟨_,_,_⟩=>rfl) (fun _=>rfl) (fun⟨_,_,_⟩=>rfl) rfl rfl) ?_ ?_ ?_
  ·
   rintro⟨⟩
   refine G8 4 8 rfl rfl (by kernel_rfl) rfl rfl (N4 oL) (o9 1 4 5 (pv:=none) (H9 Tryz.func41) (r9 code 0 h1 3 (by omega) (by omega) (by omega) (by omega) (by omega)) rfl rfl (.cur rfl (.cons rfl .nil)) rfl (fun⟨_,_,_⟩=>rfl) (fun _=>rfl) (fun⟨_,_,_⟩=>rfl) rfl rfl) ?_ ?_
   ·
    rintro⟨⟩
    refine G8 5 8 rfl rfl (by kernel_rfl) rfl rfl (N4 (P9 rfl rfl rfl)) (o9 1 4 5 (pv:=none) (H9 Tryz.func41) (r9 code 0 h1 3 (by omega) (by omega) (by omega) (by omega) (by omega)) rfl rfl (.cur rfl (.cons rfl .nil)) rfl (fun⟨_,_,_⟩=>rfl) (fun _=>rfl) (fun⟨_,_,_⟩=>rfl) rfl rfl) ?_ ?_
    ·
     rintro⟨⟩
     refine G8 6 8 rfl rfl (by kernel_rfl) rfl rfl (N4 oB) (o9 1 4 5 (pv:=none) (H9 Tryz.func41) (r9 code 0 h1 3 (by omega) (by omega) (by omega) (by omega) (by omega)) rfl rfl (.cur rfl (.cons rfl .nil)) rfl (fun⟨_,_,_⟩=>rfl) (fun _=>rfl) (fun⟨_,_,_⟩=>rfl) rfl rfl) ?_ ?_
     ·
      rintro⟨⟩
      refine J0 8 rfl (o9 1 4 5 (pv:=none) (H9 Tryz.func41) (r9 code 0 h1 3 (by omega) (by omega) (by omega) (by omega) (by omega)) rfl rfl (.cur rfl (.cons rfl .nil)) rfl (fun⟨_,_,_⟩=>rfl) (fun _=>rfl) (fun⟨_,_,_⟩=>rfl) rfl rfl) ?_
      rintro⟨⟨x47,i248,h249⟩,hq50⟩
      try dsimp only at hq50
      try dsimp only
      obtain⟨q51,q52⟩:=hq50
      refine dT 9 rfl pB ?_
      refine dT 11 rfl (pX [(0,1),(1,1)] [.int .i64 0,.slice none 0 0]) ?_
      refine dO 12 rfl (oS 2) ?_
      refine dE ?_
      refine S8 Tryz.func12 (X9 2 .nil) (⟨IntKind.i64.wrap ((IntKind.i64.wrap ((fs5.length:Int) - (b6.length:Int))) + x47),v11⟩) ?_ ?_
      ·(try dsimp only) <;>(exact⟨⟨j5 _,f5 _⟩,by assumption,by assumption⟩)
      ·rfl
     ·
      rintro⟨⟨x41,i242,h243⟩,hq44⟩
      try dsimp only at hq44
      try dsimp only
      obtain⟨q45,q46⟩:=hq44
      refine dT 6 rfl pB ?_
      refine dT 9 rfl pB ?_
      refine dT 11 rfl (pX [(0,1),(1,1)] [.int .i64 0,.slice none 0 0]) ?_
      refine dO 12 rfl (oS 2) ?_
      refine dE ?_
      refine S8 Tryz.func12 (X9 2 .nil) (⟨IntKind.i64.wrap ((IntKind.i64.wrap ((fs5.length:Int) - (b6.length:Int))) + x41),v11⟩) ?_ ?_
      ·(try dsimp only) <;>(exact⟨⟨j5 _,f5 _⟩,by assumption,by assumption⟩)
      ·rfl
    ·
     rintro⟨⟨x35,i236,h237⟩,hq38⟩
     try dsimp only at hq38
     try dsimp only
     obtain⟨q39,q40⟩:=hq38
     refine dT 5 rfl (X6 rfl rfl) ?_
     refine dT 6 rfl pB ?_
     refine dT 9 rfl pB ?_
     refine dT 11 rfl (pX [(0,1),(1,1)] [.int .i64 0,.slice none 0 0]) ?_
     refine dO 12 rfl (oS 2) ?_
     refine dE ?_
     refine S8 Tryz.func12 (X9 2 .nil) (⟨IntKind.i64.wrap ((IntKind.i64.wrap ((fs5.length:Int) - (b6.length:Int))) + x35),v11⟩) ?_ ?_
     ·(try dsimp only) <;>(exact⟨⟨j5 _,f5 _⟩,by assumption,by assumption⟩)
     ·rfl
   ·
    rintro⟨⟨x29,i230,h231⟩,hq32⟩
    try dsimp only at hq32
    try dsimp only
    obtain⟨q33,q34⟩:=hq32
    refine dT 4 rfl pL ?_
    refine dT 5 rfl (X6 rfl rfl) ?_
    refine dT 6 rfl pB ?_
    refine dT 9 rfl pB ?_
    refine dT 11 rfl (pX [(0,1),(1,1)] [.int .i64 0,.slice none 0 0]) ?_
    refine dO 12 rfl (oS 2) ?_
    refine dE ?_
    refine S8 Tryz.func12 (X9 2 .nil) (⟨IntKind.i64.wrap ((IntKind.i64.wrap ((fs5.length:Int) - (b6.length:Int))) + x29),v11⟩) ?_ ?_
    ·(try dsimp only) <;>(exact⟨⟨j5 _,f5 _⟩,by assumption,by assumption⟩)
    ·rfl
  ·
   rintro⟨⟩
   refine J1 2 5 8 rfl rfl rfl (by kernel_rfl) rfl rfl rfl (N4 (P9 rfl rfl rfl)) (N4 (P9 rfl rfl rfl)) (o9 1 4 5 (pv:=none) (H9 Tryz.func41) (r9 code 0 h1 3 (by omega) (by omega) (by omega) (by omega) (by omega)) rfl rfl (.cur rfl (.cons rfl .nil)) rfl (fun⟨_,_,_⟩=>rfl) (fun _=>rfl) (fun⟨_,_,_⟩=>rfl) rfl rfl) ?_ ?_ ?_
   ·
    rintro⟨⟩
    refine G8 5 8 rfl rfl (by kernel_rfl) rfl rfl (N4 (P9 rfl rfl rfl)) (o9 1 4 5 (pv:=none) (H9 Tryz.func41) (r9 code 0 h1 3 (by omega) (by omega) (by omega) (by omega) (by omega)) rfl rfl (.cur rfl (.cons rfl .nil)) rfl (fun⟨_,_,_⟩=>rfl) (fun _=>rfl) (fun⟨_,_,_⟩=>rfl) rfl rfl) ?_ ?_
    ·
     rintro⟨⟩
     refine G8 6 8 rfl rfl (by kernel_rfl) rfl rfl (N4 oB) (o9 1 4 5 (pv:=none) (H9 Tryz.func41) (r9 code 0 h1 3 (by omega) (by omega) (by omega) (by omega) (by omega)) rfl rfl (.cur rfl (.cons rfl .nil)) rfl (fun⟨_,_,_⟩=>rfl) (fun _=>rfl) (fun⟨_,_,_⟩=>rfl) rfl rfl) ?_ ?_
     ·
      rintro⟨⟩
      refine J0 8 rfl (o9 1 4 5 (pv:=none) (H9 Tryz.func41) (r9 code 0 h1 3 (by omega) (by omega) (by omega) (by omega) (by omega)) rfl rfl (.cur rfl (.cons rfl .nil)) rfl (fun⟨_,_,_⟩=>rfl) (fun _=>rfl) (fun⟨_,_,_⟩=>rfl) rfl rfl) ?_
      rintro⟨⟨x71,i272,h273⟩,hq74⟩
      try dsimp only at hq74
      try dsimp only
      obtain⟨q75,q76⟩:=hq74
      refine dT 9 rfl pB ?_
      refine dT 11 rfl (pX [(0,1),(1,1)] [.int .i64 0,.slice none 0 0]) ?_
      refine dO 12 rfl (oS 2) ?_
      refine dE ?_
      refine S8 Tryz.func12 (X9 2 .nil) (⟨IntKind.i64.wrap ((IntKind.i64.wrap ((fs5.length:Int) - (b6.length:Int))) + x71),v11⟩) ?_ ?_
      ·(try dsimp only) <;>(exact⟨⟨j5 _,f5 _⟩,by assumption,by assumption⟩)
      ·rfl
     ·
      rintro⟨⟨x65,i266,h267⟩,hq68⟩
      try dsimp only at hq68
      try dsimp only
      obtain⟨q69,q70⟩:=hq68
      refine dT 6 rfl pB ?_
      refine dT 9 rfl pB ?_
      refine dT 11 rfl (pX [(0,1),(1,1)] [.int .i64 0,.slice none 0 0]) ?_
      refine dO 12 rfl (oS 2) ?_
      refine dE ?_
      refine S8 Tryz.func12 (X9 2 .nil) (⟨IntKind.i64.wrap ((IntKind.i64.wrap ((fs5.length:Int) - (b6.length:Int))) + x65),v11⟩) ?_ ?_
      ·(try dsimp only) <;>(exact⟨⟨j5 _,f5 _⟩,by assumption,by assumption⟩)
      ·rfl
    ·
     rintro⟨⟨x59,i260,h261⟩,hq62⟩
     try dsimp only at hq62
     try dsimp only
     obtain⟨q63,q64⟩:=hq62
     refine dT 5 rfl (X6 rfl rfl) ?_
     refine dT 6 rfl pB ?_
     refine dT 9 rfl pB ?_
     refine dT 11 rfl (pX [(0,1),(1,1)] [.int .i64 0,.slice none 0 0]) ?_
     refine dO 12 rfl (oS 2) ?_
     refine dE ?_
     refine S8 Tryz.func12 (X9 2 .nil) (⟨IntKind.i64.wrap ((IntKind.i64.wrap ((fs5.length:Int) - (b6.length:Int))) + x59),v11⟩) ?_ ?_
     ·(try dsimp only) <;>(exact⟨⟨j5 _,f5 _⟩,by assumption,by assumption⟩)
     ·rfl
   ·
    rintro⟨⟩
    refine G8 2 8 rfl rfl (by kernel_rfl) rfl rfl (N4 (P9 rfl rfl rfl)) (o9 1 4 5 (pv:=none) (H9 Tryz.func41) (r9 code 0 h1 3 (by omega) (by omega) (by omega) (by omega) (by omega)) rfl rfl (.cur rfl (.cons rfl .nil)) rfl (fun⟨_,_,_⟩=>rfl) (fun _=>rfl) (fun⟨_,_,_⟩=>rfl) rfl rfl) ?_ ?_
    ·
     rintro⟨⟩
     refine G8 6 8 rfl rfl (by kernel_rfl) rfl rfl (N4 oB) (o9 1 4 5 (pv:=none) (H9 Tryz.func41) (r9 code 0 h1 3 (by omega) (by omega) (by omega) (by omega) (by omega)) rfl rfl (.cur rfl (.cons rfl .nil)) rfl (fun⟨_,_,_⟩=>rfl) (fun _=>rfl) (fun⟨_,_,_⟩=>rfl) rfl rfl) ?_ ?_
     ·
      rintro⟨⟩
      refine J0 8 rfl (o9 1 4 5 (pv:=none) (H9 Tryz.func41) (r9 code 0 h1 3 (by omega) (by omega) (by omega) (by omega) (by omega)) rfl rfl (.cur rfl (.cons rfl .nil)) rfl (fun⟨_,_,_⟩=>rfl) (fun _=>rfl) (fun⟨_,_,_⟩=>rfl) rfl rfl) ?_
      rintro⟨⟨x89,i290,h291⟩,hq92⟩
      try dsimp only at hq92
      try dsimp only
      obtain⟨q93,q94⟩:=hq92
      refine dT 9 rfl pB ?_
      refine dT 11 rfl (pX [(0,1),(1,1)] [.int .i64 0,.slice none 0 0]) ?_
      refine dO 12 rfl (oS 2) ?_
      refine dE ?_
      refine S8 Tryz.func12 (X9 2 .nil) (⟨IntKind.i64.wrap ((IntKind.i64.wrap ((fs5.length:Int) - (b6.length:Int))) + x89),v11⟩) ?_ ?_
      ·(try dsimp only) <;>(exact⟨⟨j5 _,f5 _⟩,by assumption,by assumption⟩)
      ·rfl
     ·
      rintro⟨⟨x83,i284,h285⟩,hq86⟩
      try dsimp only at hq86
      try dsimp only
      obtain⟨q87,q88⟩:=hq86
      refine dT 6 rfl pB ?_
      refine dT 9 rfl pB ?_
      refine dT 11 rfl (pX [(0,1),(1,1)] [.int .i64 0,.slice none 0 0]) ?_
      refine dO 12 rfl (oS 2) ?_
      refine dE ?_
      refine S8 Tryz.func12 (X9 2 .nil) (⟨IntKind.i64.wrap ((IntKind.i64.wrap ((fs5.length:Int) - (b6.length:Int))) + x83),v11⟩) ?_ ?_
      ·(try dsimp only) <;>(exact⟨⟨j5 _,f5 _⟩,by assumption,by assumption⟩)
      ·rfl
    ·
     rintro⟨⟨x77,i278,h279⟩,hq80⟩
     try dsimp only at hq80
     try dsimp only
     obtain⟨q81,q82⟩:=hq80
     refine dT 2 rfl (X6 rfl rfl) ?_
     refine dT 6 rfl pB ?_
     refine dT 9 rfl pB ?_
     refine dT 11 rfl (pX [(0,1),(1,1)] [.int .i64 0,.slice none 0 0]) ?_
     refine dO 12 rfl (oS 2) ?_
     refine dE ?_
     refine S8 Tryz.func12 (X9 2 .nil) (⟨IntKind.i64.wrap ((IntKind.i64.wrap ((fs5.length:Int) - (b6.length:Int))) + x77),v11⟩) ?_ ?_
     ·(try dsimp only) <;>(exact⟨⟨j5 _,f5 _⟩,by assumption,by assumption⟩)
     ·rfl
   ·
    rintro⟨⟨x53,i254,h255⟩,hq56⟩
    try dsimp only at hq56
    try dsimp only
    obtain⟨q57,q58⟩:=hq56
    refine dT 2 rfl (X6 rfl rfl) ?_
    refine dT 5 rfl (X6 rfl rfl) ?_
    refine dT 6 rfl pB ?_
    refine dT 9 rfl pB ?_
    refine dT 11 rfl (pX [(0,1),(1,1)] [.int .i64 0,.slice none 0 0]) ?_
    refine dO 12 rfl (oS 2) ?_
    refine dE ?_
    refine S8 Tryz.func12 (X9 2 .nil) (⟨IntKind.i64.wrap ((IntKind.i64.wrap ((fs5.length:Int) - (b6.length:Int))) + x53),v11⟩) ?_ ?_
    ·(try dsimp only) <;>(exact⟨⟨j5 _,f5 _⟩,by assumption,by assumption⟩)
    ·rfl
  ·
   rintro⟨⟨x23,i224,h225⟩,hq26⟩
   try dsimp only at hq26
   try dsimp only
   obtain⟨q27,q28⟩:=hq26
   refine dT 2 rfl (X6 rfl rfl) ?_
   refine dT 4 rfl pL ?_
   refine dT 5 rfl (X6 rfl rfl) ?_
   refine dT 6 rfl pB ?_
   refine dT 9 rfl pB ?_
   refine dT 11 rfl (pX [(0,1),(1,1)] [.int .i64 0,.slice none 0 0]) ?_
   refine dO 12 rfl (oS 2) ?_
   refine dE ?_
   refine S8 Tryz.func12 (X9 2 .nil) (⟨IntKind.i64.wrap ((IntKind.i64.wrap ((fs5.length:Int) - (b6.length:Int))) + x23),v11⟩) ?_ ?_
   ·(try dsimp only) <;>(exact⟨⟨j5 _,f5 _⟩,by assumption,by assumption⟩)
   ·rfl
 ·
  rintro⟨⟩
  refine J1 1 5 8 rfl rfl rfl (by kernel_rfl) rfl rfl rfl (N4 oL) (N4 (P9 rfl rfl rfl)) (o9 1 4 5 (pv:=none) (H9 Tryz.func41) (r9 code 0 h1 3 (by omega) (by omega) (by omega) (by omega) (by omega)) rfl rfl (.cur rfl (.cons rfl .nil)) rfl (fun⟨_,_,_⟩=>rfl) (fun _=>rfl) (fun⟨_,_,_⟩=>rfl) rfl rfl) ?_ ?_ ?_
  ·
   rintro⟨⟩
   refine J1 2 5 8 rfl rfl rfl (by kernel_rfl) rfl rfl rfl (N4 (P9 rfl rfl rfl)) (N4 (P9 rfl rfl rfl)) (o9 1 4 5 (pv:=none) (H9 Tryz.func41) (r9 code 0 h1 3 (by omega) (by omega) (by omega) (by omega) (by omega)) rfl rfl (.cur rfl (.cons rfl .nil)) rfl (fun⟨_,_,_⟩=>rfl) (fun _=>rfl) (fun⟨_,_,_⟩=>rfl) rfl rfl) ?_ ?_ ?_
   ·
    rintro⟨⟩
    refine G8 5 8 rfl rfl (by kernel_rfl) rfl rfl (N4 (P9 rfl rfl rfl)) (o9 1 4 5 (pv:=none) (H9 Tryz.func41) (r9 code 0 h1 3 (by omega) (by omega) (by omega) (by omega) (by omega)) rfl rfl (.cur rfl (.cons rfl .nil)) rfl (fun⟨_,_,_⟩=>rfl) (fun _=>rfl) (fun⟨_,_,_⟩=>rfl) rfl rfl) ?_ ?_
    ·
     rintro⟨⟩
     refine G8 6 8 rfl rfl (by kernel_rfl) rfl rfl (N4 oB) (o9 1 4 5 (pv:=none) (H9 Tryz.func41) (r9 code 0 h1 3 (by omega) (by omega) (by omega) (by omega) (by omega)) rfl rfl (.cur rfl (.cons rfl .nil)) rfl (fun⟨_,_,_⟩=>rfl) (fun _=>rfl) (fun⟨_,_,_⟩=>rfl) rfl rfl) ?_ ?_
     ·
      rintro⟨⟩
      refine J0 8 rfl (o9 1 4 5 (pv:=none) (H9 Tryz.func41) (r9 code 0 h1 3 (by omega) (by omega) (by omega) (by omega) (by omega)) rfl rfl (.cur rfl (.cons rfl .nil)) rfl (fun⟨_,_,_⟩=>rfl) (fun _=>rfl) (fun⟨_,_,_⟩=>rfl) rfl rfl) ?_
      rintro⟨⟨x119,i2120,h2121⟩,hq122⟩
      try dsimp only at hq122
      try dsimp only
      obtain⟨q123,q124⟩:=hq122
      refine dT 9 rfl pB ?_
      refine dT 11 rfl (pX [(0,1),(1,1)] [.int .i64 0,.slice none 0 0]) ?_
      refine dO 12 rfl (oS 2) ?_
      refine dE ?_
      refine S8 Tryz.func12 (X9 2 .nil) (⟨IntKind.i64.wrap ((IntKind.i64.wrap ((fs5.length:Int) - (b6.length:Int))) + x119),v11⟩) ?_ ?_
      ·(try dsimp only) <;>(exact⟨⟨j5 _,f5 _⟩,by assumption,by assumption⟩)
      ·rfl
     ·
      rintro⟨⟨x113,i2114,h2115⟩,hq116⟩
      try dsimp only at hq116
      try dsimp only
      obtain⟨q117,q118⟩:=hq116
      refine dT 6 rfl pB ?_
      refine dT 9 rfl pB ?_
      refine dT 11 rfl (pX [(0,1),(1,1)] [.int .i64 0,.slice none 0 0]) ?_
      refine dO 12 rfl (oS 2) ?_
      refine dE ?_
      refine S8 Tryz.func12 (X9 2 .nil) (⟨IntKind.i64.wrap ((IntKind.i64.wrap ((fs5.length:Int) - (b6.length:Int))) + x113),v11⟩) ?_ ?_
      ·(try dsimp only) <;>(exact⟨⟨j5 _,f5 _⟩,by assumption,by assumption⟩)
      ·rfl
    ·
     rintro⟨⟨x107,i2108,h2109⟩,hq110⟩
     try dsimp only at hq110
     try dsimp only
     obtain⟨q111,q112⟩:=hq110
     refine dT 5 rfl (X6 rfl rfl) ?_
     refine dT 6 rfl pB ?_
     refine dT 9 rfl pB ?_
     refine dT 11 rfl (pX [(0,1),(1,1)] [.int .i64 0,.slice none 0 0]) ?_
     refine dO 12 rfl (oS 2) ?_
     refine dE ?_
     refine S8 Tryz.func12 (X9 2 .nil) (⟨IntKind.i64.wrap ((IntKind.i64.wrap ((fs5.length:Int) - (b6.length:Int))) + x107),v11⟩) ?_ ?_
     ·(try dsimp only) <;>(exact⟨⟨j5 _,f5 _⟩,by assumption,by assumption⟩)
     ·rfl
   ·
    rintro⟨⟩
    refine G8 2 8 rfl rfl (by kernel_rfl) rfl rfl (N4 (P9 rfl rfl rfl)) (o9 1 4 5 (pv:=none) (H9 Tryz.func41) (r9 code 0 h1 3 (by omega) (by omega) (by omega) (by omega) (by omega)) rfl rfl (.cur rfl (.cons rfl .nil)) rfl (fun⟨_,_,_⟩=>rfl) (fun _=>rfl) (fun⟨_,_,_⟩=>rfl) rfl rfl) ?_ ?_
    ·
     rintro⟨⟩
     refine G8 6 8 rfl rfl (by kernel_rfl) rfl rfl (N4 oB) (o9 1 4 5 (pv:=none) (H9 Tryz.func41) (r9 code 0 h1 3 (by omega) (by omega) (by omega) (by omega) (by omega)) rfl rfl (.cur rfl (.cons rfl .nil)) rfl (fun⟨_,_,_⟩=>rfl) (fun _=>rfl) (fun⟨_,_,_⟩=>rfl) rfl rfl) ?_ ?_
     ·
      rintro⟨⟩
      refine J0 8 rfl (o9 1 4 5 (pv:=none) (H9 Tryz.func41) (r9 code 0 h1 3 (by omega) (by omega) (by omega) (by omega) (by omega)) rfl rfl (.cur rfl (.cons rfl .nil)) rfl (fun⟨_,_,_⟩=>rfl) (fun _=>rfl) (fun⟨_,_,_⟩=>rfl) rfl rfl) ?_
      rintro⟨⟨x137,i2138,h2139⟩,hq140⟩
      try dsimp only at hq140
      try dsimp only
      obtain⟨q141,q142⟩:=hq140
      refine dT 9 rfl pB ?_
      refine dT 11 rfl (pX [(0,1),(1,1)] [.int .i64 0,.slice none 0 0]) ?_
      refine dO 12 rfl (oS 2) ?_
      refine dE ?_
      refine S8 Tryz.func12 (X9 2 .nil) (⟨IntKind.i64.wrap ((IntKind.i64.wrap ((fs5.length:Int) - (b6.length:Int))) + x137),v11⟩) ?_ ?_
      ·(try dsimp only) <;>(exact⟨⟨j5 _,f5 _⟩,by assumption,by assumption⟩)
      ·rfl
     ·
      rintro⟨⟨x131,i2132,h2133⟩,hq134⟩
      try dsimp only at hq134
      try dsimp only
      obtain⟨q135,q136⟩:=hq134
      refine dT 6 rfl pB ?_
      refine dT 9 rfl pB ?_
      refine dT 11 rfl (pX [(0,1),(1,1)] [.int .i64 0,.slice none 0 0]) ?_
      refine dO 12 rfl (oS 2) ?_
      refine dE ?_
      refine S8 Tryz.func12 (X9 2 .nil) (⟨IntKind.i64.wrap ((IntKind.i64.wrap ((fs5.length:Int) - (b6.length:Int))) + x131),v11⟩) ?_ ?_
      ·(try dsimp only) <;>(exact⟨⟨j5 _,f5 _⟩,by assumption,by assumption⟩)
      ·rfl
    ·
     rintro⟨⟨x125,i2126,h2127⟩,hq128⟩
     try dsimp only at hq128
     try dsimp only
     obtain⟨q129,q130⟩:=hq128
     refine dT 2 rfl (X6 rfl rfl) ?_
     refine dT 6 rfl pB ?_
     refine dT 9 rfl pB ?_
     refine dT 11 rfl (pX [(0,1),(1,1)] [.int .i64 0,.slice none 0 0]) ?_
     refine dO 12 rfl (oS 2) ?_
     refine dE ?_
     refine S8 Tryz.func12 (X9 2 .nil) (⟨IntKind.i64.wrap ((IntKind.i64.wrap ((fs5.length:Int) - (b6.length:Int))) + x125),v11⟩) ?_ ?_
     ·(try dsimp only) <;>(exact⟨⟨j5 _,f5 _⟩,by assumption,by assumption⟩)
     ·rfl
   ·
    rintro⟨⟨x101,i2102,h2103⟩,hq104⟩
    try dsimp only at hq104
    try dsimp only
    obtain⟨q105,q106⟩:=hq104
    refine dT 2 rfl (X6 rfl rfl) ?_
    refine dT 5 rfl (X6 rfl rfl) ?_
    refine dT 6 rfl pB ?_
    refine dT 9 rfl pB ?_
    refine dT 11 rfl (pX [(0,1),(1,1)] [.int .i64 0,.slice none 0 0]) ?_
    refine dO 12 rfl (oS 2) ?_
    refine dE ?_
    refine S8 Tryz.func12 (X9 2 .nil) (⟨IntKind.i64.wrap ((IntKind.i64.wrap ((fs5.length:Int) - (b6.length:Int))) + x101),v11⟩) ?_ ?_
    ·(try dsimp only) <;>(exact⟨⟨j5 _,f5 _⟩,by assumption,by assumption⟩)
    ·rfl
  ·
   rintro⟨⟩
   refine G8 1 8 rfl rfl (by kernel_rfl) rfl rfl (N4 oL) (o9 1 4 5 (pv:=none) (H9 Tryz.func41) (r9 code 0 h1 3 (by omega) (by omega) (by omega) (by omega) (by omega)) rfl rfl (.cur rfl (.cons rfl .nil)) rfl (fun⟨_,_,_⟩=>rfl) (fun _=>rfl) (fun⟨_,_,_⟩=>rfl) rfl rfl) ?_ ?_
   ·
    rintro⟨⟩
    refine G8 2 8 rfl rfl (by kernel_rfl) rfl rfl (N4 (P9 rfl rfl rfl)) (o9 1 4 5 (pv:=none) (H9 Tryz.func41) (r9 code 0 h1 3 (by omega) (by omega) (by omega) (by omega) (by omega)) rfl rfl (.cur rfl (.cons rfl .nil)) rfl (fun⟨_,_,_⟩=>rfl) (fun _=>rfl) (fun⟨_,_,_⟩=>rfl) rfl rfl) ?_ ?_
    ·
     rintro⟨⟩
     refine G8 6 8 rfl rfl (by kernel_rfl) rfl rfl (N4 oB) (o9 1 4 5 (pv:=none) (H9 Tryz.func41) (r9 code 0 h1 3 (by omega) (by omega) (by omega) (by omega) (by omega)) rfl rfl (.cur rfl (.cons rfl .nil)) rfl (fun⟨_,_,_⟩=>rfl) (fun _=>rfl) (fun⟨_,_,_⟩=>rfl) rfl rfl) ?_ ?_
     ·
      rintro⟨⟩
      refine J0 8 rfl (o9 1 4 5 (pv:=none) (H9 Tryz.func41) (r9 code 0 h1 3 (by omega) (by omega) (by omega) (by omega) (by omega)) rfl rfl (.cur rfl (.cons rfl .nil)) rfl (fun⟨_,_,_⟩=>rfl) (fun _=>rfl) (fun⟨_,_,_⟩=>rfl) rfl rfl) ?_
      rintro⟨⟨x161,i2162,h2163⟩,hq164⟩
      try dsimp only at hq164
      try dsimp only
      obtain⟨q165,q166⟩:=hq164
      refine dT 9 rfl pB ?_
      refine dT 11 rfl (pX [(0,1),(1,1)] [.int .i64 0,.slice none 0 0]) ?_
      refine dO 12 rfl (oS 2) ?_
      refine dE ?_
      refine S8 Tryz.func12 (X9 2 .nil) (⟨IntKind.i64.wrap ((IntKind.i64.wrap ((fs5.length:Int) - (b6.length:Int))) + x161),v11⟩) ?_ ?_
      ·(try dsimp only) <;>(exact⟨⟨j5 _,f5 _⟩,by assumption,by assumption⟩)
      ·rfl
     ·
      rintro⟨⟨x155,i2156,h2157⟩,hq158⟩
      try dsimp only at hq158
      try dsimp only
      obtain⟨q159,q160⟩:=hq158
      refine dT 6 rfl pB ?_
      refine dT 9 rfl pB ?_
      refine dT 11 rfl (pX [(0,1),(1,1)] [.int .i64 0,.slice none 0 0]) ?_
      refine dO 12 rfl (oS 2) ?_
      refine dE ?_
      refine S8 Tryz.func12 (X9 2 .nil) (⟨IntKind.i64.wrap ((IntKind.i64.wrap ((fs5.length:Int) - (b6.length:Int))) + x155),v11⟩) ?_ ?_
      ·(try dsimp only) <;>(exact⟨⟨j5 _,f5 _⟩,by assumption,by assumption⟩)
      ·rfl
    ·
     rintro⟨⟨x149,i2150,h2151⟩,hq152⟩
     try dsimp only at hq152
     try dsimp only
     obtain⟨q153,q154⟩:=hq152
     refine dT 2 rfl (X6 rfl rfl) ?_
     refine dT 6 rfl pB ?_
     refine dT 9 rfl pB ?_
     refine dT 11 rfl (pX [(0,1),(1,1)] [.int .i64 0,.slice none 0 0]) ?_
     refine dO 12 rfl (oS 2) ?_
     refine dE ?_
     refine S8 Tryz.func12 (X9 2 .nil) (⟨IntKind.i64.wrap ((IntKind.i64.wrap ((fs5.length:Int) - (b6.length:Int))) + x149),v11⟩) ?_ ?_
     ·(try dsimp only) <;>(exact⟨⟨j5 _,f5 _⟩,by assumption,by assumption⟩)
     ·rfl
   ·
    rintro⟨⟨x143,i2144,h2145⟩,hq146⟩
    try dsimp only at hq146
    try dsimp only
    obtain⟨q147,q148⟩:=hq146
    refine dT 1 rfl pL ?_
    refine dT 2 rfl (X6 rfl rfl) ?_
    refine dT 6 rfl pB ?_
    refine dT 9 rfl pB ?_
    refine dT 11 rfl (pX [(0,1),(1,1)] [.int .i64 0,.slice none 0 0]) ?_
    refine dO 12 rfl (oS 2) ?_
    refine dE ?_
    refine S8 Tryz.func12 (X9 2 .nil) (⟨IntKind.i64.wrap ((IntKind.i64.wrap ((fs5.length:Int) - (b6.length:Int))) + x143),v11⟩) ?_ ?_
    ·(try dsimp only) <;>(exact⟨⟨j5 _,f5 _⟩,by assumption,by assumption⟩)
    ·rfl
  ·
   rintro⟨⟨x95,i296,h297⟩,hq98⟩
   try dsimp only at hq98
   try dsimp only
   obtain⟨q99,q100⟩:=hq98
   refine dT 1 rfl pL ?_
   refine dT 2 rfl (X6 rfl rfl) ?_
   refine dT 5 rfl (X6 rfl rfl) ?_
   refine dT 6 rfl pB ?_
   refine dT 9 rfl pB ?_
   refine dT 11 rfl (pX [(0,1),(1,1)] [.int .i64 0,.slice none 0 0]) ?_
   refine dO 12 rfl (oS 2) ?_
   refine dE ?_
   refine S8 Tryz.func12 (X9 2 .nil) (⟨IntKind.i64.wrap ((IntKind.i64.wrap ((fs5.length:Int) - (b6.length:Int))) + x95),v11⟩) ?_ ?_
   ·(try dsimp only) <;>(exact⟨⟨j5 _,f5 _⟩,by assumption,by assumption⟩)
   ·rfl
 ·
  rintro⟨⟨x17,i218,h219⟩,hq20⟩
  try dsimp only at hq20
  try dsimp only
  obtain⟨q21,q22⟩:=hq20
  refine dT 1 rfl pL ?_
  refine dT 2 rfl (X6 rfl rfl) ?_
  refine dT 4 rfl pL ?_
  refine dT 5 rfl (X6 rfl rfl) ?_
  refine dT 6 rfl pB ?_
  refine dT 9 rfl pB ?_
  refine dT 11 rfl (pX [(0,1),(1,1)] [.int .i64 0,.slice none 0 0]) ?_
  refine dO 12 rfl (oS 2) ?_
  refine dE ?_
  refine S8 Tryz.func12 (X9 2 .nil) (⟨IntKind.i64.wrap ((IntKind.i64.wrap ((fs5.length:Int) - (b6.length:Int))) + x17),v11⟩) ?_ ?_
  ·(try dsimp only) <;>(exact⟨⟨j5 _,f5 _⟩,by assumption,by assumption⟩)
  ·rfl
theorem QY (code:List Int)(hc:code.length≤1048576):wK Tryz.prog 13 [.c (.t none (.sl 1 u7 code))] (fun(kk:Int)=>B7 kk) (fun(kk:Int)=>[]) 0 (fun(kk:Int)=> .c (.t none (.v (.int .i64 kk)))):=by
 refine P4 Tryz.func13 rfl (Nat.le_of_ble_eq_true rfl) fun w S=>?_
 refine t9<|rA<|P8 ?_
 refine rM ?_
 refine K8 (R4 0 1 (H9 Tryz.func39) (M3 code (by omega)) rfl (.cons rfl (.c .t0) .nil) rfl rfl) ?_
 rintro⟨h1,hq2⟩
 try dsimp only at hq2
 try dsimp only
 refine K8 (o9 0 1 2 (pv:=none) (H9 Tryz.func41) (r9 code 0 h1 6 (by omega) (by omega) (by omega) (by omega) (by omega)) rfl rfl (.cur rfl (.cons rfl .nil)) rfl (fun⟨_,_,_⟩=>rfl) (fun _=>rfl) (fun⟨_,_,_⟩=>rfl) rfl rfl) ?_
 rintro⟨⟨x4,i25,h26⟩,hq7⟩
 try dsimp only at hq7
 try dsimp only
 obtain⟨q8,q9⟩:=hq7
 refine rB ?_
 refine rA<|c9 ?_
 refine S8 Tryz.func13 (.tmp rfl .nil) (IntKind.i64.wrap (x4 - 1)) ?_ ?_
 ·(try dsimp only) <;>(exact⟨j5 _,f5 _⟩)
 ·rfl
theorem bW (code:List Int)(hc:code.length≤1048576):wK Tryz.prog 14 [.c (.t none (.sl 1 u7 code))] (fun(⟨rs2,fs2⟩:T9 × w9)=>NY rs2 fs2) (fun(⟨rs2,fs2⟩:T9 × w9)=>[]) 0 (fun(⟨rs2,fs2⟩:T9 × w9)=> .agg [.t none (.sl 3 (j8 Y9 f9 U9) rs2),.t none (.sl 2 (y9 f9 (x9 1 f9)) fs2)]):=by
 refine P4 Tryz.func14 rfl (Nat.le_of_ble_eq_true rfl) fun w S=>?_
 refine t9 ?_
 refine d9 (F9 0 (zs:=[.slice none 0 0,.slice none 0 0]) rfl rfl (by kernel_rfl) rfl) ?_
 refine P8<|rM ?_
 refine K8 (R4 1 2 (H9 Tryz.func39) (M3 code (by omega)) rfl (.cons rfl (.c .t0) .nil) rfl rfl) ?_
 rintro⟨h1,hq2⟩
 try dsimp only at hq2
 try dsimp only
 refine K8 (o9 1 2 3 (pv:=none) (H9 Tryz.func42) (xY code 0 h1 (by omega) (by omega) (by omega)) rfl rfl (.cur rfl .nil) rfl (fun⟨_,_,_,_⟩=>rfl) (fun _=>rfl) (fun⟨_,_,_,_⟩=>rfl) rfl rfl) ?_
 rintro⟨⟨rs4,fs5,i26,h27⟩,hq8⟩
 try dsimp only at hq8
 try dsimp only
 obtain⟨q9,q10⟩:=hq8
 refine rS 2<|c9 ?_
 refine S8 Tryz.func14 (X9 2 .nil) (⟨rs4,fs5⟩) ?_ ?_
 ·(try dsimp only) <;> assumption
 ·rfl
def Tryz.laysI_ren : Go.Shelf.Ren := ⟨fun | 171 => 101 | 243 => 158 | 246 => 197 | 283 => 230 | 284 => 231 | 285 => 232 | 286 => 233 | 129 => 229 | 317 => 256 | 318 => 257 | 319 => 258 | 320 => 259 | 337 => 267 | 338 => 268 | n => n, fun | 3 => 3 | 9 => 9 | 2 => 2 | 4 => 4 | 171 => 219 | 0 => 0 | 53 => 218 | 37 => 22 | 5 => 5 | 173 => 221 | 212 => 240 | 51 => 216 | 20 => 20 | 213 => 241 | 46 => 170 | 232 => 257 | 233 => 258 | n => n, fun | 17 => 1 | 18 => 4 | 19 => 5 | n => n⟩
theorem Tryz.laysI : Go.Proofs.LaysM.n171 Tryz.prog Tryz.laysI_ren := {
 mixed := by kernel_rfl
 f129 := Tryz.func229.trans (congrArg some (by kernel_rfl))
 f171 := Tryz.func101.trans (congrArg some (by kernel_rfl))
 f243 := Tryz.func158.trans (congrArg some (by kernel_rfl))
 f246 := Tryz.func197.trans (congrArg some (by kernel_rfl))
 f283 := Tryz.func230.trans (congrArg some (by kernel_rfl))
 f284 := Tryz.func231.trans (congrArg some (by kernel_rfl))
 f285 := Tryz.func232.trans (congrArg some (by kernel_rfl))
 f286 := Tryz.func233.trans (congrArg some (by kernel_rfl))
 f317 := Tryz.func256.trans (congrArg some (by kernel_rfl))
 f318 := Tryz.func257.trans (congrArg some (by kernel_rfl))
 f319 := Tryz.func258.trans (congrArg some (by kernel_rfl))
 f320 := Tryz.func259.trans (congrArg some (by kernel_rfl))
 f337 := Tryz.func267.trans (congrArg some (by kernel_rfl))
 f338 := Tryz.func268.trans (congrArg some (by kernel_rfl))
 t0 := Tryz.underlying0
 a0 := Tryz.isAgg0
 z0 := Tryz.sizeOf0
 v0 := Tryz.zeroValue0
 t2 := Tryz.underlying2
 a2 := Tryz.isAgg2
 z2 := Tryz.sizeOf2
 v2 := Tryz.zeroValue2
 t3 := Tryz.underlying3
 a3 := Tryz.isAgg3
 z3 := Tryz.sizeOf3
 v3 := Tryz.zeroValue3
 t4 := Tryz.underlying4
 a4 := Tryz.isAgg4
 z4 := Tryz.sizeOf4
 v4 := Tryz.zeroValue4
 t5 := Tryz.underlying5
 a5 := Tryz.isAgg5
 z5 := Tryz.sizeOf5
 v5 := Tryz.zeroValue5
 t9 := Tryz.underlying9
 a9 := Tryz.isAgg9
 z9 := Tryz.sizeOf9
 v9 := Tryz.zeroValue9
 t20 := Tryz.underlying20
 a20 := Tryz.isAgg20
 z20 := Tryz.sizeOf20
 v20 := Tryz.zeroValue20
 t37 := Tryz.underlying22
 a37 := Tryz.isAgg22
 z37 := Tryz.sizeOf22
 v37 := Tryz.zeroValue22
 t46 := Tryz.underlying170
 a46 := Tryz.isAgg170
 z46 := Tryz.sizeOf170
 v46 := Tryz.zeroValue170
 t51 := Tryz.underlying216
 a51 := Tryz.isAgg216
 z51 := Tryz.sizeOf216
 v51 := Tryz.zeroValue216
 t53 := Tryz.underlying218
 a53 := Tryz.isAgg218
 z53 := Tryz.sizeOf218
 v53 := Tryz.zeroValue218
 t171 := Tryz.underlying219
 a171 := Tryz.isAgg219
 z171 := Tryz.sizeOf219
 v171 := Tryz.zeroValue219
 t173 := Tryz.underlying221
 a173 := Tryz.isAgg221
 z173 := Tryz.sizeOf221
 v173 := Tryz.zeroValue221
 t212 := Tryz.underlying240
 a212 := Tryz.isAgg240
 z212 := Tryz.sizeOf240
 v212 := Tryz.zeroValue240
 t213 := Tryz.underlying241
 a213 := Tryz.isAgg241
 z213 := Tryz.sizeOf241
 t232 := Tryz.underlying257
 a232 := Tryz.isAgg257
 z232 := Tryz.sizeOf257
 v232 := Tryz.zeroValue257
 t233 := Tryz.underlying258
 a233 := Tryz.isAgg258
 z233 := Tryz.sizeOf258
 v233 := Tryz.zeroValue258
 g17 := by kernel_rfl
 g18 := by kernel_rfl
 g19 := by kernel_rfl
 i0 := by kernel_rfl
 i2 := by kernel_rfl
 i3 := by kernel_rfl
 i4 := by kernel_rfl
 i5 := by kernel_rfl
 i9 := by kernel_rfl
 i20 := by kernel_rfl
 i37 := by kernel_rfl
 i46 := by kernel_rfl
 i51 := by kernel_rfl
 i53 := by kernel_rfl
 i171 := by kernel_rfl
 i173 := by kernel_rfl
 i212 := by kernel_rfl
 i232 := by kernel_rfl
 i233 := by kernel_rfl
 m17 := by kernel_rfl
 m18 := by kernel_rfl
 m19 := by kernel_rfl }
theorem uT (i:Int)(hi:B7 i):aL (DT Tryz.prog) Tryz.prog 101 [.c (.t none (.v (.int .i64 i)))] [] 0 (.c (.t none (.v (.string (U6 (VY i)))))):=by
 exact CL Tryz.laysI i hi
theorem N2 (i:Int)(hi:B7 i):aL (DT Tryz.prog) Tryz.prog 44 [.c (.t none (.v (.int .i64 i)))] [] 0 (.c (.t none (.v (.string (U6 (VY i)))))):=by
 refine PX Tryz.func44 rfl (Nat.le_of_ble_eq_true rfl) fun w S hT=>?_
 refine t9<|rA<|P8 ?_
 refine rM ?_
 refine d9 (HY (fun _ hk=>nZ hk hT) 0 0 false (H9 Tryz.func101) (uT i (by omega)) rfl (.cons rfl (.c .t0) .nil) rfl rfl rfl) ?_
 refine rA<|c9 ?_
 refine tk Tryz.func44 (.tmp rfl .nil) ?_
 all_goals rfl
theorem IW (v:Int)(hv:B7 v):aL (DT Tryz.prog) Tryz.prog 43 [.c (.t none (.v (.int .i64 v)))] [] 0 (.c (.t none (.v (.string (U6 (XY v)))))):=by
 refine PX Tryz.func43 rfl (Nat.le_of_ble_eq_true rfl) fun w S hT=>?_
 have h1:=hv.1;have h2:=hv.2;have f0:=WZ (k:=v) hv
 refine t9<|rA<|c9<|k9<|p9<|t9 ?_
 refine rM ?_
 refine d9 (n9 0 0 false (H9 Tryz.func99) (a6 v) rfl (.cons rfl (.c .t0) .nil) rfl rfl rfl) ?_
 refine d9 (E8 rfl rfl) ?_
 refine rA<|c9 ?_
 refine j9 rfl (fun h1=>?_) (fun h1=>?_)
 ·
  have h1':=d8 (d4 h1)
  refine t9<|rA<|c9 ?_
  refine tk Tryz.func43 (.tmp rfl .nil) ?_
  all_goals(refine EP ?_;(exact kN (by omega)))
 ·
  have h1':=a8 (Y5 h1)
  refine t9<|rM ?_
  refine d9 (n9 0 0 false (H9 Tryz.func100) (MZ v) rfl (.cons rfl (.c .t0) .nil) rfl rfl rfl) ?_
  refine rA<|c9 ?_
  refine j9 rfl (fun h2=>?_) (fun h2=>?_)
  ·
   have h2':=a8 h2
   refine t9<|rM ?_
   refine rB ?_
   refine d9 (HY (fun _ hk=>nZ hk hT) 0 0 false (H9 Tryz.func44) (N2 (IntKind.i64.wrap ((-1) - v)) (by exact⟨j5 _,f5 _⟩)) rfl (.cons rfl (.c .t0) .nil) rfl rfl rfl) ?_
   refine d9 (AZ rfl rfl rfl (by(refine Nat.le_trans (Nat.add_le_add_left (WZ (by exact⟨j5 _,f5 _⟩)) _) (by decide)))) ?_
   refine rA<|c9 ?_
   refine tk Tryz.func43 (.tmp rfl .nil) ?_
   all_goals(refine EP ?_;(exact HM (by omega)))
  ·
   have h2':=d8 h2
   refine m9<|i9<|t9<|rM ?_
   refine d9 (HY (fun _ hk=>nZ hk hT) 0 0 false (H9 Tryz.func44) (N2 v (by omega)) rfl (.cons rfl (.c .t0) .nil) rfl rfl rfl) ?_
   refine rA<|c9 ?_
   refine tk Tryz.func43 (.tmp rfl .nil) ?_
   all_goals(refine EP ?_;(exact UP (by omega)))
def Tryz.laysJ_ren : Go.Shelf.Ren := ⟨fun | 156 => 45 | 165 => 102 | 166 => 103 | 169 => 104 | 240 => 159 | 241 => 160 | 276 => 198 | 277 => 199 | n => n, fun | 31 => 74 | 9 => 9 | 3 => 3 | 4 => 4 | 0 => 0 | 20 => 20 | 72 => 131 | 76 => 135 | 70 => 129 | 37 => 22 | 75 => 134 | 127 => 172 | 164 => 195 | 5 => 5 | 80 => 137 | n => n, fun | n => n⟩
theorem Tryz.laysJ : Go.Proofs.Lays.n156 Tryz.prog Tryz.laysJ_ren := {
 mixed := by kernel_rfl
 f156 := Tryz.func45.trans (congrArg some (by kernel_rfl))
 f165 := Tryz.func102.trans (congrArg some (by kernel_rfl))
 f166 := Tryz.func103.trans (congrArg some (by kernel_rfl))
 f169 := Tryz.func104.trans (congrArg some (by kernel_rfl))
 f240 := Tryz.func159.trans (congrArg some (by kernel_rfl))
 f241 := Tryz.func160.trans (congrArg some (by kernel_rfl))
 f276 := Tryz.func198.trans (congrArg some (by kernel_rfl))
 f277 := Tryz.func199.trans (congrArg some (by kernel_rfl))
 t0 := Tryz.underlying0
 a0 := Tryz.isAgg0
 z0 := Tryz.sizeOf0
 v0 := Tryz.zeroValue0
 t3 := Tryz.underlying3
 a3 := Tryz.isAgg3
 z3 := Tryz.sizeOf3
 v3 := Tryz.zeroValue3
 t4 := Tryz.underlying4
 a4 := Tryz.isAgg4
 z4 := Tryz.sizeOf4
 v4 := Tryz.zeroValue4
 t9 := Tryz.underlying9
 a9 := Tryz.isAgg9
 z9 := Tryz.sizeOf9
 v9 := Tryz.zeroValue9
 t20 := Tryz.underlying20
 a20 := Tryz.isAgg20
 z20 := Tryz.sizeOf20
 v20 := Tryz.zeroValue20
 t31 := Tryz.underlying74
 a31 := Tryz.isAgg74
 z31 := Tryz.sizeOf74
 v31 := Tryz.zeroValue74
 t37 := Tryz.underlying22
 a37 := Tryz.isAgg22
 z37 := Tryz.sizeOf22
 v37 := Tryz.zeroValue22
 t70 := Tryz.underlying129
 a70 := Tryz.isAgg129
 z70 := Tryz.sizeOf129
 v70 := Tryz.zeroValue129
 t72 := Tryz.underlying131
 a72 := Tryz.isAgg131
 z72 := Tryz.sizeOf131
 v72 := Tryz.zeroValue131
 t75 := Tryz.underlying134
 a75 := Tryz.isAgg134
 z75 := Tryz.sizeOf134
 v75 := Tryz.zeroValue134
 t76 := Tryz.underlying135
 a76 := Tryz.isAgg135
 z76 := Tryz.sizeOf135
 v76 := Tryz.zeroValue135
 t127 := Tryz.underlying172
 a127 := Tryz.isAgg172
 z127 := Tryz.sizeOf172
 v127 := Tryz.zeroValue172
 t164 := Tryz.underlying195
 a164 := Tryz.isAgg195
 z164 := Tryz.sizeOf195
 v164 := Tryz.zeroValue195 }
theorem Tryz.extraJ:Go.Proofs.Builder.Extra Tryz.prog Tryz.laysJ_ren where
 sizeBuilder:=by kernel_rfl
 liesBuilder:=by kernel_rfl
 t5:=by kernel_rfl
 a5:=fun _=>by kernel_rfl
 z5:=fun _=>by kernel_rfl
 v5:=fun _=>by kernel_rfl
 infoByte:=by kernel_rfl
 cellsByte:=by kernel_rfl
 sizeByte:=by kernel_rfl
 neB5:=by decide
theorem iS (xs:List (List UInt8))(sep:List UInt8)(h1:xs.length≤140737488355328)(h2:(Lib.join xs sep).length≤140737488355328):Pu Tryz.prog 45 [.c (.t none (.sl 1 Y9 xs)),.c (.t none (.v (.string (U6 sep))))] [] 0 (.c (.t none (.v (.string (U6 (Lib.join xs sep)))))):=by
 exact KJ Tryz.laysJ Tryz.extraJ xs sep h1 h2
theorem GZ (d:Int)(b:List Int)(hd0:B7 d)(hb:b.length≤1048576)(ho:∀x∈b,B7 x):aL (DT Tryz.prog) Tryz.prog 15 [.agg [.t none (.v (.int .i64 d)),.t none (.sl 1 f9 b)]] [] 0 (.c (.t none (.v (.string (U6 (bI d b)))))):=by
 refine PX Tryz.func15 rfl (Nat.le_of_ble_eq_true rfl) fun w S hT=>?_
 have f0:=WZ (k:=d) hd0
 refine t9 ?_
 refine d9 (m8 0 rfl rfl rfl rfl) ?_
 refine rA<|P8 ?_
 refine d9 (c7 1 (e:=9) (sz:=1) (zs:=[.string (U6 ([]))]) Y9 rfl rfl (by kernel_rfl) rfl) ?_
 refine rA<|c9<|k9<|t9 ?_
 refine rF 1 ?_
 refine rL ?_
 refine d9 (P9 rfl rfl rfl) ?_
 refine rM<|c9<|p9 ?_
 refine J9 (fun m=>⟨[(1,some (.c (.ptr 0 0))),(2,some (.c (.t none (.v (.string (U6 (([]:List UInt8)))))))),(3,some (.c (.own 1))),(9,some (.c (.t none (.sl 1 f9 b)))),(10,some (.c (.t none (.v (.int .i64 ((b.length:Int))))))),(11,some (.c (.t none (.v (.int .i64 ((m:Int)))))))],[(0,some (.box [.t none (.v (.int .i64 d)),.t none (.sl 1 f9 b)])),(1,some (.row none 9 true 1 Y9 ((b.take m).map A4)))],2⟩:Nat→St) (fun m=>m≤b.length) (fun m=>b.length - m) 0 ⟨⟨rfl,⟨rfl,⟨rfl,⟨rfl,⟨rfl,⟨rfl,trivial⟩⟩⟩⟩⟩⟩,⟨rfl,⟨(Q8 rfl),trivial⟩⟩,rfl⟩ (by exact Nat.zero_le _) ?_
 rintro m hI ih0
 try dsimp only at hI ih0
 have i1:=hI;have ml:=tP (f:=A4) cR b m [44];(try simp only [List.length_cons,List.length_nil] at ml);have mm:((b.take m).map A4).length≤b.length:=(by rw [List.length_map,List.length_take];omega)
 refine t9<|rB<|c9<|k9 ?_
 refine j9 rfl (fun h1=>?_) (fun h1=>?_)
 ·
  have h1':=a8 h1
  refine m9<|k9<|p9<|t9 ?_
  obtain⟨z2,hz3,b4⟩:=v9 (xs:=b) (n:=(m:Int)) (by omega) (by omega)
  refine d9 (Q9 rfl (by kernel_rfl) rfl rfl b4 hz3) ?_
  refine d9 (i8 rfl (by kernel_rfl) rfl rfl) ?_
  refine rA<|P8 ?_
  refine rM ?_
  refine d9 (HY (fun _ hk=>nZ hk hT) 2 2 false (H9 Tryz.func43) (IW z2 (by exact ho _ (D8 (by assumption)))) rfl (.cons rfl (.c .t0) .nil) rfl rfl rfl) ?_
  refine rA<|c9<|k9<|t9 ?_
  refine rM ?_
  refine d9 (VP rfl rfl rfl rfl) ?_
  refine c9 ?_
  refine j9 rfl (fun h5=>?_) (fun h5=>?_)
  ·
   have h5':=a8 h5
   refine l9<|rA<|EO ?_
   refine rM ?_
   refine rM ?_
   refine d9 (w8 2 (e:=9) (sz:=1) (zs:=[.string (U6 ([]))]) rfl rfl (by kernel_rfl) rfl rfl rfl rfl rfl) ?_
   refine d9 (W9 1 (e:=9) (sz:=1) (by':=16) (([45]:List UInt8)) rfl (by kernel_rfl) rfl rfl rfl rfl rfl rfl (.cons .sc .nil) rfl (by omega) (by omega)) ?_
   refine rA<|c9<|i9<|l9 ?_
   refine rB ?_
   refine rM<|c9 ?_
   refine Z9 ?_ (ih0 (m + 1) (by(try dsimp only);omega) (by(try dsimp only);omega))
   exact⟨⟨rfl,⟨rfl,⟨rfl,⟨rfl,⟨rfl,⟨(L7 (n8 (by omega) (by omega))),trivial⟩⟩⟩⟩⟩⟩,⟨rfl,⟨(Q8 (bR (m:=m) hz3 (by exact YU (by assumption)))),trivial⟩⟩,rfl⟩
  ·
   have h5':=d8 h5
   refine m9<|l9<|rM ?_
   refine rM ?_
   refine d9 (w8 2 (e:=9) (sz:=1) (zs:=[.string (U6 ([]))]) rfl rfl (by kernel_rfl) rfl rfl rfl rfl rfl) ?_
   refine d9 (W9 1 (e:=9) (sz:=1) (by':=16) (XY z2) rfl (by kernel_rfl) rfl rfl rfl rfl rfl rfl (.cons .sc .nil) rfl (by omega) (by omega)) ?_
   refine rA<|c9<|i9<|l9 ?_
   refine rB ?_
   refine rM<|c9 ?_
   refine Z9 ?_ (ih0 (m + 1) (by(try dsimp only);omega) (by(try dsimp only);omega))
   exact⟨⟨rfl,⟨rfl,⟨rfl,⟨rfl,⟨rfl,⟨(L7 (n8 (by omega) (by omega))),trivial⟩⟩⟩⟩⟩⟩,⟨rfl,⟨(Q8 (bR (m:=m) hz3 (by exact JV (by assumption)))),trivial⟩⟩,rfl⟩
 ·
  have h1':=d8 h1
  refine N9 rfl<|t9<|rF 0 ?_
  refine rL ?_
  refine d9 (HY (fun _ hk=>nZ hk hT) 2 2 false (H9 Tryz.func44) (N2 d (by omega)) rfl (.cons rfl (.c .t0) .nil) rfl rfl rfl) ?_
  refine d9 (AZ rfl rfl rfl (by(simp only [List.length_append,List.length_cons,List.length_nil];omega))) ?_
  refine rM ?_
  refine d9 (n9 2 2 false (H9 Tryz.func45) (iS ((b.take m).map A4) (([44]:List UInt8)) (by omega) (by omega)) rfl (.cons rfl (.c (.own rfl)) (.cons rfl (.c .t0) .nil)) rfl rfl rfl) ?_
  refine d9 (AZ rfl rfl rfl (by(simp only [List.length_append,List.length_cons,List.length_nil];omega))) ?_
  refine rA<|c9 ?_
  refine tk Tryz.func15 (.tmp rfl .nil) ?_ <;>(try clear ih0)
  all_goals(refine EP ?_;exact mP (by omega))
theorem CW (k:Int)(hk:0≤k)(hk2:k≤9223372036854775807):Pu Tryz.prog 46 [.c (.t none (.v (.int .i64 k)))] [] 0 (.c (.t none (.v (.string (U6 (yU k)))))):=by
 refine S7 Tryz.func46 fun w S=>?_
 refine t9<|rA<|c9<|k9<|t9 ?_
 refine rM ?_
 refine rB<|c9 ?_
 refine j9 rfl (fun h1=>?_) (fun h1=>?_)
 ·
  have h1':=a8 h1
  refine t9<|rA<|c9 ?_
  refine tk Tryz.func46 (.tmp rfl .nil) ?_ <;>(try clear ih0)
  all_goals(refine EP ?_;unfold yU;(rw [if_pos (by assumption)];done))
 ·
  have h1':=d8 h1
  refine m9<|t9<|rA<|P8 ?_
  refine rM ?_
  refine rB ?_
  refine rA<|c9<|k9<|p9 ?_
  refine J9 (fun(q,out)=>⟨[(0,some (.c (.t none (.v (.int .i64 ((q:Int))))))),(2,some (.c (.t none (.v (.string (U6 (([]:List UInt8)))))))),(3,some (.c (.t none (.v (.string (U6 out)))))),(4,some (.c (.t none (.v (.bool (decide (k < 0)))))))],[],0⟩:Nat × List UInt8→St) (fun(q,out)=>B1 q++out=B1 k.toNat∧(q:Int)≤k) (fun(q,out)=>q) (k.toNat,[]) ⟨⟨(L7 (by omega)),⟨rfl,⟨rfl,⟨rfl,trivial⟩⟩⟩⟩,trivial,rfl⟩ (by exact⟨List.append_nil _,by omega⟩) ?_
  rintro⟨q,out⟩ hI ih0
  try dsimp only at hI ih0
  obtain⟨i1,i2⟩:=hI;have ol:=QO i1 (by omega)
  refine k9<|t9<|rM ?_
  refine rB<|c9 ?_
  refine j9 rfl (fun h2=>?_) (fun h2=>?_)
  ·
   have h2':=a8 h2
   refine m9<|p9<|t9<|rM ?_
   refine d9 (U1 rfl rfl rfl (ZJ 10 rfl (by decide))) ?_
   refine rA<|c9<|k9<|t9 ?_
   refine rM ?_
   refine rB<|c9 ?_
   refine j9 rfl (fun h3=>?_) (fun h3=>?_)
   ·
    have h3':=a8 h3
    exfalso;omega
   ·
    have h3':=d8 h3
    refine m9<|t9<|rM ?_
    refine rB ?_
    refine d9 (sW rfl Tryz.underlying3 Tryz.underlying5 rfl) ?_
    refine d9 (M5 0 (e:=5) (sz:=1) (zs:=[.int .u8 0]) (enc:=u7) (IntKind.u8.wrap (IntKind.i64.wrap (48 +((q % 10:Nat):Int)))) rfl rfl (by kernel_rfl) rfl rfl rfl rfl rfl rfl (.cons .sc .nil)) ?_
    refine d9 (WV rfl Tryz.underlying22 Tryz.underlying5 Tryz.underlying9 rfl rfl) ?_
    refine rM ?_
    refine d9 (AZ rfl rfl rfl (by(simp [D4];omega))) ?_
    refine rA<|EO ?_
    refine rM ?_
    refine d9 (U1 rfl rfl rfl (RJ rfl (by omega))) ?_
    refine rA<|c9<|i9 ?_
    refine Z9 ?_ (ih0 (q / 10,(D4 ([IntKind.u8.wrap (IntKind.i64.wrap (48 +((q % 10:Nat):Int)))]))++out) (by(try dsimp only);omega) (by(try dsimp only);exact⟨by rw [zW,← i1,J2 (q:=q) (by omega),List.append_assoc],by omega⟩))
    exact⟨⟨rfl,⟨rfl,⟨rfl,⟨rfl,trivial⟩⟩⟩⟩,trivial,rfl⟩
  ·
   have h2':=d8 h2
   refine N9 rfl<|k9<|t9<|rM<|c9 ?_
   refine j9 rfl (fun h4=>?_) (fun h4=>?_)
   ·
    have h4':=a8 h4
    exfalso;omega
   ·
    have h4':=d8 h4
    refine m9<|t9<|rM ?_
    refine rA<|c9 ?_
    refine tk Tryz.func46 (.tmp rfl .nil) ?_ <;>(try clear ih0)
    all_goals(refine EP ?_;unfold yU;((obtain rfl:q=0:=by omega);(have e:=i1;simp only [B1,List.nil_append] at e;rw [if_neg (by omega),e])))
theorem wW (k:Int)(hk:k < 0)(hk2: -9223372036854775808≤k):Pu Tryz.prog 46 [.c (.t none (.v (.int .i64 k)))] [] 0 (.c (.t none (.v (.string (U6 (45::B1 k.natAbs)))))):=by
 refine S7 Tryz.func46 fun w S=>?_
 refine t9<|rA<|c9<|k9<|t9 ?_
 refine rM ?_
 refine rB<|c9 ?_
 refine j9 rfl (fun h1=>?_) (fun h1=>?_)
 ·
  have h1':=a8 h1
  exfalso;omega
 ·
  have h1':=d8 h1
  refine m9<|t9<|rA<|P8 ?_
  refine rM ?_
  refine rB ?_
  refine rA<|c9<|k9<|p9 ?_
  refine J9 (fun(q,out)=>⟨[(0,some (.c (.t none (.v (.int .i64 (-(q:Int))))))),(2,some (.c (.t none (.v (.string (U6 (([]:List UInt8)))))))),(3,some (.c (.t none (.v (.string (U6 out)))))),(4,some (.c (.t none (.v (.bool (decide (k < 0)))))))],[],0⟩:Nat × List UInt8→St) (fun(q,out)=>B1 q++out=B1 k.natAbs∧q≤k.natAbs) (fun(q,out)=>q) (k.natAbs,[]) ⟨⟨(L7 (by omega)),⟨rfl,⟨rfl,⟨rfl,trivial⟩⟩⟩⟩,trivial,rfl⟩ (by exact⟨List.append_nil _,Nat.le_refl _⟩) ?_
  rintro⟨q,out⟩ hI ih0
  try dsimp only at hI ih0
  obtain⟨i1,i2⟩:=hI;have ol:=QO i1 (by omega)
  refine k9<|t9<|rM ?_
  refine rB<|c9 ?_
  refine j9 rfl (fun h2=>?_) (fun h2=>?_)
  ·
   have h2':=a8 h2
   refine m9<|p9<|t9<|rM ?_
   refine d9 (U1 rfl rfl rfl (tJ rfl)) ?_
   refine rA<|c9<|k9<|t9 ?_
   refine rM ?_
   refine rB<|c9 ?_
   refine j9 rfl (fun h3=>?_) (fun h3=>?_)
   ·
    have h3':=a8 h3
    refine l9<|rM ?_
    refine d9 (DH rfl rfl) ?_
    refine rA<|P8 ?_
    refine rM ?_
    refine rB ?_
    refine d9 (sW rfl Tryz.underlying3 Tryz.underlying5 rfl) ?_
    refine d9 (M5 0 (e:=5) (sz:=1) (zs:=[.int .u8 0]) (enc:=u7) (IntKind.u8.wrap (IntKind.i64.wrap (48 +(IntKind.i64.wrap (0 - (-((q % 10:Nat):Int))))))) rfl rfl (by kernel_rfl) rfl rfl rfl rfl rfl rfl (.cons .sc .nil)) ?_
    refine d9 (WV rfl Tryz.underlying22 Tryz.underlying5 Tryz.underlying9 rfl rfl) ?_
    refine rM ?_
    refine d9 (AZ rfl rfl rfl (by(simp [D4];omega))) ?_
    refine rA<|EO ?_
    refine rM ?_
    refine d9 (U1 rfl rfl rfl (xN rfl (by omega))) ?_
    refine rA<|c9<|i9 ?_
    refine Z9 ?_ (ih0 (q / 10,(D4 ([IntKind.u8.wrap (IntKind.i64.wrap (48 +(IntKind.i64.wrap (0 - (-((q % 10:Nat):Int))))))]))++out) (by(try dsimp only);omega) (by(try dsimp only);exact⟨by(rw [JM,← i1,J2 (q:=q) (by omega),List.append_assoc]),by omega⟩))
    exact⟨⟨rfl,⟨rfl,⟨rfl,⟨rfl,trivial⟩⟩⟩⟩,trivial,rfl⟩
   ·
    have h3':=d8 h3
    refine m9<|t9<|rM ?_
    refine rB ?_
    refine d9 (sW rfl Tryz.underlying3 Tryz.underlying5 rfl) ?_
    refine d9 (M5 0 (e:=5) (sz:=1) (zs:=[.int .u8 0]) (enc:=u7) (IntKind.u8.wrap (IntKind.i64.wrap (48 +(-((q % 10:Nat):Int))))) rfl rfl (by kernel_rfl) rfl rfl rfl rfl rfl rfl (.cons .sc .nil)) ?_
    refine d9 (WV rfl Tryz.underlying22 Tryz.underlying5 Tryz.underlying9 rfl rfl) ?_
    refine rM ?_
    refine d9 (AZ rfl rfl rfl (by(simp [D4];omega))) ?_
    refine rA<|EO ?_
    refine rM ?_
    refine d9 (U1 rfl rfl rfl (xN rfl (by omega))) ?_
    refine rA<|c9<|i9 ?_
    refine Z9 ?_ (ih0 (q / 10,(D4 ([IntKind.u8.wrap (IntKind.i64.wrap (48 +(-((q % 10:Nat):Int))))]))++out) (by(try dsimp only);omega) (by(try dsimp only);exact⟨by(rw [eO (by assumption),← i1,J2 (q:=q) (by omega),List.append_assoc]),by omega⟩))
    exact⟨⟨rfl,⟨rfl,⟨rfl,⟨rfl,trivial⟩⟩⟩⟩,trivial,rfl⟩
  ·
   have h2':=d8 h2
   refine N9 rfl<|k9<|t9<|rM<|c9 ?_
   refine j9 rfl (fun h4=>?_) (fun h4=>?_)
   ·
    have h4':=a8 h4
    refine t9<|rM ?_
    refine d9 (AZ rfl rfl rfl (by(simp [D4];omega))) ?_
    refine rA<|c9 ?_
    refine tk Tryz.func46 (.tmp rfl .nil) ?_ <;>(try clear ih0)
    all_goals(refine EP ?_;(obtain rfl:q=0:=by omega);(have e:=i1;simp only [B1,List.nil_append] at e;rw [e];rfl))
   ·
    have h4':=d8 h4
    exfalso;omega
theorem M2 (k:Int)(hk:B7 k):Pu Tryz.prog 46 [.c (.t none (.v (.int .i64 k)))] [] 0 (.c (.t none (.v (.string (U6 (VY k)))))):=by
 by_cases h:0≤k
 ·rw [← WW h];exact CW k h hk.2
 ·rw [← QM (by omega)];exact wW k (by omega) hk.1
theorem rZ (v:Int)(hv:B7 v):Pu Tryz.prog 47 [.c (.t none (.v (.int .i64 v)))] [] 0 (.c (.t none (.v (.string (U6 (XY v)))))):=by
 refine S7 Tryz.func47 fun w S=>?_
 have h1:=hv.1;have h2:=hv.2;have f0:=WZ (k:=v) hv
 refine t9<|rA<|P8 ?_
 refine rM ?_
 refine d9 (n9 0 0 false (H9 Tryz.func82) (o5 v (by omega) (by omega)) rfl (.cons rfl (.c .t0) .nil) rfl rfl rfl) ?_
 refine rM ?_
 refine d9 (D9 rfl rfl rfl rfl) ?_
 refine d9 (D9 rfl rfl rfl rfl) ?_
 refine rA ?_
 refine rA<|c9<|k9<|t9 ?_
 refine rM<|c9 ?_
 refine j9 rfl (fun h1=>?_) (fun h1=>?_)
 ·
  have h1':=a8 h1
  refine t9<|rM ?_
  refine d9 (n9 0 0 false (H9 Tryz.func46) (M2 (if -40≤v∧v≤ -1 then -1 - v else 0) (by(unfold B7;omega))) rfl (.cons rfl (.c .t0) .nil) rfl rfl rfl) ?_
  refine d9 (AZ rfl rfl rfl (by(refine Nat.le_trans (Nat.add_le_add_left (WZ (by(unfold B7;split <;> omega))) _) (by decide)))) ?_
  refine rA<|c9 ?_
  refine tk Tryz.func47 (.tmp rfl .nil) ?_
  all_goals(refine EP ?_;(exact wO (by omega)))
 ·
  have h1':=d8 h1
  refine m9<|k9<|t9<|rM ?_
  refine d9 (n9 0 0 false (H9 Tryz.func48) (v6 v 0 9) rfl (.cons rfl (.c .t0) (.cons rfl (.c .t0) (.cons rfl (.c .t0) .nil))) rfl rfl rfl) ?_
  refine d9 (E8 rfl rfl) ?_
  refine c9 ?_
  refine j9 rfl (fun h2=>?_) (fun h2=>?_)
  ·
   have h2':=d8 (d4 h2)
   refine t9<|rA<|c9 ?_
   refine tk Tryz.func47 (.tmp rfl .nil) ?_
   all_goals(refine EP ?_;(exact kN (by omega)))
  ·
   have h2':=a8 (Y5 h2)
   refine m9<|t9<|rM ?_
   refine d9 (n9 0 0 false (H9 Tryz.func46) (M2 v (by omega)) rfl (.cons rfl (.c .t0) .nil) rfl rfl rfl) ?_
   refine rA<|c9 ?_
   refine tk Tryz.func47 (.tmp rfl .nil) ?_
   all_goals(refine EP ?_;(exact UP (by omega)))
theorem yZ (d:Int)(b:List Int)(hd0:B7 d)(hb:b.length≤1048576)(ho:∀x∈b,B7 x):Pu Tryz.prog 16 [.agg [.t none (.v (.int .i64 d)),.t none (.sl 1 f9 b)]] [] 0 (.c (.t none (.v (.string (U6 (bI d b)))))):=by
 refine S7 Tryz.func16 fun w S=>?_
 have f0:=WZ (k:=d) hd0
 refine t9 ?_
 refine d9 (m8 0 rfl rfl rfl rfl) ?_
 refine rA<|P8 ?_
 refine rF 0 ?_
 refine rL ?_
 refine d9 (n9 1 1 false (H9 Tryz.func46) (M2 d (by omega)) rfl (.cons rfl (.c .t0) .nil) rfl rfl rfl) ?_
 refine d9 (AZ rfl rfl rfl (by(simp only [List.length_append,List.length_cons,List.length_nil];omega))) ?_
 refine rA<|c9<|k9<|t9 ?_
 refine rA<|c9<|p9 ?_
 refine J9 (fun m=>⟨[(1,some (.c (.ptr 0 0))),(2,some (.c (.t none (.v (.string (U6 (([]:List UInt8)))))))),(3,some (.c (.t none (.v (.string (U6 ((VY d++[58])++Lib.join ((b.take m).map A4) [44]))))))),(4,some (.c (.t none (.v (.int .i64 ((m:Int)))))))],[(0,some (.box [.t none (.v (.int .i64 d)),.t none (.sl 1 f9 b)]))],1⟩:Nat→St) (fun m=>m≤b.length) (fun m=>b.length - m) 0 ⟨⟨rfl,⟨rfl,⟨(FH (by simp [Lib.join_nil])),⟨rfl,trivial⟩⟩⟩⟩,⟨rfl,trivial⟩,rfl⟩ (by exact Nat.zero_le _) ?_
 rintro m hI ih0
 try dsimp only at hI ih0
 have i1:=hI;have ml:=tP (f:=A4) cR b m [44];(try simp only [List.length_cons,List.length_nil] at ml);have mm:((b.take m).map A4).length≤b.length:=(by rw [List.length_map,List.length_take];omega)
 refine k9<|t9<|rM ?_
 refine rF 1 ?_
 refine rL ?_
 refine d9 (P9 rfl rfl rfl) ?_
 refine rB<|c9 ?_
 refine j9 rfl (fun h1=>?_) (fun h1=>?_)
 ·
  have h1':=a8 h1
  refine m9<|k9<|p9<|k9<|t9<|rM ?_
  refine rB<|c9 ?_
  refine j9 rfl (fun h2=>?_) (fun h2=>?_)
  ·
   have h2':=a8 h2
   refine l9<|rM ?_
   refine d9 (AZ rfl rfl rfl (by(simp only [List.length_append,List.length_cons,List.length_nil];omega))) ?_
   refine rA<|P8 ?_
   refine rF 1 ?_
   refine rL ?_
   refine rM ?_
   obtain⟨z3,hz4,b5⟩:=v9 (xs:=b) (n:=(m:Int)) (by omega) (by omega)
   refine d9 (Q9 rfl (by kernel_rfl) rfl rfl b5 hz4) ?_
   refine d9 (i8 rfl (by kernel_rfl) rfl rfl) ?_
   refine d9 (n9 1 1 false (H9 Tryz.func47) (rZ z3 (by exact ho _ (D8 (by assumption)))) rfl (.cons rfl (.c .t0) .nil) rfl rfl rfl) ?_
   refine rA<|c9<|k9<|t9 ?_
   refine rM ?_
   refine d9 (VP rfl rfl rfl rfl) ?_
   refine c9 ?_
   refine j9 rfl (fun h6=>?_) (fun h6=>?_)
   ·
    have h6':=a8 h6
    refine l9<|rA<|EO ?_
    refine rM ?_
    refine rM ?_
    refine d9 (AZ rfl rfl rfl (by(simp only [List.length_append,List.length_cons,List.length_nil];omega))) ?_
    refine rA<|c9<|i9<|l9 ?_
    refine rM ?_
    refine rB ?_
    refine rA<|c9 ?_
    refine Z9 ?_ (ih0 (m + 1) (by(try dsimp only);omega) (by(try dsimp only);omega))
    exact⟨⟨rfl,⟨rfl,⟨(FH (by exact tT (m:=m) hz4 (by exact YU (by assumption)) (by omega))),⟨(L7 (n8 (by omega) (by omega))),trivial⟩⟩⟩⟩,⟨rfl,trivial⟩,rfl⟩
   ·
    have h6':=d8 h6
    refine m9<|l9<|rM ?_
    refine rM ?_
    refine d9 (AZ rfl rfl rfl (by(refine Nat.le_trans (Nat.add_le_add_left (fS _) _) ?_;simp only [List.length_append,List.length_cons,List.length_nil] at *;omega))) ?_
    refine rA<|c9<|i9<|l9 ?_
    refine rM ?_
    refine rB ?_
    refine rA<|c9 ?_
    refine Z9 ?_ (ih0 (m + 1) (by(try dsimp only);omega) (by(try dsimp only);omega))
    exact⟨⟨rfl,⟨rfl,⟨(FH (by exact tT (m:=m) hz4 (by exact JV (by assumption)) (by omega))),⟨(L7 (n8 (by omega) (by omega))),trivial⟩⟩⟩⟩,⟨rfl,trivial⟩,rfl⟩
  ·
   have h2':=d8 h2
   refine m9<|t9<|rF 1 ?_
   refine rL ?_
   refine rM ?_
   obtain⟨z7,hz8,b9⟩:=v9 (xs:=b) (n:=(m:Int)) (by omega) (by omega)
   refine d9 (Q9 rfl (by kernel_rfl) rfl rfl b9 hz8) ?_
   refine d9 (i8 rfl (by kernel_rfl) rfl rfl) ?_
   refine d9 (n9 1 1 false (H9 Tryz.func47) (rZ z7 (by exact ho _ (D8 (by assumption)))) rfl (.cons rfl (.c .t0) .nil) rfl rfl rfl) ?_
   refine rA<|c9<|k9<|t9 ?_
   refine rM ?_
   refine d9 (VP rfl rfl rfl rfl) ?_
   refine c9 ?_
   refine j9 rfl (fun h10=>?_) (fun h10=>?_)
   ·
    have h10':=a8 h10
    refine l9<|rA<|EO ?_
    refine rM ?_
    refine rM ?_
    refine d9 (AZ rfl rfl rfl (by(simp only [List.length_append,List.length_cons,List.length_nil];omega))) ?_
    refine rA<|c9<|i9<|l9 ?_
    refine rM ?_
    refine rB ?_
    refine rA<|c9 ?_
    refine Z9 ?_ (ih0 (m + 1) (by(try dsimp only);omega) (by(try dsimp only);omega))
    exact⟨⟨rfl,⟨rfl,⟨(FH (by exact qU (m:=m) hz8 (by exact YU (by assumption)) (by omega))),⟨(L7 (n8 (by omega) (by omega))),trivial⟩⟩⟩⟩,⟨rfl,trivial⟩,rfl⟩
   ·
    have h10':=d8 h10
    refine m9<|l9<|rM ?_
    refine rM ?_
    refine d9 (AZ rfl rfl rfl (by(refine Nat.le_trans (Nat.add_le_add_left (fS _) _) ?_;simp only [List.length_append,List.length_cons,List.length_nil] at *;omega))) ?_
    refine rA<|c9<|i9<|l9 ?_
    refine rM ?_
    refine rB ?_
    refine rA<|c9 ?_
    refine Z9 ?_ (ih0 (m + 1) (by(try dsimp only);omega) (by(try dsimp only);omega))
    exact⟨⟨rfl,⟨rfl,⟨(FH (by exact qU (m:=m) hz8 (by exact JV (by assumption)) (by omega))),⟨(L7 (n8 (by omega) (by omega))),trivial⟩⟩⟩⟩,⟨rfl,trivial⟩,rfl⟩
 ·
  have h1':=d8 h1
  refine N9 rfl<|t9<|rM ?_
  refine rA<|c9 ?_
  refine tk Tryz.func16 (.tmp rfl .nil) ?_ <;>(try clear ih0)
  all_goals(refine EP ?_;exact mP (by omega))
theorem CZ (n:Int)(hn:B7 n):Pu Tryz.prog 17 [.c (.t none (.v (.int .i64 n)))] [] 0 (.c (.t none (.v (.string (U6 (sS n)))))):=by
 refine S7 Tryz.func17 fun w S=>?_
 have n1:=hn.1;have n2:=hn.2
 refine t9<|rA<|c9<|k9<|t9 ?_
 refine rM<|c9<|p9<|t9 ?_
 refine rB ?_
 refine rA<|c9 ?_
 refine j9 rfl (fun h1=>?_) (fun h1=>?_)
 ·
  have h1':=a8 h1
  refine t9<|rA<|c9 ?_
  refine tk Tryz.func17 (.tmp rfl .nil) ?_
  all_goals(refine EP ?_;unfold sS;(rw [if_pos (by assumption)];done))
 ·
  have h1':=d8 h1
  refine t9<|rB ?_
  refine rA<|c9 ?_
  refine j9 rfl (fun h2=>?_) (fun h2=>?_)
  ·
   have h2':=a8 h2
   refine t9<|rA<|c9 ?_
   refine tk Tryz.func17 (.tmp rfl .nil) ?_
   all_goals(refine EP ?_;unfold sS;(rw [if_neg (by assumption),if_pos (by assumption)];done))
  ·
   have h2':=d8 h2
   refine t9<|rB ?_
   refine rA<|c9 ?_
   refine j9 rfl (fun h3=>?_) (fun h3=>?_)
   ·
    have h3':=a8 h3
    refine t9<|rA<|c9 ?_
    refine tk Tryz.func17 (.tmp rfl .nil) ?_
    all_goals(refine EP ?_;unfold sS;(rw [if_neg (by assumption),if_neg (by assumption),if_pos (by assumption)];done))
   ·
    have h3':=d8 h3
    refine m9<|i9<|t9<|rA<|c9 ?_
    refine tk Tryz.func17 (.tmp rfl .nil) ?_
    all_goals(refine EP ?_;unfold sS;(rw [if_neg (by assumption),if_neg (by assumption),if_neg (by assumption)];done))
theorem JZ (n:Int)(hn:B7 n):Pu Tryz.prog 18 [.c (.t none (.v (.int .i64 n)))] [] 0 (.c (.t none (.v (.string (U6 (sS n)))))):=by
 refine S7 Tryz.func18 fun w S=>?_
 have n1:=hn.1;have n2:=hn.2
 refine t9<|rA<|c9<|k9<|t9 ?_
 refine rM ?_
 refine d9 (n9 0 0 false (H9 Tryz.func48) (v6 n 1 3) rfl (.cons rfl (.c .t0) (.cons rfl (.c .t0) (.cons rfl (.c .t0) .nil))) rfl rfl rfl) ?_
 refine d9 (E8 rfl rfl) ?_
 refine c9 ?_
 refine j9 rfl (fun h1=>?_) (fun h1=>?_)
 ·
  have h1':=d8 (d4 h1)
  refine t9<|rA<|c9 ?_
  refine tk Tryz.func18 (.tmp rfl .nil) ?_
  all_goals(refine EP ?_;(exact sJ (by omega)))
 ·
  have h1':=a8 (Y5 h1)
  refine m9<|t9 ?_
  refine d9 (m7 0 (e:=9) (sz:=1) (zs:=[.string (U6 ([]))]) (enc:=Y9) [([100,111,110,101]:List UInt8),([102,97,105,108]:List UInt8),([111,118,101,114]:List UInt8)] rfl rfl (by kernel_rfl) rfl rfl rfl rfl rfl rfl rfl rfl (.cons .sc (.cons .sc (.cons .sc .nil))) rfl) ?_
  refine rM ?_
  refine rB ?_
  obtain⟨z2,hz3,b4⟩:=v9 (xs:=[([100,111,110,101]:List UInt8),([102,97,105,108]:List UInt8),([111,118,101,114]:List UInt8)]) (n:=IntKind.i64.wrap (n - 1)) (by(simp only [IntKind.wrap_i64,List.length_cons,List.length_nil];omega)) (by(simp only [IntKind.wrap_i64,List.length_cons,List.length_nil];omega))
  refine d9 (o8 rfl (by kernel_rfl) rfl rfl rfl b4 (f8 b4 hz3)) ?_
  refine d9 (t8 rfl (by kernel_rfl) rfl rfl rfl hz3) ?_
  refine rA<|c9 ?_
  refine tk Tryz.func18 (.tmp rfl .nil) ?_
  all_goals(refine EP ?_;(exact NJ hz3 (by simp only [IntKind.wrap_i64];omega)))
end Go.Eng
