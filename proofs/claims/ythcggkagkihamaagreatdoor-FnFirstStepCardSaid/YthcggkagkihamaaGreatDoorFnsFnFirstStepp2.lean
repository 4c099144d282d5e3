/- What the functions that FnFirstStep reaches answer. -/
import Derived.Test.YthcggkagkihamaaGreatDoorFnsFnFirstStepp1
import Derived.Test.YthcggkagkihamaaGreatDoorEngZO
import Derived.Test.YthcggkagkihamaaGreatDoorChecked
set_option linter.unusedVariables false
set_option linter.unusedSimpArgs false
namespace Go.Eng
open Go Go.RowKit Go.Proofs
set_option maxHeartbeats 1000000
set_option maxRecDepth 10000
theorem UY (rs:T9)(fs:w9)(a0:List (Int ×(List Int)))(a1:List (Int ×(List Int)))(a2:Bool)(a3:Int)(a4:Int)(hrs:rs.length≤4611686018427387904)(hfs:N8 (fun(x:Int ×(List Int))=>x.2.length) fs≤1048576)(ho:∀z∈fs,∀x∈z.2,B7 x)(hs:N8 (fun(x:Int ×(List Int))=>x.2.length) a0 + N8 (fun(x:Int ×(List Int))=>x.2.length) a1≤1048576)(hoa:∀z∈a0,∀x∈z.2,B7 x):Pu Tryz.prog 70 [.agg [.t none (.sl 3 (j8 Y9 f9 U9) rs),.t none (.sl 2 (y9 f9 (x9 1 f9)) fs)],.agg [.t none (.sl 2 (y9 f9 (x9 1 f9)) a0),.t none (.sl 2 (y9 f9 (x9 1 f9)) a1),.t none (.v (.bool a2)),.t none (.v (.int .i64 a3)),.t none (.v (.int .i64 a4))]] [(2,some (.row none 31 true 1 (x9 1 f9) (N6 rs fs a0 a1 a2 a3 a4)))] 3 (.c (.own 2)):=by
 refine S7 Tryz.func70 fun w S=>?_
 have g0:=I8 (f:=(fun(x:Int ×(List Int))=>x.2.length)) (l:=a0);have g1:=aR rs fs a0
 refine t9 ?_
 refine d9 (m8 0 rfl rfl rfl rfl) ?_
 refine d9 (m8 1 rfl rfl rfl rfl) ?_
 refine rA<|P8 ?_
 refine d9 (c7 2 (e:=31) (sz:=1) (zs:=[.slice none 0 0]) (x9 1 f9) rfl rfl (by kernel_rfl) rfl) ?_
 refine rA<|c9<|k9<|t9 ?_
 refine rF 0 ?_
 refine rL ?_
 refine rC 5 ?_
 refine d9 (n9 3 3 false (H9 Tryz.func64) (u5 rs a0 a1 a2 a3 a4 (by omega) (by omega)) rfl (.cons rfl (.c .t0) (.cons rfl (.agg (.cons .t0 (.cons .t0 (.cons .t0 (.cons .t0 (.cons .t0 .nil)))))) .nil)) rfl rfl rfl) ?_
 refine d9 (E8 rfl rfl) ?_
 refine c9 ?_
 refine j9 rfl (fun h1=>?_) (fun h1=>?_)
 ·
  have h1':=(d4 h1)
  refine t9<|rM ?_
  refine rA<|c9 ?_
  refine tk Tryz.func70 (.tmp rfl .nil) ?_ (hL:=⟨Q8 ?_,trivial⟩) <;>(try clear ih0)
  all_goals first | rfl | ((exact TO (by simp_all;done)))
 ·
  have h1':=(Y5 h1)
  refine m9<|k9<|t9<|rC 2 ?_
  refine rF 0 ?_
  refine rL ?_
  refine d9 (n9 3 5 false (H9 Tryz.func135) (qW rs fs a0 (by omega) (by omega) (by omega) (by omega)) rfl (.cons rfl (.agg (.cons .t0 (.cons .t0 .nil))) (.cons rfl (.c .t0) .nil)) rfl rfl rfl) ?_
  refine d9 (A7 rfl rfl rfl rfl) ?_
  refine rM<|c9<|p9 ?_
  refine oX 4 rfl ?_
  refine J9 (fun(vs,m)=>⟨[(2,some (.c (.ptr 0 0))),(3,some (.c (.ptr 1 0))),(4,some (.c (.t none (.v (.slice none 0 0))))),(5,some (.c (.own 2))),(18,some (.c (.own 4))),(19,some (.c (.t none (.v (.int .i64 (((T7 rs fs a0).length:Int))))))),(20,some (.c (.t none (.v (.int .i64 ((m:Int)))))))],[(0,some (.box [.t none (.sl 3 (j8 Y9 f9 U9) rs),.t none (.sl 2 (y9 f9 (x9 1 f9)) fs)])),(1,some (.box [.t none (.sl 2 (y9 f9 (x9 1 f9)) a0),.t none (.sl 2 (y9 f9 (x9 1 f9)) a1),.t none (.v (.bool a2)),.t none (.v (.int .i64 a3)),.t none (.v (.int .i64 a4))])),(2,some (.row none 31 true 1 (x9 1 f9) (((T7 rs fs a0).take m).filter (f6 rs fs a0 a1 a2 a3 a4)))),(4,some (.row none 31 true 1 (zU (x9 1 f9)) (EV vs (T7 rs fs a0))))],5⟩:List Value × Nat→St) (fun(vs,m)=>vs.length=m∧m≤(T7 rs fs a0).length) (fun(vs,m)=>(T7 rs fs a0).length - m) ([],0) ⟨⟨rfl,⟨rfl,⟨rfl,⟨rfl,⟨rfl,⟨rfl,⟨rfl,trivial⟩⟩⟩⟩⟩⟩⟩,⟨rfl,⟨rfl,⟨rfl,⟨rfl,trivial⟩⟩⟩⟩,rfl⟩ (by exact⟨rfl,Nat.zero_le _⟩) ?_
  rintro⟨vs,m⟩ hI ih0
  try dsimp only at hI ih0
  obtain⟨i0,i1⟩:=hI;have tl:=BZ (vs:=vs) (L:=T7 rs fs a0) (by omega);have fr:=IS (p:=f6 rs fs a0 a1 a2 a3 a4) (L:=T7 rs fs a0) (m:=m) g1
  refine t9<|rB<|c9<|k9 ?_
  refine j9 rfl (fun h2=>?_) (fun h2=>?_)
  ·
   have h2':=a8 h2
   refine m9<|k9<|p9<|k9 ?_
   obtain⟨z3,hz4,b5⟩:=v9 (xs:=T7 rs fs a0) (n:=(m:Int)) (by omega) (by omega)
   refine G1 5 4 rfl rfl (uX (by omega) hz4) fun e6 v7=>?_
   refine l9 ?_
   obtain⟨z8,hz9,b10⟩:=v9 (xs:=(EV vs (T7 rs fs a0)).set (m:Int).toNat (.inl v7)) (n:=(m:Int)) (by omega) (by(rw [List.length_set];omega))
   refine d9 (o8 rfl (by kernel_rfl) rfl rfl rfl b10 (f8 b10 hz9)) ?_
   refine d9 (W0 rfl (k:=5) (o:=0) (by kernel_rfl) rfl rfl (OZ (by omega) (by omega)) rfl) ?_
   refine rA<|P8 ?_
   refine rC 2 ?_
   refine rC 5 ?_
   refine rM ?_
   refine d9 (n9 6 6 false (H9 Tryz.func73) (L3 rs fs a0 a1 a2 a3 a4 z3 (by omega) (by omega) (by omega) (by omega) (by omega) (by exact dX (fun f hf=>ho f hf) (D8 (by assumption))) (by(have e5:=qY (D8 (by assumption));omega))) rfl (.cons rfl (.agg (.cons .t0 (.cons .t0 .nil))) (.cons rfl (.agg (.cons .t0 (.cons .t0 (.cons .t0 (.cons .t0 (.cons .t0 .nil)))))) (.cons rfl (.c (.own rfl)) .nil))) rfl rfl rfl) ?_
   refine c9 ?_
   refine j9 rfl (fun h11=>?_) (fun h11=>?_)
   ·
    have h11':=h11
    refine l9<|rM ?_
    refine rM ?_
    refine d9 (w8 6 (e:=31) (sz:=1) (zs:=[.slice none 0 0]) rfl rfl (by kernel_rfl) rfl rfl rfl rfl rfl) ?_
    refine d9 (W9 2 (e:=31) (sz:=1) (by':=24) z3 rfl (by kernel_rfl) rfl rfl rfl rfl rfl rfl (.take (.own rfl) rfl .nil) rfl (by omega) (by omega)) ?_
    refine rA<|c9<|i9<|l9 ?_
    refine rB ?_
    refine rM<|c9 ?_
    refine Z9 ?_ (ih0 (vs++[v7],m + 1) (by(try dsimp only);omega) (by(try dsimp only);exact⟨by simp;omega,by omega⟩))
    exact⟨⟨rfl,⟨rfl,⟨rfl,⟨rfl,⟨rfl,⟨rfl,⟨(L7 (n8 (by omega) (by omega))),trivial⟩⟩⟩⟩⟩⟩⟩,⟨rfl,⟨rfl,⟨(Q8 (by exact xQ hz4 rfl (by assumption))),⟨(Q8 (y3 i0 (by omega))),trivial⟩⟩⟩⟩,rfl⟩
   ·
    have h11':=h11
    refine m9<|i9<|l9<|rB ?_
    refine rM<|c9 ?_
    refine Z9 ?_ (ih0 (vs++[v7],m + 1) (by(try dsimp only);omega) (by(try dsimp only);exact⟨by simp;omega,by omega⟩))
    exact⟨⟨rfl,⟨rfl,⟨rfl,⟨rfl,⟨rfl,⟨rfl,⟨(L7 (n8 (by omega) (by omega))),trivial⟩⟩⟩⟩⟩⟩⟩,⟨rfl,⟨rfl,⟨(Q8 (by exact OS hz4 rfl (by assumption))),⟨(Q8 (y3 i0 (by omega))),trivial⟩⟩⟩⟩,rfl⟩
  ·
   have h2':=d8 h2
   refine N9 rfl<|t9<|rM ?_
   refine rA<|c9 ?_
   refine tk Tryz.func70 (.tmp rfl .nil) ?_ (hL:=⟨Q8 ?_,trivial⟩) <;>(try clear ih0)
   all_goals first | rfl | ((exact nP (by assumption) (by omega)))
theorem SY (rs:T9)(fs:w9)(ds:List Y1)(hrs:rs.length≤4611686018427387904)(hfs:N8 (fun(x:Int ×(List Int))=>x.2.length) fs≤1048576)(hds:N8 (fun(x:(List (Int ×(List Int))) ×(List (Int ×(List Int))) × Bool × Int × Int)=>(N8 (fun(x:Int ×(List Int))=>x.2.length) x.1) +(N8 (fun(x:Int ×(List Int))=>x.2.length) x.2.1)) ds≤1048576)(ho:∀z∈fs,∀x∈z.2,B7 x)(hod:∀d∈ds,∀z∈d.1,∀x∈z.2,B7 x):QH Tryz.prog 30 [.agg [.t none (.sl 3 (j8 Y9 f9 U9) rs),.t none (.sl 2 (y9 f9 (x9 1 f9)) fs)],.c (.t none (.sl 5 (TY (x9 2 (y9 f9 (x9 1 f9))) (x9 2 (y9 f9 (x9 1 f9))) U9 f9 f9) ds))] (fun et=>[(0,some (.row none et true 1 f9 (P3 rs fs ds)))]) 1 (.tup [(false,[.t none (.v (.int .i64 (P1 rs fs ds)))]),(false,[.own 0]),(false,[.t none (.v (.bool (B6 rs fs ds)))])]):=by
 refine UV Tryz.func30 rfl (Nat.le_of_ble_eq_true rfl) fun w S=>?_
 have gl:=I8 (f:=(fun(x:(List (Int ×(List Int))) ×(List (Int ×(List Int))) × Bool × Int × Int)=>(N8 (fun(x:Int ×(List Int))=>x.2.length) x.1) +(N8 (fun(x:Int ×(List Int))=>x.2.length) x.2.1))) (l:=ds)
 refine t9 ?_
 refine d9 (m8 0 rfl rfl rfl rfl) ?_
 refine rA ?_
 refine rA ?_
 refine rA<|c9<|k9<|t9 ?_
 refine rC 2 ?_
 refine d9 (n9 1 1 false (H9 Tryz.func69) (I6 rs fs (by omega) (by omega) (by omega)) rfl (.cons rfl (.agg (.cons .t0 (.cons .t0 .nil))) .nil) rfl rfl rfl) ?_
 refine d9 (E8 rfl rfl) ?_
 refine rM ?_
 refine A9 (fun g1=>?_) (fun g1=>?_)
 ·
  have g1':=(Y5 g1)
  refine rF 0 ?_
  refine A9 (fun _=>?_) (C9 g1)
  refine rL ?_
  refine A9 (fun _=>?_) (C9 g1)
  refine rM ?_
  refine A9 (fun _=>?_) (C9 g1)
  refine d9 (n9 1 1 false (H9 Tryz.func26) (H0 rs ds (by omega) (by omega)) rfl (.cons rfl (.c .t0) (.cons rfl (.c .t0) .nil)) rfl rfl rfl) ?_
  refine A9 (fun _=>?_) (C9 g1)
  refine d9 (E8 rfl rfl) ?_
  refine d9 (G9 rfl rfl g1 rfl) ?_
  refine c9 ?_
  refine j9 rfl (fun h2=>?_) (fun h2=>?_)
  ·
   have h2':=(d4 h2)
   refine t9<|rA ?_
   refine rA ?_
   refine rA<|c9 ?_
   refine iX 1 (t:=5) (et:=3) (sz:=1) true f9 rfl rfl ?_
   refine oU [1] rfl ?_ rfl
   refine I5 Tryz.func30 (.tmp rfl (.tmp rfl (.tmp rfl .nil))) rfl fun E S w u hI hd=>?_
   refine⟨_,M7 hI hd ?_ ⟨Q8 ?_,trivial⟩ rfl rfl rfl⟩ <;> clear hI hd <;>(try clear ih0)
   all_goals(((have v0:B6 rs fs ds=false:=(by exact zP (by assumption)));have v1:=LX v0;first | exact v1.2.symm | exact tU v1.1.symm v0.symm))
  ·
   have h2':=(Y5 h2)
   refine m9<|k9<|t9<|rM ?_
   refine d9 (P9 rfl rfl rfl) ?_
   refine rM<|c9<|p9 ?_
   refine J9 (fun m=>⟨[(2,some (.c (.ptr 0 0))),(20,some (.c (.t none (.sl 5 (TY (x9 2 (y9 f9 (x9 1 f9))) (x9 2 (y9 f9 (x9 1 f9))) U9 f9 f9) ds)))),(21,some (.c (.t none (.v (.int .i64 ((ds.length:Int))))))),(22,some (.c (.t none (.v (.int .i64 ((m:Int)))))))],[(0,some (.box [.t none (.sl 3 (j8 Y9 f9 U9) rs),.t none (.sl 2 (y9 f9 (x9 1 f9)) fs)]))],1⟩:Nat→St) (fun m=>m≤ds.length∧∀j z,j < m→ds[j]? =some z→dW rs fs z=false) (fun m=>ds.length - m) 0 ⟨⟨rfl,⟨rfl,⟨rfl,⟨rfl,trivial⟩⟩⟩⟩,⟨rfl,trivial⟩,rfl⟩ (by exact⟨Nat.zero_le _,fun j z h=>by omega⟩) ?_
   rintro m hI ih0
   try dsimp only at hI ih0
   obtain⟨i1,i2⟩:=hI
   refine t9<|rB<|c9<|k9 ?_
   refine j9 rfl (fun h3=>?_) (fun h3=>?_)
   ·
    have h3':=a8 h3
    refine m9<|k9<|p9<|t9<|rM ?_
    obtain⟨z4,hz5,b6⟩:=v9 (xs:=ds) (n:=(m:Int)) (by omega) (by omega)
    refine d9 (Q9 rfl (by kernel_rfl) rfl rfl b6 hz5) ?_
    refine d9 (m6 rfl (n:=5) (by kernel_rfl) (by kernel_rfl) rfl rfl) ?_
    refine d9 (F9 1 (zs:=[.slice none 0 0,.slice none 0 0,.bool false,.int .i64 0,.int .i64 0]) rfl rfl (by kernel_rfl) rfl) ?_
    refine rA ?_
    refine rS 5<|P8 ?_
    refine rC 2 ?_
    refine rC 5 ?_
    refine d9 (n9 2 5 false (H9 Tryz.func70) (UY rs fs z4.1 z4.2.1 z4.2.2.1 z4.2.2.2.1 z4.2.2.2.2 (by omega) (by omega) (by omega) (by(have e1:=X7 (f:=(fun(x:(List (Int ×(List Int))) ×(List (Int ×(List Int))) × Bool × Int × Int)=>(N8 (fun(x:Int ×(List Int))=>x.2.length) x.1) +(N8 (fun(x:Int ×(List Int))=>x.2.length) x.2.1))) (l:=ds) (m:=m) (by assumption);(try dsimp only at e1);omega)) (by exact hod _ (D8 (by assumption)))) rfl (.cons rfl (.agg (.cons .t0 (.cons .t0 .nil))) (.cons rfl (.agg (.cons .t0 (.cons .t0 (.cons .t0 (.cons .t0 (.cons .t0 .nil)))))) .nil)) rfl rfl rfl) ?_
    refine rA<|P8 ?_
    refine rM ?_
    refine d9 (A7 rfl rfl rfl rfl) ?_
    refine rB<|c9 ?_
    refine j9 rfl (fun h7=>?_) (fun h7=>?_)
    ·
     have h7':=a8 h7
     refine k9 ?_
     refine oX 4 rfl ?_
     obtain⟨z8,hz9,b10⟩:=v9 (xs:=N6 rs fs z4.1 z4.2.1 z4.2.2.1 z4.2.2.2.1 z4.2.2.2.2) (n:=(0:Int)) (by omega) (by omega)
     refine G1 5 4 rfl rfl (uX (by rfl) hz9) fun e11 v12=>?_
     refine tY ?_
     refine dT 0 rfl pM ?_
     refine dT 1 rfl pM ?_
     obtain⟨z13,hz14,b15⟩:=v9 (xs:=(EV [] (N6 rs fs z4.1 z4.2.1 z4.2.2.1 z4.2.2.2.1 z4.2.2.2.2)).set (0:Int).toNat (.inl v12)) (n:=0) (by omega) (by(rw [jN (Nat.zero_le _)];omega))
     refine dT 2 rfl (V9 (by kernel_rfl) rfl rfl rfl b15 (f8 b15 hz14)) ?_
     refine dT 3 rfl (TZ (k:=5) (o:=0) (by kernel_rfl) rfl rfl (OZ (by rfl) (by omega)) rfl) ?_
     refine dT 4 rfl pA ?_
     refine dT 5 rfl pA ?_
     refine dT 6 rfl pA ?_
     refine dE ?_
     refine oU [5] rfl ?_ rfl
     refine I5 Tryz.func30 (.tmp rfl (.tmp rfl (.tmp rfl .nil))) rfl fun E S w u hI hd=>?_
     refine⟨_,M7 hI hd ?_ ⟨Q8 ?_,trivial⟩ rfl rfl rfl⟩ <;> clear hI hd <;>(try clear ih0)
     all_goals((have v1:=yN (rs:=rs) (fs:=fs) (by assumption) (by assumption) i2 hz5 (DP (by assumption)) hz9;first | exact v1.2.2.symm | exact tU v1.2.1.symm v1.1.symm))
    ·
     have h7':=d8 h7
     refine m9<|i9<|l9<|rB ?_
     refine rM<|c9 ?_
     refine Z9 ?_ (ih0 (m + 1) (by(try dsimp only);omega) (by(try dsimp only);exact⟨by omega,p5 i2 hz5 rfl (XQ (by assumption))⟩))
     exact⟨⟨rfl,⟨rfl,⟨rfl,⟨(L7 (n8 (by omega) (by omega))),trivial⟩⟩⟩⟩,⟨rfl,trivial⟩,rfl⟩
   ·
    have h3':=d8 h3
    refine N9 rfl<|t9<|rA ?_
    refine rA ?_
    refine rA<|c9 ?_
    refine iX 1 (t:=5) (et:=3) (sz:=1) true f9 rfl rfl ?_
    refine oU [1] rfl ?_ rfl
    refine I5 Tryz.func30 (.tmp rfl (.tmp rfl (.tmp rfl .nil))) rfl fun E S w u hI hd=>?_
    refine⟨_,M7 hI hd ?_ ⟨Q8 ?_,trivial⟩ rfl rfl rfl⟩ <;> clear hI hd <;>(try clear ih0)
    all_goals(((have v0:B6 rs fs ds=false:=(by exact gQ i2 (by omega)));have v1:=LX v0;first | exact v1.2.symm | exact tU v1.1.symm v0.symm))
 ·
  have g1':=(d4 g1)
  refine A9 (nc g1) (fun _=>?_)
  refine A9 (nc g1) (fun _=>?_)
  refine A9 (nc g1) (fun _=>?_)
  refine A9 (nc g1) (fun _=>?_)
  refine d9 (M9 rfl rfl g1 rfl) ?_
  refine c9 ?_
  refine j9 rfl (fun _=>?_) (nc rfl)
  refine t9<|rA ?_
  refine rA ?_
  refine rA<|c9 ?_
  refine iX 1 (t:=5) (et:=3) (sz:=1) true f9 rfl rfl ?_
  refine oU [1] rfl ?_ rfl
  refine I5 Tryz.func30 (.tmp rfl (.tmp rfl (.tmp rfl .nil))) rfl fun E S w u hI hd=>?_
  refine⟨_,M7 hI hd ?_ ⟨Q8 ?_,trivial⟩ rfl rfl rfl⟩ <;> clear hI hd <;>(try clear ih0)
  all_goals(((have v0:B6 rs fs ds=false:=(by exact yQ (by assumption)));have v1:=LX v0;first | exact v1.2.symm | exact tU v1.1.symm v0.symm))
theorem D5 (l:T9)(hl:l.length≤1048576):Pu Tryz.prog 71 [.c (.t none (.sl 3 (j8 Y9 f9 U9) l))] [(0,some (.row none 95 true 3 (j8 Y9 f9 U9) l))] 1 (.c (.own 0)):=by
 refine S7 Tryz.func71 fun w S=>?_
 refine t9<|rA<|c9<|k9<|t9 ?_
 refine rM ?_
 refine zN rfl rfl rfl (fun en1=>?_) ?_
 ·
  refine c9 ?_
  refine j9 rfl (fun _=>?_) (nc rfl)
  refine t9<|rA<|c9 ?_
  refine iX 0 (t:=2) (et:=95) (sz:=3) true (j8 Y9 f9 U9) rfl rfl ?_
  refine tk Tryz.func71 (.tmp rfl .nil) ?_ (hL:=⟨Q8 ?_,trivial⟩)
  all_goals first | rfl | ((exact en1.symm))
 ·
  refine c9 ?_
  refine j9 rfl (C9 rfl) (fun _=>?_)
  refine m9<|t9 ?_
  refine d9 (c7 0 (e:=95) (sz:=3) (zs:=[.string (U6 ([])),.int .i64 0,.bool false]) (j8 Y9 f9 U9) rfl rfl (by kernel_rfl) rfl) ?_
  refine rM ?_
  refine d9 (o7 0 (e:=95) (sz:=3) (by':=32) rfl (by kernel_rfl) rfl rfl rfl rfl (fun _ j=>by rcases j with _ | _ | j <;> exact⟨_,rfl⟩) (by(simp;omega)) (by(simp;omega))) ?_
  refine rA<|c9 ?_
  refine tk Tryz.func71 (.tmp rfl .nil) ?_ (hL:=⟨Q8 ?_,trivial⟩)
  all_goals rfl
theorem IY (r:Int)(ts:List Int)(hl:ts.length≤1048576):Pu Tryz.prog 136 [.agg [.t none (.v (.int .i64 r)),.t none (.sl 1 f9 ts)]] [(2,some (.row none 3 true 1 f9 ts))] 3 (.agg [.t none (.v (.int .i64 r)),.own 2]):=by
 refine S7 Tryz.func136 fun w S=>?_
 refine t9 ?_
 refine d9 (m8 0 rfl rfl rfl rfl) ?_
 refine d9 (F9 1 (zs:=[.int .i64 0,.slice none 0 0]) rfl rfl (by kernel_rfl) rfl) ?_
 refine c9<|k9 ?_
 refine tD (fun i=>!(Nat.beq i 6)) ?_
 refine dT 0 rfl (pF 0) ?_
 refine dT 1 rfl pL ?_
 refine dT 2 rfl (pF 1) ?_
 refine dT 3 rfl pL ?_
 refine dO 4 rfl (n9 2 3 false (H9 Tryz.func75) (d6 ts (by omega)) rfl (.cons rfl (.c .t0) .nil) rfl rfl rfl) ?_
 refine dT 5 rfl (pX [(0,1),(1,1)] [.int .i64 0,.slice none 0 0]) ?_
 refine dO 6 rfl (oS 2) ?_
 refine dE ?_
 refine tk Tryz.func136 (X9 2 .nil) ?_ (hL:=⟨Q8 ?_,trivial⟩)
 all_goals rfl
theorem jY (fs:w9)(hfs:N8 (fun(x:Int ×(List Int))=>x.2.length) fs≤1048576):Pu Tryz.prog 72 [.c (.t none (.sl 2 (y9 f9 (x9 1 f9)) fs))] [(0,some (.row none 64 true 2 (y9 f9 (x9 1 f9)) fs))] 1 (.c (.own 0)):=by
 refine S7 Tryz.func72 fun w S=>?_
 have gl:=I8 (f:=(fun(x:Int ×(List Int))=>x.2.length)) (l:=fs)
 refine t9<|rA<|P8 ?_
 refine d9 (c7 0 (e:=64) (sz:=2) (zs:=[.int .i64 0,.slice none 0 0]) (y9 f9 (x9 1 f9)) rfl rfl (by kernel_rfl) rfl) ?_
 refine rA<|c9<|k9<|t9 ?_
 refine rM ?_
 refine d9 (P9 rfl rfl rfl) ?_
 refine rM<|c9<|p9 ?_
 refine J9 (fun m=>⟨[(2,some (.c (.t none (.v (.slice none 0 0))))),(3,some (.c (.own 0))),(7,some (.c (.t none (.sl 2 (y9 f9 (x9 1 f9)) fs)))),(8,some (.c (.t none (.v (.int .i64 ((fs.length:Int))))))),(9,some (.c (.t none (.v (.int .i64 ((m:Int)))))))],[(0,some (.row none 64 true 2 (y9 f9 (x9 1 f9)) (fs.take m)))],1⟩:Nat→St) (fun m=>m≤fs.length) (fun m=>fs.length - m) 0 ⟨⟨rfl,⟨rfl,⟨rfl,⟨rfl,⟨rfl,trivial⟩⟩⟩⟩⟩,⟨rfl,trivial⟩,rfl⟩ (by exact Nat.zero_le _) ?_
 rintro m hI ih0
 try dsimp only at hI ih0
 have i1:=hI
 refine t9<|rB<|c9<|k9 ?_
 refine j9 rfl (fun h1=>?_) (fun h1=>?_)
 ·
  have h1':=a8 h1
  refine m9<|k9<|p9<|t9 ?_
  obtain⟨z2,hz3,b4⟩:=v9 (xs:=fs) (n:=(m:Int)) (by omega) (by omega)
  refine d9 (Q9 rfl (by kernel_rfl) rfl rfl b4 hz3) ?_
  refine d9 (m6 rfl (n:=2) (by kernel_rfl) (by kernel_rfl) rfl rfl) ?_
  refine d9 (F9 1 (zs:=[.int .i64 0,.slice none 0 0]) rfl rfl (by kernel_rfl) rfl) ?_
  refine rS 2<|EO ?_
  refine rM ?_
  refine rC 2 ?_
  refine d9 (n9 2 5 false (H9 Tryz.func136) (IY z2.1 z2.2 (by(have e1:=X7 (f:=(fun(x:Int ×(List Int))=>x.2.length)) (l:=fs) (m:=m) (by assumption);(try dsimp only at e1);omega))) rfl (.cons rfl (.agg (.cons .t0 (.cons .t0 .nil))) .nil) rfl rfl rfl) ?_
  refine d9 (w8 5 (e:=64) (sz:=2) (zs:=[.int .i64 0,.slice none 0 0]) rfl rfl (by kernel_rfl) rfl rfl rfl rfl rfl) ?_
  refine d9 (W9 0 (e:=64) (sz:=2) (by':=32) ((z2.1,z2.2)) rfl (by kernel_rfl) rfl rfl rfl rfl rfl rfl (.cons .sc (.take (.own rfl) rfl .nil)) rfl (by(simp;omega)) (by(simp;omega))) ?_
  refine rA<|c9<|i9<|l9 ?_
  refine rB ?_
  refine rM<|c9 ?_
  refine Z9 ?_ (ih0 (m + 1) (by(try dsimp only);omega) (by(try dsimp only);omega))
  exact⟨⟨rfl,⟨rfl,⟨rfl,⟨rfl,⟨(L7 (n8 (by omega) (by omega))),trivial⟩⟩⟩⟩⟩,⟨(Q8 (rR hz3)),trivial⟩,rfl⟩
 ·
  have h1':=d8 h1
  refine N9 rfl<|t9<|rM ?_
  refine rA<|c9 ?_
  refine tk Tryz.func72 (.tmp rfl .nil) ?_ (hL:=⟨Q8 ?_,trivial⟩) <;>(try clear ih0)
  all_goals first | rfl | ((rw [List.take_of_length_le (by omega)]))
theorem E7 (rs:T9)(fs:w9)(hrs:rs.length≤1048576)(hfs:N8 (fun(x:Int ×(List Int))=>x.2.length) fs≤1048576):Pu Tryz.prog 31 [.agg [.t none (.sl 3 (j8 Y9 f9 U9) rs),.t none (.sl 2 (y9 f9 (x9 1 f9)) fs)]] [(2,some (.row none 95 true 3 (j8 Y9 f9 U9) rs)),(3,some (.row none 64 true 2 (y9 f9 (x9 1 f9)) fs))] 4 (.agg [.own 2,.own 3]):=by
 refine S7 Tryz.func31 fun w S=>?_
 refine t9 ?_
 refine d9 (m8 0 rfl rfl rfl rfl) ?_
 refine d9 (F9 1 (zs:=[.slice none 0 0,.slice none 0 0]) rfl rfl (by kernel_rfl) rfl) ?_
 refine c9<|k9 ?_
 refine tD (fun i=>!(Nat.beq i 7)) ?_
 refine dT 0 rfl (pF 0) ?_
 refine dT 1 rfl pL ?_
 refine dT 3 rfl (pF 1) ?_
 refine dT 4 rfl pL ?_
 refine dO 2 rfl (n9 2 3 false (H9 Tryz.func71) (D5 rs (by omega)) rfl (.cons rfl (.c .t0) .nil) rfl rfl rfl) ?_
 refine dO 5 rfl (n9 3 4 false (H9 Tryz.func72) (jY fs (by omega)) rfl (.cons rfl (.c .t0) .nil) rfl rfl rfl) ?_
 refine dT 6 rfl (pX [(0,1),(1,1)] [.slice none 0 0,.slice none 0 0]) ?_
 refine dO 7 rfl (oS 2) ?_
 refine dE ?_
 refine tk Tryz.func31 (X9 2 .nil) ?_ (hL:=⟨Q8 ?_,⟨Q8 ?_,trivial⟩⟩)
 all_goals rfl
theorem MZ (v:Int):Pu Tryz.prog 100 [.c (.t none (.v (.int .i64 v)))] [] 0 (.c (.t none (.v (.bool (decide (v < 0)))))):=by
 refine S7 Tryz.func100 fun w S=>?_
 refine t9<|rA<|P8 ?_
 refine rM ?_
 refine rB ?_
 refine rA<|c9 ?_
 refine tk Tryz.func100 (.tmp rfl .nil) ?_
 all_goals rfl
theorem J4 (ns vs:List Int)(hn:ns.length≤4611686018427387904)(hv:vs.length≤4611686018427387904)(on:∀x∈ns,B7 x)(ov:∀x∈vs,B7 x):Pu Tryz.prog 188 [.agg [.t none (.sl 1 f9 ns),.t none (.sl 1 f9 vs)]] [] 0 (.c (.t none (.v (.bool (y4 ns vs))))):=by
 refine S7 Tryz.func188 fun w S=>?_
 refine t9 ?_
 refine d9 (m8 0 rfl rfl rfl rfl) ?_
 refine rA<|c9<|k9<|t9 ?_
 refine rF 0 ?_
 refine rL ?_
 refine d9 (P9 rfl rfl rfl) ?_
 refine rF 1 ?_
 refine rL ?_
 refine d9 (P9 rfl rfl rfl) ?_
 refine rB<|c9 ?_
 refine j9 rfl (fun h1=>?_) (fun h1=>?_)
 ·
  have h1':=a8 h1
  refine t9<|rA<|c9 ?_
  refine tk Tryz.func188 (.tmp rfl .nil) ?_ <;>(try clear ih0)
  all_goals(refine K7 ?_;(rw [iR (by omega)];done))
 ·
  have h1':=d8 h1
  refine m9<|k9<|t9<|rF 0 ?_
  refine rL ?_
  refine d9 (P9 rfl rfl rfl) ?_
  refine rM<|c9<|p9 ?_
  refine J9 (fun m=>⟨[(1,some (.c (.ptr 0 0))),(13,some (.c (.t none (.sl 1 f9 ns)))),(14,some (.c (.t none (.v (.int .i64 ((ns.length:Int))))))),(15,some (.c (.t none (.v (.int .i64 ((m:Int)))))))],[(0,some (.box [.t none (.sl 1 f9 ns),.t none (.sl 1 f9 vs)]))],1⟩:Nat→St) (fun m=>m≤ns.length∧ns.length=vs.length∧∀j,j < m→J6 ns vs j=true) (fun m=>ns.length - m) 0 ⟨⟨rfl,⟨rfl,⟨rfl,⟨rfl,trivial⟩⟩⟩⟩,⟨rfl,trivial⟩,rfl⟩ (by exact⟨Nat.zero_le _,by omega,fun j h=>by omega⟩) ?_
  rintro m hI ih0
  try dsimp only at hI ih0
  obtain⟨i1,i2,i3⟩:=hI
  refine t9<|rB<|c9<|k9 ?_
  refine j9 rfl (fun h2=>?_) (fun h2=>?_)
  ·
   have h2':=a8 h2
   refine m9<|k9<|p9<|t9<|rM ?_
   obtain⟨z3,hz4,b5⟩:=v9 (xs:=ns) (n:=(m:Int)) (by omega) (by omega)
   refine d9 (Q9 rfl (by kernel_rfl) rfl rfl b5 hz4) ?_
   refine d9 (i8 rfl (by kernel_rfl) rfl rfl) ?_
   refine rA ?_
   refine rA<|P8 ?_
   refine rM ?_
   refine d9 (n9 1 1 false (H9 Tryz.func157) (L6 z3 0 39) rfl (.cons rfl (.c .t0) (.cons rfl (.c .t0) (.cons rfl (.c .t0) .nil))) rfl rfl rfl) ?_
   refine d9 (E8 rfl rfl) ?_
   refine rM ?_
   refine A9 (fun g6=>?_) (fun g6=>?_)
   ·
    have g6':=a8 (Y5 g6)
    refine rM ?_
    refine A9 (fun _=>?_) (C9 g6)
    refine rB ?_
    refine A9 (fun _=>?_) (C9 g6)
    refine rM ?_
    refine A9 (fun g7=>?_) (fun g7=>?_)
    ·
     have g7':=a8 g7
     refine rM ?_
     refine A9 (fun _=>?_) (nc g7)
     refine rF 0 ?_
     refine A9 (fun _=>?_) (nc g7)
     refine rL ?_
     refine A9 (fun _=>?_) (nc g7)
     refine rM ?_
     refine A9 (fun _=>?_) (nc g7)
     refine rB ?_
     refine A9 (fun _=>?_) (nc g7)
     obtain⟨z8,hz9,b10⟩:=v9 (xs:=ns) (n:=IntKind.i64.wrap ((m:Int) - 1)) (by(simp only [IntKind.wrap_i64] at *;omega)) (by(simp only [IntKind.wrap_i64] at *;omega))
     refine d9 (Q9 rfl (by kernel_rfl) rfl rfl b10 hz9) ?_
     refine A9 (fun _=>?_) (nc g7)
     refine d9 (i8 rfl (by kernel_rfl) rfl rfl) ?_
     refine A9 (fun _=>?_) (nc g7)
     refine rB ?_
     refine A9 (fun _=>?_) (C9 g6)
     refine d9 (M9 rfl rfl g7 rfl) ?_
     refine d9 (G9 rfl rfl g6 rfl) ?_
     refine rM ?_
     refine A9 (fun g11=>?_) (fun g11=>?_)
     ·
      have g11':=d8 g11
      refine rF 1 ?_
      refine A9 (fun _=>?_) (C9 g11)
      refine rL ?_
      refine A9 (fun _=>?_) (C9 g11)
      refine rM ?_
      refine A9 (fun _=>?_) (C9 g11)
      obtain⟨z12,hz13,b14⟩:=v9 (xs:=vs) (n:=(m:Int)) (by omega) (by omega)
      refine d9 (Q9 rfl (by kernel_rfl) rfl rfl b14 hz13) ?_
      refine A9 (fun _=>?_) (C9 g11)
      refine d9 (i8 rfl (by kernel_rfl) rfl rfl) ?_
      refine A9 (fun _=>?_) (C9 g11)
      refine d9 (n9 1 1 false (H9 Tryz.func99) (a6 z12) rfl (.cons rfl (.c .t0) .nil) rfl rfl rfl) ?_
      refine A9 (fun _=>?_) (C9 g11)
      refine d9 (E8 rfl rfl) ?_
      refine d9 (G9 rfl rfl g11 rfl) ?_
      refine c9 ?_
      refine j9 rfl (fun h15=>?_) (fun h15=>?_)
      ·
       have h15':=d8 (d4 h15)
       refine t9<|rA<|c9 ?_
       refine tk Tryz.func188 (.tmp rfl .nil) ?_ <;>(try clear ih0)
       all_goals(refine K7 ?_;(rw [C3 (m:=m) (by omega) (by exact MX (by assumption) (by omega))];done))
      ·
       have h15':=a8 (Y5 h15)
       refine m9<|i9<|l9<|rB ?_
       refine rM<|c9 ?_
       refine Z9 ?_ (ih0 (m + 1) (by(try dsimp only);omega) (by(try dsimp only);exact⟨by omega,i2,i6 i3 (by(rw [oR (m:=m) (by assumption) (by assumption) (by omega) (by assumption) (by(try simp only [IntKind.wrap_i64]);omega),decide_eq_true (by omega),decide_eq_true (by omega),decide_eq_true (by omega)];rfl))⟩))
       exact⟨⟨rfl,⟨rfl,⟨rfl,⟨(L7 (n8 (by omega) (by omega))),trivial⟩⟩⟩⟩,⟨rfl,trivial⟩,rfl⟩
     ·
      have g11':=a8 g11
      refine A9 (nc g11) (fun _=>?_)
      refine A9 (nc g11) (fun _=>?_)
      refine A9 (nc g11) (fun _=>?_)
      refine A9 (nc g11) (fun _=>?_)
      refine A9 (nc g11) (fun _=>?_)
      refine A9 (nc g11) (fun _=>?_)
      refine d9 (M9 rfl rfl g11 rfl) ?_
      refine c9 ?_
      refine j9 rfl (fun _=>?_) (nc rfl)
      refine t9<|rA<|c9 ?_
      refine tk Tryz.func188 (.tmp rfl .nil) ?_ <;>(try clear ih0)
      all_goals(refine K7 ?_;(rw [C3 (m:=m) (by omega) (by exact fR (m:=m) (by assumption) (by omega) (by assumption) (by(try simp only [IntKind.wrap_i64]);omega) (by omega))];done))
    ·
     have g7':=d8 g7
     refine A9 (C9 g7) (fun _=>?_)
     refine A9 (C9 g7) (fun _=>?_)
     refine A9 (C9 g7) (fun _=>?_)
     refine A9 (C9 g7) (fun _=>?_)
     refine A9 (C9 g7) (fun _=>?_)
     refine A9 (C9 g7) (fun _=>?_)
     refine A9 (C9 g7) (fun _=>?_)
     refine A9 (fun _=>?_) (C9 g6)
     refine d9 (G9 rfl rfl g7 rfl) ?_
     refine d9 (G9 rfl rfl g6 rfl) ?_
     refine rM ?_
     refine A9 (fun _=>?_) (C9 rfl)
     refine rF 1 ?_
     refine A9 (fun _=>?_) (C9 rfl)
     refine rL ?_
     refine A9 (fun _=>?_) (C9 rfl)
     refine rM ?_
     refine A9 (fun _=>?_) (C9 rfl)
     obtain⟨z16,hz17,b18⟩:=v9 (xs:=vs) (n:=(m:Int)) (by omega) (by omega)
     refine d9 (Q9 rfl (by kernel_rfl) rfl rfl b18 hz17) ?_
     refine A9 (fun _=>?_) (C9 rfl)
     refine d9 (i8 rfl (by kernel_rfl) rfl rfl) ?_
     refine A9 (fun _=>?_) (C9 rfl)
     refine d9 (n9 1 1 false (H9 Tryz.func99) (a6 z16) rfl (.cons rfl (.c .t0) .nil) rfl rfl rfl) ?_
     refine A9 (fun _=>?_) (C9 rfl)
     refine d9 (E8 rfl rfl) ?_
     refine d9 (G9 rfl rfl rfl rfl) ?_
     refine c9 ?_
     refine j9 rfl (fun h19=>?_) (fun h19=>?_)
     ·
      have h19':=d8 (d4 h19)
      refine t9<|rA<|c9 ?_
      refine tk Tryz.func188 (.tmp rfl .nil) ?_ <;>(try clear ih0)
      all_goals(refine K7 ?_;(rw [C3 (m:=m) (by omega) (by exact MX (by assumption) (by omega))];done))
     ·
      have h19':=a8 (Y5 h19)
      refine m9<|i9<|l9<|rB ?_
      refine rM<|c9 ?_
      refine Z9 ?_ (ih0 (m + 1) (by(try dsimp only);omega) (by(try dsimp only);exact⟨by omega,i2,i6 i3 (by(rw [JS (m:=m) (by assumption) (by assumption) (by omega),decide_eq_true (by omega),decide_eq_true (by omega)];rfl))⟩))
      exact⟨⟨rfl,⟨rfl,⟨rfl,⟨(L7 (n8 (by omega) (by omega))),trivial⟩⟩⟩⟩,⟨rfl,trivial⟩,rfl⟩
   ·
    have g6':=d8 (d4 g6)
    refine A9 (nc g6) (fun _=>?_)
    refine A9 (nc g6) (fun _=>?_)
    refine X4 rfl rfl rfl ?_
    refine X4 rfl rfl rfl ?_
    refine X4 rfl rfl rfl ?_
    refine X4 rfl rfl rfl ?_
    refine X4 rfl rfl rfl ?_
    refine X4 rfl rfl rfl ?_
    refine X4 rfl rfl rfl ?_
    refine X4 rfl rfl rfl ?_
    refine A9 (nc g6) (fun _=>?_)
    refine d9 (M9 rfl rfl g6 rfl) ?_
    refine rM ?_
    refine A9 (nc rfl) (fun _=>?_)
    refine A9 (nc rfl) (fun _=>?_)
    refine A9 (nc rfl) (fun _=>?_)
    refine A9 (nc rfl) (fun _=>?_)
    refine A9 (nc rfl) (fun _=>?_)
    refine A9 (nc rfl) (fun _=>?_)
    refine A9 (nc rfl) (fun _=>?_)
    refine d9 (M9 rfl rfl rfl rfl) ?_
    refine c9 ?_
    refine j9 rfl (fun _=>?_) (nc rfl)
    refine t9<|rA<|c9 ?_
    refine tk Tryz.func188 (.tmp rfl .nil) ?_ <;>(try clear ih0)
    all_goals(refine K7 ?_;(rw [C3 (m:=m) (by omega) (by exact XS (by assumption) (by omega))];done))
  ·
   have h2':=d8 h2
   refine N9 rfl<|t9<|rA<|c9 ?_
   refine tk Tryz.func188 (.tmp rfl .nil) ?_ <;>(try clear ih0)
   all_goals(refine K7 ?_;(rw [YS i2 i3 (by omega)];done))
theorem aW (ns vs:List Int)(v:Int)(hn:ns.length≤4611686018427387904)(hv:vs.length≤4611686018427387904)(on:∀x∈ns,B7 x)(ov:∀x∈vs,B7 x)(hv1: -9223372036854775808≤v)(hv2:v≤9223372036854775807):Pu Tryz.prog 219 [.agg [.t none (.sl 1 f9 ns),.t none (.sl 1 f9 vs)],.c (.t none (.v (.int .i64 v)))] [] 0 (.c (.t none (.v (.int .i64 (lY ns vs v))))):=by
 refine S7 Tryz.func219 fun w S=>?_
 have nn:(-40≤v∧v≤ -1)→Y4 (qR (if -40≤v∧v≤ -1 then -1 - v else 0)) ns=Y4 (qR (-1 - v)) ns:=fun e=>by rw [if_pos e]
 refine t9 ?_
 refine d9 (m8 0 rfl rfl rfl rfl) ?_
 refine rA<|P8 ?_
 refine rM ?_
 refine d9 (n9 1 1 false (H9 Tryz.func139) (C4 v (by omega) (by omega)) rfl (.cons rfl (.c .t0) .nil) rfl rfl rfl) ?_
 refine rM ?_
 refine d9 (D9 rfl rfl rfl rfl) ?_
 refine d9 (D9 rfl rfl rfl rfl) ?_
 refine rA ?_
 refine rA<|P8 ?_
 refine rF 0 ?_
 refine rL ?_
 refine rM ?_
 refine d9 (n9 1 1 false (H9 Tryz.func176) (U4 ns (if -40≤v∧v≤ -1 then -1 - v else 0) (by omega)) rfl (.cons rfl (.c .t0) (.cons rfl (.c .t0) .nil)) rfl rfl rfl) ?_
 refine rA<|c9<|k9<|t9 ?_
 refine rM ?_
 refine d9 (E8 rfl rfl) ?_
 refine rM ?_
 refine A9 (fun g1=>?_) (fun g1=>?_)
 ·
  have g1':=a8 (Y5 g1)
  refine rM ?_
  refine A9 (fun _=>?_) (C9 g1)
  refine rB ?_
  refine d9 (G9 rfl rfl g1 rfl) ?_
  refine rM ?_
  refine A9 (fun g2=>?_) (fun g2=>?_)
  ·
   have g2':=d8 g2
   refine rC 2 ?_
   refine A9 (fun _=>?_) (C9 g2)
   refine d9 (n9 1 1 false (H9 Tryz.func188) (J4 ns vs (by omega) (by omega) (by omega) (by omega)) rfl (.cons rfl (.agg (.cons .t0 (.cons .t0 .nil))) .nil) rfl rfl rfl) ?_
   refine A9 (fun _=>?_) (C9 g2)
   refine d9 (E8 rfl rfl) ?_
   refine d9 (G9 rfl rfl g2 rfl) ?_
   refine c9 ?_
   refine j9 rfl (fun h3=>?_) (fun h3=>?_)
   ·
    have h3':=(d4 h3)
    refine t9<|rM ?_
    refine rA<|c9 ?_
    refine tk Tryz.func219 (.tmp rfl .nil) ?_
    all_goals(refine XX ?_;(exact dV (fun q=>by have q1:=q.2.2;clear nn;simp_all;done)))
   ·
    have h3':=(Y5 h3)
    refine m9<|t9<|rF 1 ?_
    refine rL ?_
    refine rM ?_
    obtain⟨z4,hz5,b6⟩:=v9 (xs:=vs) (n:=Y4 (qR (if -40≤v∧v≤ -1 then -1 - v else 0)) ns) (by omega) (by(have q:=nn (by assumption);have q2:=GK (ns:=ns) (vs:=vs) (v:=v) (by assumption) rfl (by omega) (by assumption);omega))
    refine d9 (Q9 rfl (by kernel_rfl) rfl rfl b6 hz5) ?_
    refine d9 (i8 rfl (by kernel_rfl) rfl rfl) ?_
    refine rA<|c9 ?_
    refine tk Tryz.func219 (.tmp rfl .nil) ?_
    all_goals(refine XX ?_;(have q:=nn (by assumption);exact kQ (by assumption) (by omega) q (by assumption) (by assumption)))
  ·
   have g2':=a8 g2
   refine A9 (nc g2) (fun _=>?_)
   refine A9 (nc g2) (fun _=>?_)
   refine d9 (M9 rfl rfl g2 rfl) ?_
   refine c9 ?_
   refine j9 rfl (fun _=>?_) (nc rfl)
   refine t9<|rM ?_
   refine rA<|c9 ?_
   refine tk Tryz.func219 (.tmp rfl .nil) ?_
   all_goals(refine XX ?_;(exact dV (fun q=>by have q1:=nn q.1;omega)))
 ·
  have g1':=d8 (d4 g1)
  refine A9 (nc g1) (fun _=>?_)
  refine d9 (M9 rfl rfl g1 rfl) ?_
  refine rM ?_
  refine A9 (nc rfl) (fun _=>?_)
  refine A9 (nc rfl) (fun _=>?_)
  refine A9 (nc rfl) (fun _=>?_)
  refine d9 (M9 rfl rfl rfl rfl) ?_
  refine c9 ?_
  refine j9 rfl (fun _=>?_) (nc rfl)
  refine t9<|rM ?_
  refine rA<|c9 ?_
  refine tk Tryz.func219 (.tmp rfl .nil) ?_
  all_goals(refine XX ?_;(exact dV (fun q=>by have q1:=nn q.1;omega)))
theorem xW (ns vs:List Int)(r:Int)(ts:List Int)(hn:ns.length≤4611686018427387904)(hv:vs.length≤4611686018427387904)(on:∀x∈ns,B7 x)(ov:∀x∈vs,B7 x)(hts:ts.length≤1048576)(ot:∀x∈ts,B7 x):Pu Tryz.prog 189 [.agg [.t none (.sl 1 f9 ns),.t none (.sl 1 f9 vs)],.agg [.t none (.v (.int .i64 r)),.t none (.sl 1 f9 ts)]] [(5,some (.row none 3 true 1 f9 (ts.map (lY ns vs))))] 6 (.agg [.t none (.v (.int .i64 r)),.own 5]):=by
 refine S7 Tryz.func189 fun w S=>?_
 refine t9 ?_
 refine d9 (m8 0 rfl rfl rfl rfl) ?_
 refine d9 (m8 1 rfl rfl rfl rfl) ?_
 refine d9 (F9 2 (zs:=[.int .i64 0,.slice none 0 0]) rfl rfl (by kernel_rfl) rfl) ?_
 refine P8<|rC 2 ?_
 refine d9 (n9 3 6 false (H9 Tryz.func136) (IY r ts (by omega)) rfl (.cons rfl (.agg (.cons .t0 (.cons .t0 .nil))) .nil) rfl rfl rfl) ?_
 refine d9 (F9 6 (zs:=[.int .i64 0,.slice none 0 0]) rfl rfl (by kernel_rfl) rfl) ?_
 refine rS 2<|c9<|k9<|t9 ?_
 refine rF 1 ?_
 refine rL ?_
 refine d9 (P9 rfl rfl rfl) ?_
 refine rM<|c9<|p9 ?_
 refine J9 (fun m=>⟨[(2,some (.c (.ptr 0 0))),(4,some (.c (.ptr 2 0))),(5,some (.c (.ptr 6 0))),(11,some (.c (.t none (.sl 1 f9 ts)))),(12,some (.c (.t none (.v (.int .i64 ((ts.length:Int))))))),(13,some (.c (.t none (.v (.int .i64 ((m:Int)))))))],[(0,some (.box [.t none (.sl 1 f9 ns),.t none (.sl 1 f9 vs)])),(1,some (.box [.t none (.v (.int .i64 r)),.t none (.sl 1 f9 ts)])),(2,some (.box [.t none (.v (.int .i64 0)),.t none (.v (.slice none 0 0))])),(5,some (.row none 3 true 1 f9 ((ts.take m).map (lY ns vs)++ts.drop m))),(6,some (.box [.t none (.v (.int .i64 r)),.own 5]))],7⟩:Nat→St) (fun m=>m≤ts.length) (fun m=>ts.length - m) 0 ⟨⟨rfl,⟨rfl,⟨rfl,⟨rfl,⟨rfl,⟨rfl,trivial⟩⟩⟩⟩⟩⟩,⟨rfl,⟨rfl,⟨rfl,⟨(Q8 (by simp)),⟨rfl,trivial⟩⟩⟩⟩⟩,rfl⟩ (by exact Nat.zero_le _) ?_
 rintro m hI ih0
 try dsimp only at hI ih0
 have i1:=hI
 refine t9<|rB<|c9<|k9 ?_
 refine j9 rfl (fun h1=>?_) (fun h1=>?_)
 ·
  have h1':=a8 h1
  refine m9<|k9<|p9<|t9<|rM ?_
  obtain⟨z2,hz3,b4⟩:=v9 (xs:=ts) (n:=(m:Int)) (by omega) (by omega)
  refine d9 (Q9 rfl (by kernel_rfl) rfl rfl b4 hz3) ?_
  refine d9 (i8 rfl (by kernel_rfl) rfl rfl) ?_
  refine rA ?_
  refine rA<|c9 ?_
  refine tD (fun i=>!(Nat.beq i 7)) ?_
  refine dT 0 rfl (pF 1) ?_
  refine dT 1 rfl pL ?_
  refine dT 2 rfl pM ?_
  refine dT 3 rfl (pC 2) ?_
  refine dT 4 rfl pM ?_
  refine dO 5 rfl (n9 7 7 false (H9 Tryz.func219) (aW ns vs z2 (by omega) (by omega) (by omega) (by omega) (by exact(ot _ (D8 (by assumption))).1) (by exact(ot _ (D8 (by assumption))).2)) rfl (.cons rfl (.agg (.cons .t0 (.cons .t0 .nil))) (.cons rfl (.c .t0) .nil)) rfl rfl rfl) ?_
  obtain⟨z5,hz6,b7⟩:=v9 (xs:=(ts.take m).map (lY ns vs)++ts.drop m) (n:=(m:Int)) (by omega) (by(simp;omega))
  refine dT 6 rfl (V9 (by kernel_rfl) rfl rfl rfl b7 (f8 b7 hz6)) ?_
  refine dO 7 rfl (F8 (lY ns vs z2) (n:=1) (by kernel_rfl) rfl rfl hz6 rfl rfl rfl rfl (.cons .sc .nil) rfl (fun j h1 h2=>by(simp at h1 h2;omega))) ?_
  refine dE ?_
  refine i9<|l9<|rB ?_
  refine rM<|c9 ?_
  refine Z9 ?_ (ih0 (m + 1) (by(try dsimp only);omega) (by(try dsimp only);omega))
  exact⟨⟨rfl,⟨rfl,⟨rfl,⟨rfl,⟨rfl,⟨(L7 (n8 (by omega) (by omega))),trivial⟩⟩⟩⟩⟩⟩,⟨rfl,⟨rfl,⟨rfl,⟨(Q8 (qN hz3 rfl)),⟨rfl,trivial⟩⟩⟩⟩⟩,rfl⟩
 ·
  have h1':=d8 h1
  refine N9 rfl<|t9<|rC 2 ?_
  refine rS 2<|c9 ?_
  refine tk Tryz.func189 (X9 2 .nil) ?_ (hL:=⟨Q8 ?_,trivial⟩) <;>(try clear ih0)
  all_goals first | rfl | ((rw [List.take_of_length_le (by omega),List.drop_of_length_le (by omega),List.append_nil]))
def Tryz.sortF_ren : Go.Shelf.Ren := ⟨fun | 6 => 142 | 15 => 191 | 14 => 190 | 28 => 228 | 29 => 229 | 20 => 220 | 21 => 221 | 22 => 222 | 23 => 223 | 24 => 224 | 25 => 225 | 26 => 226 | 27 => 227 | 46 => 251 | 47 => 252 | 48 => 253 | 49 => 254 | 50 => 255 | 57 => 266 | n => n, fun | 22 => 25 | 24 => 64 | 25 => 62 | 3 => 3 | 39 => 170 | 0 => 0 | 53 => 216 | 55 => 218 | 4 => 4 | 46 => 210 | 45 => 209 | 50 => 107 | 5 => 5 | 9 => 9 | 66 => 233 | 70 => 237 | 76 => 253 | 77 => 254 | n => n, fun | n => n⟩
theorem Tryz.sortF : Go.Proofs.SlLaysF0.n6 Tryz.prog Tryz.sortF_ren := {
 mixed := by kernel_rfl
 f6 := ⟨Tryz.f142.name, by decide, Tryz.func142.trans (congrArg some (by kernel_rfl))⟩
 f14 := ⟨Tryz.f190.name, by decide, Tryz.func190.trans (congrArg some (by kernel_rfl))⟩
 f15 := Tryz.func191.trans (congrArg some (by kernel_rfl))
 f20 := ⟨Tryz.f220.name, by decide, Tryz.func220.trans (congrArg some (by kernel_rfl))⟩
 f21 := ⟨Tryz.f221.name, by decide, Tryz.func221.trans (congrArg some (by kernel_rfl))⟩
 f22 := ⟨Tryz.f222.name, by decide, Tryz.func222.trans (congrArg some (by kernel_rfl))⟩
 f23 := ⟨Tryz.f223.name, by decide, Tryz.func223.trans (congrArg some (by kernel_rfl))⟩
 f24 := ⟨Tryz.f224.name, by decide, Tryz.func224.trans (congrArg some (by kernel_rfl))⟩
 f25 := ⟨Tryz.f225.name, by decide, Tryz.func225.trans (congrArg some (by kernel_rfl))⟩
 f26 := ⟨Tryz.f226.name, by decide, Tryz.func226.trans (congrArg some (by kernel_rfl))⟩
 f27 := ⟨Tryz.f227.name, by decide, Tryz.func227.trans (congrArg some (by kernel_rfl))⟩
 f28 := Tryz.func228.trans (congrArg some (by kernel_rfl))
 f29 := Tryz.func229.trans (congrArg some (by kernel_rfl))
 f46 := ⟨Tryz.f251.name, by decide, Tryz.func251.trans (congrArg some (by kernel_rfl))⟩
 f47 := Tryz.func252.trans (congrArg some (by kernel_rfl))
 f48 := Tryz.func253.trans (congrArg some (by kernel_rfl))
 f49 := ⟨Tryz.f254.name, by decide, Tryz.func254.trans (congrArg some (by kernel_rfl))⟩
 f50 := ⟨Tryz.f255.name, by decide, Tryz.func255.trans (congrArg some (by kernel_rfl))⟩
 f57 := ⟨Tryz.f266.name, by decide, Tryz.func266.trans (congrArg some (by kernel_rfl))⟩
 t0 := Tryz.underlying0
 a0 := Tryz.isAgg0
 z0 := Tryz.sizeOf0
 v0 := Tryz.zeroValue0
 t3 := Tryz.underlying3
 a3 := Tryz.isAgg3
 z3 := Tryz.sizeOf3
 v3 := Tryz.zeroValue3
 t4 := Tryz.underlying4
 a4 := Tryz.isAgg4
 z4 := Tryz.sizeOf4
 v4 := Tryz.zeroValue4
 t5 := Tryz.underlying5
 a5 := Tryz.isAgg5
 z5 := Tryz.sizeOf5
 v5 := Tryz.zeroValue5
 t9 := Tryz.underlying9
 a9 := Tryz.isAgg9
 z9 := Tryz.sizeOf9
 v9 := Tryz.zeroValue9
 t22 := Tryz.underlying25
 a22 := Tryz.isAgg25
 z22 := Tryz.sizeOf25
 v22 := Tryz.zeroValue25
 t25 := Tryz.underlying62
 a25 := Tryz.isAgg62
 z25 := Tryz.sizeOf62
 v25 := Tryz.zeroValue62
 t39 := Tryz.underlying170
 a39 := Tryz.isAgg170
 z39 := Tryz.sizeOf170
 v39 := Tryz.zeroValue170
 t45 := Tryz.underlying209
 a45 := Tryz.isAgg209
 z45 := Tryz.sizeOf209
 v45 := Tryz.zeroValue209
 t46 := Tryz.underlying210
 a46 := Tryz.isAgg210
 z46 := Tryz.sizeOf210
 v46 := Tryz.zeroValue210
 t50 := Tryz.underlying107
 a50 := Tryz.isAgg107
 z50 := Tryz.sizeOf107
 v50 := Tryz.zeroValue107
 t53 := Tryz.underlying216
 a53 := Tryz.isAgg216
 z53 := Tryz.sizeOf216
 v53 := Tryz.zeroValue216
 t55 := Tryz.underlying218
 a55 := Tryz.isAgg218
 z55 := Tryz.sizeOf218
 v55 := Tryz.zeroValue218
 t66 := Tryz.underlying233
 a66 := Tryz.isAgg233
 z66 := Tryz.sizeOf233
 v66 := Tryz.zeroValue233
 t70 := Tryz.underlying237
 a70 := Tryz.isAgg237
 z70 := Tryz.sizeOf237
 v70 := Tryz.zeroValue237
 t76 := Tryz.underlying253
 a76 := Tryz.isAgg253
 z76 := Tryz.sizeOf253
 v76 := Tryz.zeroValue253
 t77 := Tryz.underlying254
 a77 := Tryz.isAgg254
 z77 := Tryz.sizeOf254
 v77 := Tryz.zeroValue254 }
theorem Tryz.isNaN_x (x:Int)(w:World):Calls Tryz.prog 211 #[.int .i64 x] w fun e w'=>e= .returned (.bool false)∧w'=w:=by
 go_enter Tryz.func211,Tryz.ntmps211
 go_wp2
 go_ret
 exact⟨by simp,rfl⟩
theorem Tryz.cmp_x (x y:Int)(w:World):Calls Tryz.prog 181 #[.int .i64 x,.int .i64 y] w fun e w'=>e= .returned (.int .i64 (Lib.compareInt x y))∧w'=w:=by
 go_enter Tryz.func181,Tryz.ntmps181
 go_wp2_with (go_at_call 211;refine(Tryz.isNaN_x _ _).mono ?_;rintro e w' ⟨rfl,hw⟩;rw [hw])
 all_goals(go_ret;refine⟨?_,rfl⟩;unfold Lib.compareInt;(repeat' split) <;> first | rfl | (exfalso;omega))

set_option maxHeartbeats 2000000 in
set_option maxRecDepth 100000 in
theorem Tryz.cmpS_x (A1 A2:Option Addr)(n m c d:Nat)(xs ys:List Int)(w:World)(hn:xs.length=n)(hm:ys.length=m)(hbig:n≤4611686018427387904)(hbig2:m≤4611686018427387904)(h1:VK w A1 xs)(h2:VK w A2 ys):Calls Tryz.prog 182 #[.slice A1 n c,.slice A2 m d] w fun e w'=>e= .returned (.int .i64 (Q6 xs ys))∧w'=w:=by
 have hcon:=fun x y W=>Tryz.cmp_x x y W
 have T1:Aside (VK w A1 xs∧VK w A2 ys∧xs.length=n∧ys.length=m):=⟨h1,h2,hn,hm⟩
 clear h1 h2 hn hm
 go_enter Tryz.func182,Tryz.ntmps182
 go_wp2
 go_loopg [11] n (fun g s11 wr=>∃k:Nat,k≤n∧k≤m∧n - k≤g∧s11= .int .i64 k∧wr=w∧Aside (xs.take k=ys.take k))
 case atStart=>exact⟨0,Nat.zero_le _,Nat.zero_le _,by omega,rfl,rfl,rfl⟩
 case round=>
  obtain⟨k,hk,hk2,hg,rfl,rfl,A⟩:=hrel
  by_cases hlt:k < n
  ·obtain⟨t1,t2,t3,t4⟩:=T1.out
   have ex:xs[k]? =some (xs[k]'(by omega)):=List.getElem?_eq_getElem (by omega)
   obtain⟨b1,eA1,g1⟩:=t1 k _ ex
   generalize hx:xs[k]'(by omega)=x at ex g1
   by_cases hlt2:k < m
   ·have ey:ys[k]? =some (ys[k]'(by omega)):=List.getElem?_eq_getElem (by omega)
    obtain⟨b2,eA2,g2⟩:=t2 k _ ey
    generalize hy:ys[k]'(by omega)=y at ey g2
    have B:Aside (xs[k]? =some x∧ys[k]? =some y):=⟨ex,ey⟩
    clear ex ey hx hy t1 t2 t3 t4
    subst eA1 eA2
    by_cases hxy:x=y
    ·subst hxy
     have hc0:Lib.compareInt x x=0:=by simp [Lib.compareInt]
     go_wp2_with (go_at_call 181;refine(hcon _ _ _).mono ?_;rintro e w' ⟨rfl,rfl⟩;rw [hc0])
     go_roundg (n - (k + 1))
     case measure=>omega
     case rel=>
      refine⟨k + 1,by omega,by omega,by omega,by go_num,rfl,(show Aside _ from ?_)⟩
      rw [Aside,List.take_add_one,List.take_add_one,B.out.1,B.out.2,A.out]
    ·obtain⟨r,hr⟩:∃r,r=Lib.compareInt x y:=⟨_,rfl⟩
     have hr0:¬r=0:=by rw [hr];unfold Lib.compareInt;(repeat' split) <;> omega
     have hr1:Q6 xs ys=r:=by
      obtain⟨q1,q2⟩:=PU A.out B.out.1 B.out.2
      rw [hr];unfold Lib.compareInt
      by_cases h1:x < y
      ·rw [if_pos h1,q1 h1]
      ·rw [if_neg h1,if_pos (by omega),q2 (by omega)]
     have HR:Aside (Q6 xs ys=r):=hr1
     clear hr1
     go_wp2_with (go_at_call 181;refine(hcon _ _ _).mono ?_;rintro e w' ⟨rfl,rfl⟩;rw [← hr])
     go_ret
     exact⟨by rw [HR.out,hr];rfl,rfl⟩
   ·have hkm:m=k:=by omega
    subst hkm
    have hr1:Q6 xs ys=1:=(c4 A.out (by omega) (by omega)).2.1 (by omega) (by omega)
    have HR:Aside (Q6 xs ys=1):=hr1
    clear hr1 t1 t2 t3 t4 hx ex
    subst eA1
    go_wp2
    go_ret
    exact⟨by rw [HR.out];rfl,rfl⟩
  ·have hkn:n=k:=by omega
   subst hkn
   by_cases hnm:n < m
   ·have hr1:Q6 xs ys= -1:=by
     obtain⟨t1,t2,t3,t4⟩:=T1.out
     exact(c4 A.out (by omega) (by omega)).1 (by omega) (by omega)
    have HR:Aside (Q6 xs ys= -1):=hr1
    clear hr1
    go_wp2
    go_ret
    exact⟨by rw [HR.out];rfl,rfl⟩
   ·have hr1:Q6 xs ys=0:=by
     obtain⟨t1,t2,t3,t4⟩:=T1.out
     exact(c4 A.out (by omega) (by omega)).2.2 (by omega) (by omega)
    have HR:Aside (Q6 xs ys=0):=hr1
    clear hr1
    go_wp2
    go_ret
    exact⟨by rw [HR.out];rfl,rfl⟩

/-- cmp.Or of two numbers that a literal holds. -/
theorem Tryz.or_x (b c:Nat)(x y:Int)(w:World)(h1:w.cell? ⟨b,0,none⟩=some (.int .i64 x))(h2:w.cell? ⟨b,1,none⟩=some (.int .i64 y)):Calls Tryz.prog 180 #[.slice (some ⟨b,0,none⟩) 2 c] w fun e w'=>e= .returned (.int .i64 (if x=0 then y else x))∧w'=w:=by
 by_cases hx:x=0
 ·subst hx
  by_cases hy:y=0
  ·subst hy
   go_enter Tryz.func180,Tryz.ntmps180
   go_wp2
   refine wp_loop_rounds 3 ?_
   rw [rounds_succ]
   go_wp2
   rw [rounds_succ]
   go_wp2
   rw [rounds_succ]
   go_wp2
   go_ret
   exact⟨rfl,rfl⟩
  ·go_enter Tryz.func180,Tryz.ntmps180
   go_wp2
   refine wp_loop_rounds 3 ?_
   rw [rounds_succ]
   go_wp2
   rw [rounds_succ]
   go_wp2
   go_ret
   exact⟨rfl,rfl⟩
 ·go_enter Tryz.func180,Tryz.ntmps180
  go_wp2
  refine wp_loop_rounds 3 ?_
  rw [rounds_succ]
  go_wp2
  go_ret
  exact⟨rfl,rfl⟩

theorem Tryz.or_z (b c:Nat)(x y z:Int)(hz:(if x=0 then y else x)=z)(w:World)(h1:w.cell? ⟨b,0,none⟩=some (.int .i64 x))(h2:w.cell? ⟨b,1,none⟩=some (.int .i64 y)):Calls Tryz.prog 180 #[.slice (some ⟨b,0,none⟩) 2 c] w fun e w'=>e= .returned (.int .i64 z)∧w'=w:=by
 subst hz;exact Tryz.or_x b c x y w h1 h2
set_option maxHeartbeats 2000000 in
set_option maxRecDepth 100000 in
theorem Tryz.cmpF_x (r1 r2:Int)(A1 A2:Option Addr)(n m c d:Nat)(xs ys:List Int)(w:World)(hn:xs.length=n)(hm:ys.length=m)(hbig:n≤4611686018427387904)(hbig2:m≤4611686018427387904)(h1:VK w A1 xs)(h2:VK w A2 ys):Calls Tryz.prog 133 #[.agg #[.int .i64 r1,.slice A1 n c],.agg #[.int .i64 r2,.slice A2 m d]] w fun e w'=>e= .returned (.int .i64 (W8 (r1,xs) (r2,ys)))∧∃q os,w'=Go.Sort.grow (w.drewN q) os:=by
 have hv:(if Lib.compareInt r1 r2=0 then Q6 xs ys else Lib.compareInt r1 r2)=W8 (r1,xs) (r2,ys):=by
  unfold Lib.compareInt W8
  (repeat' split) <;> first | rfl | omega
 rw [← hv]
 clear hv
 have hc1:∀W,Calls Tryz.prog 181 #[.int .i64 r1,.int .i64 r2] W fun e w'=>e= .returned (.int .i64 (Lib.compareInt r1 r2))∧w'=W:=fun W=>Tryz.cmp_x r1 r2 W
 have hc2:∀q os,Calls Tryz.prog 182 #[.slice A1 n c,.slice A2 m d] (Go.Sort.grow (w.drewN q) os) fun e w'=>e= .returned (.int .i64 (Q6 xs ys))∧w'=Go.Sort.grow (w.drewN q) os:=fun q os=>by
  have mv:∀A xs,VK w A xs→VK (Go.Sort.grow (w.drewN q) os) A xs:=fun A xs h j x hx=>by
   obtain⟨b,e,hc⟩:=h j x hx
   refine⟨b,e,?_⟩
   rw [Go.Sort.cell?_grow _ _ _ (by have:=World.block_lt_of_cell? w _ hc;simpa using this)]
   exact hc
  exact Tryz.cmpS_x A1 A2 n m c d xs ys _ hn hm hbig hbig2 (mv _ _ h1) (mv _ _ h2)
 generalize Lib.compareInt r1 r2=x at hc1 ⊢
 generalize Q6 xs ys=y at hc2 ⊢
 clear h1 h2 hn hm
 obtain⟨z,hz⟩:∃z,(if x=0 then y else x)=z:=⟨_,rfl⟩
 rw [hz]
 go_enter Tryz.func133,Tryz.ntmps133
 go_wp2
 obtain⟨o1,ho1⟩:∃o:Obj,o= .cells #[.int .i64 r1,.slice A1 n c] 64:=⟨_,rfl⟩
 obtain⟨o2,ho2⟩:∃o:Obj,o= .cells #[.int .i64 r2,.slice A2 m d] 64:=⟨_,rfl⟩
 rw [← ho1,← ho2]
 have hW0:((w.alloc o1).alloc o2).drew=Go.Sort.grow (w.drewN 1) #[o1,o2]:=by
  rw [Go.Sort.alloc_eq_grow,Go.Sort.alloc_eq_grow,Go.Sort.grow_grow];rfl
 refine wp_region_still_tail 10 (by kernel_rfl) (by kernel_rfl) ?_
 change wpStill _ _ ((w.alloc o1).alloc o2).drew (fun a'=>wpList _ _ _ _ a' ((w.alloc o1).alloc o2).drew) _ _
 have hcell:∀k v,(match o1 with | .cells cs _ _=>cs[k]? | _=>none)=some v→((w.alloc o1).alloc o2).drew.cell? ⟨w.heap.size,k,none⟩=some v:=fun k v h=>by
  rw [ho1] at h ⊢
  unfold World.cell?
  rw [show(((w.alloc (.cells #[.int .i64 r1,.slice A1 n c] 64)).alloc o2).drew).heap=(w.heap.push (.cells #[.int .i64 r1,.slice A1 n c] 64)).push o2 from rfl]
  simpa [Array.getElem?_push] using h
 have hcell2:∀k v,(match o2 with | .cells cs _ _=>cs[k]? | _=>none)=some v→((w.alloc o1).alloc o2).drew.cell? ⟨w.heap.size + 1,k,none⟩=some v:=fun k v h=>by
  rw [ho2] at h ⊢
  unfold World.cell?
  have e:((w.heap.push o1).push (.cells #[.int .i64 r2,.slice A2 m d] 64))[w.heap.size + 1]? =some (.cells #[.int .i64 r2,.slice A2 m d] 64):=by
   rw [show w.heap.size + 1=(w.heap.push o1).size by simp]
   exact Array.getElem?_push_size
  rw [show(((w.alloc o1).alloc (.cells #[.int .i64 r2,.slice A2 m d] 64)).drew).heap=(w.heap.push o1).push (.cells #[.int .i64 r2,.slice A2 m d] 64) from rfl,e]
  exact h
 have q1:=hcell 0 (.int .i64 r1) (by rw [ho1];rfl)
 have q2:=hcell 1 (.slice A1 n c) (by rw [ho1];rfl)
 have q3:=hcell2 0 (.int .i64 r2) (by rw [ho2];rfl)
 have q4:=hcell2 1 (.slice A2 m d) (by rw [ho2];rfl)
 clear hcell hcell2
 have hc2':=hc2 1 #[o1,o2]
 rw [← hW0] at hc2'
 clear hc2
 have HW:Aside (((w.alloc o1).alloc o2).drew=Go.Sort.grow (w.drewN 1) #[o1,o2]):=hW0
 clear hW0 ho1 ho2
 generalize ((w.alloc o1).alloc o2).drew=W at q1 q2 q3 q4 hc2' HW ⊢
 simp only [List.take_succ_cons,List.take_zero,List.drop_succ_cons,List.drop_zero]
 iterate 4 still_step
 still_call (hc1 _)
 iterate 4 still_step
 still_call hc2'
 refine wpStill_nil ?_
 clear q1 q2 q3 q4 hc1 hc2'
 go_wp2_with (go_at_call 180;refine(Tryz.or_z _ _ x y z hz _ (by exact(VU _ _ _ _ _ _ (by simp)).trans rfl) (by exact(VU _ _ _ _ _ _ (by simp)).trans rfl)).mono ?_;rintro e w' ⟨rfl,rfl⟩)
 go_ret
 exact⟨rfl,1,#[o1,o2]++#[_],by rw [Go.Sort.alloc_eq_grow,HW.out,Go.Sort.grow_grow]⟩

theorem w4 (U:Nat→Value)(e0:Nat)(l:w9)(hl:N8 (fun(x:Int ×(List Int))=>x.2.length) l≤1048576):Mu Tryz.prog 142 [.c (.own 0),.c (.clo 133 [])] [(0,some (.row (some (U 0)) e0 true 2 (y9 f9 (x9 1 f9)) l))] 1 [(0,some (.row (some (U 0)) e0 true 2 (y9 f9 (x9 1 f9)) (sortF l)))] 1 (.tup []):=by
 have gl:=I8 (f:=(fun(x:Int ×(List Int))=>x.2.length)) (l:=l)
 exact iK Tryz.sortF Tryz.isAgg64 Tryz.sizeOf64 (H9 Tryz.func133) Tryz.cmpF_x U e0 l (by omega) (fun x hx=>by have e1:=kZ (f:=(fun(x:Int ×(List Int))=>x.2.length)) (l:=l) hx;(try dsimp only at e1);omega)
theorem E5 (S0:Nat→Prop)(Dm:Value→Prop)(D:Value→List Int)(U:Nat→Value)(e0:Nat)(l:List (Int × Value))(hl:l.length≤1048576)(hD:∀p∈l,Dm p.2):UH S0 (XN S0 Dm D) Tryz.prog 143 [.c (.own 0),.c (.clo 144 [])] [(0,some (.row (some (U 0)) e0 false 2 (y9 f9 CQ) l))] 1 [(0,some (.row none e0 false 2 (y9 f9 CQ) (C5 (nS D) l l.length)))] 1 (.c (.own 0)):=by
 refine YN Tryz.func143 rfl (Nat.le_of_ble_eq_true rfl) fun w S M hX hM=>?_
 refine t9<|rA<|c9<|k9<|t9 ?_
 refine rM ?_
 refine d9 (A7 rfl rfl rfl rfl) ?_
 refine rB<|c9 ?_
 refine j9 rfl (fun h1=>?_) (fun h1=>?_)
 ·
  have h1':=a8 h1
  refine t9<|rM ?_
  refine rA<|c9 ?_
  refine eY 0 rfl ?_
  refine nN Tryz.func143 (.tmp rfl .nil) ?_ (hL:=⟨Q8 ?_,trivial⟩) <;>(try clear ih0) <;>(try clear ih1)
  all_goals first | rfl | (exact OM (by omega))
 ·
  have h1':=d8 h1
  refine m9<|k9<|t9<|rA<|c9<|p9 ?_
  refine J9 (fun m=>⟨[(0,some (.c (.own 0))),(1,some (.c (.clo 144 []))),(5,some (.c (.t none (.v (.int .i64 ((m:Int)))))))],[(0,some (.row (some (U 0)) e0 false 2 (y9 f9 CQ) l))],1⟩:Nat→St) (fun m=>sH (nS D) l m) (fun m=>l.length - m) 1 ⟨⟨rfl,⟨rfl,⟨rfl,trivial⟩⟩⟩,⟨rfl,trivial⟩,rfl⟩ (by exact EM (by omega)) ?_
  rintro m hI ih0
  try dsimp only at hI ih0
  have i1:=hI.1;have i2:=hI.2.1
  refine k9<|t9<|rM ?_
  refine rM ?_
  refine d9 (A7 rfl rfl rfl rfl) ?_
  refine rB<|c9 ?_
  refine j9 rfl (fun h2=>?_) (fun h2=>?_)
  ·
   have h2':=a8 h2
   refine m9<|k9<|p9<|k9 ?_
   refine tY ?_
   refine dT 0 rfl pM ?_
   refine dT 1 rfl pM ?_
   refine dT 2 rfl pM ?_
   obtain⟨z3,hz4,b5⟩:=v9 (xs:=l) (n:=(m:Int)) (by omega) (by omega)
   refine dT 3 rfl (V9 (by kernel_rfl) rfl rfl rfl b5 (f8 b5 hz4)) ?_
   refine dT 4 rfl (EX (by kernel_rfl) (by kernel_rfl) rfl rfl hz4) ?_
   refine dT 5 rfl pM ?_
   refine dT 6 rfl pM ?_
   refine dT 7 rfl pB ?_
   obtain⟨z6,hz7,b8⟩:=v9 (xs:=l) (n:=IntKind.i64.wrap ((m:Int) - 1)) (by(simp only [IntKind.wrap_i64];omega)) (by(simp only [IntKind.wrap_i64];omega))
   refine dT 8 rfl (V9 (by kernel_rfl) rfl rfl rfl b8 (f8 b8 hz7)) ?_
   refine dT 9 rfl (EX (by kernel_rfl) (by kernel_rfl) rfl rfl hz7) ?_
   refine dO 10 rfl (BQ (fun _ hk=>FQ hk hM hX) 1 1 false (H9 Tryz.func144) (pK (fun a b c d e f=>V1 a b c d (by assumption) (by assumption)) S0 Dm D z3.1 z6.1 z3.2 z6.2 (by exact hD _ (D8 (by assumption))) (by exact hD _ (D8 (by assumption)))) rfl rfl (.cons rfl (.agg (.cons .t0 (.cons .t0 .nil))) (.cons rfl (.agg (.cons .t0 (.cons .t0 .nil))) .nil)) rfl rfl rfl) ?_
   refine dE ?_
   refine j9 rfl (fun h9=>?_) (fun h9=>?_)
   ·
    have h9':=a8 h9
    refine t9<|rM ?_
    refine rM ?_
    refine d9 (JU rfl (by kernel_rfl) rfl rfl rfl (by omega) (by omega)) ?_
    refine rA<|c9<|k9<|t9 ?_
    refine rA<|c9<|p9 ?_
    refine J9 (fun(k,i,q)=>⟨[(0,some (.c (.own 0))),(1,some (.c (.clo 144 []))),(5,some (.c (.t none (.v (.int .i64 ((k:Int))))))),(6,some (.c (.vw 0 (((m:Int)).toNat) ((l.length - ((m:Int)).toNat)) 2))),(7,some (.c (.t none (.v (.int .i64 ((i:Int)))))))],[(0,some (.row (some (U 0)) e0 false 2 (y9 f9 CQ) q))],1⟩:Nat × Nat × List (Int × Value)→St) (fun(k,i,q)=>AI (nS D) l q k (m + i)∧1≤i) (fun(k,i,q)=>l.length - (m + i)) (m,1,l) ⟨⟨rfl,⟨rfl,⟨rfl,⟨rfl,⟨rfl,trivial⟩⟩⟩⟩⟩,⟨rfl,trivial⟩,rfl⟩ (by exact⟨dM hI hz4 hz7 (by simp only [IntKind.wrap_i64];omega) (decide_eq_true (by assumption)),Nat.le_refl _⟩) ?_
    rintro⟨k,i,q⟩ hI ih1
    try dsimp only at hI ih1
    obtain⟨hI,j7⟩:=hI;have j1:=hI.1;have j2:=hI.2.1;have j3:=hI.2.2.1;have j4:=hI.2.2.2.1
    refine k9<|t9<|rM ?_
    refine rM ?_
    refine d9 (vL rfl rfl rfl) ?_
    refine rB<|c9 ?_
    refine j9 rfl (fun h10=>?_) (fun h10=>?_)
    ·
     have h10':=a8 h10
     refine m9<|k9<|p9<|k9 ?_
     refine tY ?_
     refine dT 0 rfl pM ?_
     refine dT 1 rfl pM ?_
     refine dT 2 rfl pM ?_
     obtain⟨z11,hz12⟩:=WR (xs:=q) (n:=(((m:Int)).toNat +((i:Int)).toNat)) (by omega)
     refine dT 3 rfl (fX (by kernel_rfl) rfl rfl (by omega) (by omega)) ?_
     refine dT 4 rfl (EX (by kernel_rfl) (by kernel_rfl) rfl rfl hz12) ?_
     refine dT 5 rfl pM ?_
     refine dT 6 rfl pM ?_
     refine dT 7 rfl pB ?_
     obtain⟨z14,hz15⟩:=WR (xs:=q) (n:=(((m:Int)).toNat +(IntKind.i64.wrap ((i:Int) - 1)).toNat)) (by(simp only [IntKind.wrap_i64];omega))
     refine dT 8 rfl (fX (by kernel_rfl) rfl rfl (by(simp only [IntKind.wrap_i64];omega)) (by(simp only [IntKind.wrap_i64];omega))) ?_
     refine dT 9 rfl (EX (by kernel_rfl) (by kernel_rfl) rfl rfl hz15) ?_
     refine dO 10 rfl (BQ (fun _ hk=>FQ hk hM hX) 1 1 false (H9 Tryz.func144) (pK (fun a b c d e f=>V1 a b c d (by assumption) (by assumption)) S0 Dm D z11.1 z14.1 z11.2 z14.2 (by exact hD _ (List.mem_of_getElem? (PM hI (by assumption) (by(try simp only [IntKind.wrap_i64]);omega)))) (by exact hD _ (List.mem_of_getElem? (PM hI (by assumption) (by(try simp only [IntKind.wrap_i64]);omega))))) rfl rfl (.cons rfl (.agg (.cons .t0 (.cons .t0 .nil))) (.cons rfl (.agg (.cons .t0 (.cons .t0 .nil))) .nil)) rfl rfl rfl) ?_
     refine dT 11 rfl (R3 rfl) ?_
     refine dE ?_
     refine j9 rfl (fun h17=>?_) (fun h17=>?_)
     ·
      have h17':=d8 (d4 h17)
      refine t9<|rM ?_
      refine rM ?_
      refine rM ?_
      refine rM ?_
      refine d9 (IQ rfl (by kernel_rfl) rfl rfl (by omega) (by omega)) ?_
      refine d9 (ZL rfl (by kernel_rfl) (by kernel_rfl) rfl rfl hz12) ?_
      obtain⟨z18,hz19,b20⟩:=v9 (xs:=q) (n:=(k:Int)) (by omega) (by omega)
      refine d9 (o8 rfl (by kernel_rfl) rfl rfl rfl b20 (f8 b20 hz19)) ?_
      refine d9 (F8 z11 (n:=2) (by kernel_rfl) rfl rfl hz19 rfl rfl rfl rfl (.cons .sc (.cons .sc .nil)) rfl (fun j h1 h2=>by(exact h2.elim (fun h=>by omega) (fun h=>absurd (show 2≤j from h) (by omega))))) ?_
      refine EO<|rM ?_
      refine rB ?_
      refine rA<|c9<|i9<|l9 ?_
      refine rM ?_
      refine rB ?_
      refine rA<|c9 ?_
      refine Z9 ?_ (ih1 (k + 1,i + 1,q.set ((k:Int)).toNat z11) (by(try dsimp only);omega) (by(try dsimp only);exact⟨yK hI hz12 hz15 (show _ + 1=m + i by simp only [IntKind.wrap_i64];omega) (decide_eq_false (by assumption)),by omega⟩))
      exact⟨⟨rfl,⟨rfl,⟨(L7 (n8 (by omega) (by omega))),⟨rfl,⟨(L7 (n8 (by omega) (by omega))),trivial⟩⟩⟩⟩⟩,⟨rfl,trivial⟩,rfl⟩
     ·
      have h17':=a8 (Y5 h17)
      refine m9<|i9<|l9<|rM ?_
      refine rB ?_
      refine rA<|c9 ?_
      refine Z9 ?_ (ih1 (k,i + 1,q) (by(try dsimp only);omega) (by(try dsimp only);exact⟨YM hI hz12 hz15 (show _ + 1=m + i by simp only [IntKind.wrap_i64];omega) (decide_eq_true (by assumption)),by omega⟩))
      exact⟨⟨rfl,⟨rfl,⟨rfl,⟨rfl,⟨(L7 (n8 (by omega) (by omega))),trivial⟩⟩⟩⟩⟩,⟨rfl,trivial⟩,rfl⟩
    ·
     have h10':=d8 h10
     refine N9 rfl<|t9<|rM ?_
     refine rM ?_
     refine d9 (JU rfl (by kernel_rfl) rfl rfl rfl (by omega) (by omega)) ?_
     refine d9 (sK ((0,Value.slice none 0 0)) rfl rfl Tryz.underlying25 (by kernel_rfl) rfl rfl (.cons (.v rfl) (.cons (.v rfl) .nil)) (by omega) (by omega)) ?_
     refine P8<|rM ?_
     refine rM ?_
     refine d9 (EN rfl (by kernel_rfl) rfl rfl rfl (by omega) (by(simp only [List.length_append,List.length_take,List.length_replicate,List.length_drop];omega)) (by(simp only [List.length_append,List.length_take,List.length_replicate,List.length_drop];omega))) ?_
     refine rA<|c9 ?_
     refine tO 4 0 rfl rfl (by(simp only [List.length_append,List.length_take,List.length_replicate,List.length_drop];omega)) (by(simp only [List.length_append,List.length_take,List.length_replicate,List.length_drop];omega)) ?_
     refine nN Tryz.func143 (.tmp rfl .nil) ?_ (hL:=⟨Q8 ?_,trivial⟩) <;>(try clear ih0) <;>(try clear ih1)
     all_goals first | rfl | ((rw [List.append_assoc];exact hJ hI (by omega) _))
   ·
    have h9':=d8 h9
    refine m9<|i9<|l9<|rM ?_
    refine rB ?_
    refine rA<|c9 ?_
    refine Z9 ?_ (ih0 (m + 1) (by(try dsimp only);omega) (by(try dsimp only);exact xL hI hz4 hz7 (by simp only [IntKind.wrap_i64];omega) (decide_eq_false (by assumption))))
    exact⟨⟨rfl,⟨rfl,⟨(L7 (n8 (by omega) (by omega))),trivial⟩⟩⟩,⟨rfl,trivial⟩,rfl⟩
  ·
   have h2':=d8 h2
   refine N9 rfl<|t9<|rM ?_
   refine rA<|c9 ?_
   refine eY 0 rfl ?_
   refine nN Tryz.func143 (.tmp rfl .nil) ?_ (hL:=⟨Q8 ?_,trivial⟩) <;>(try clear ih0) <;>(try clear ih1)
   all_goals first | rfl | (exact mJ hI (by omega))
theorem P5 (U:Nat→Value)(e0:Nat)(l:w9)(hl:N8 (fun(x:Int ×(List Int))=>x.2.length) l≤1048576):Mu Tryz.prog 143 [.c (.own 0),.c (.clo 144 [])] [(0,some (.row (some (U 0)) e0 true 2 (y9 f9 (x9 1 f9)) l))] 1 [(0,some (.row none e0 true 2 (y9 f9 (x9 1 f9)) (C5 CR l l.length)))] 1 (.c (.own 0)):=by
 have gl:=I8 (f:=(fun(x:Int ×(List Int))=>x.2.length)) (l:=l)
 exact xK (fun S0 Dm D U e0 l hl hD=>E5 S0 Dm D U e0 l hl hD) U e0 l (by omega) (fun x hx=>by have e1:=kZ (f:=(fun(x:Int ×(List Int))=>x.2.length)) (l:=l) hx;(try dsimp only at e1);omega)
theorem JY (fs:w9)(hfs:N8 (fun(x:Int ×(List Int))=>x.2.length) fs≤1048576):Pu Tryz.prog 79 [.c (.t none (.sl 2 (y9 f9 (x9 1 f9)) fs))] [(0,some (.row none 64 true 2 (y9 f9 (x9 1 f9)) (uV fs)))] 1 (.c (.own 0)):=by
 refine S7 Tryz.func79 fun w S=>?_
 refine t9<|rA<|P8 ?_
 refine rM ?_
 refine d9 (n9 0 1 false (H9 Tryz.func72) (jY fs (by omega)) rfl (.cons rfl (.c .t0) .nil) rfl rfl rfl) ?_
 refine rA<|P8 ?_
 refine rM ?_
 refine d9 (SR [⟨0,none,64,2,_,(y9 f9 (x9 1 f9)),fs,sortF fs⟩] (H9 Tryz.func142) (fun U=>w4 U 64 fs (by omega)) rfl ⟨rfl,trivial⟩ rfl rfl (.cons rfl (.own rfl) (.cons rfl .clo .nil)) rfl) ?_
 refine P8<|rM ?_
 refine d9 (OX 0 (l':=C5 CR (sortF fs) (sortF fs).length) (H9 Tryz.func143) (fun U=>P5 U 64 (sortF fs) (by(rw [bP (cZ fs)];assumption))) rfl rfl (.cons rfl (.own rfl) (.cons rfl .clo .nil))) ?_
 refine rA<|c9 ?_
 refine tk Tryz.func79 (.tmp rfl .nil) ?_ (hL:=⟨Q8 ?_,trivial⟩)
 all_goals first | rfl | (exact GS fs)
theorem J3 (ns vs:List Int)(rs:T9)(fs:w9)(hn:ns.length≤4611686018427387904)(hv:vs.length≤4611686018427387904)(on:∀x∈ns,B7 x)(ov:∀x∈vs,B7 x)(hrs:rs.length≤1048576)(hfs:N8 (fun(x:Int ×(List Int))=>x.2.length) fs≤1048576)(ho:∀z∈fs,∀x∈z.2,B7 x):Pu Tryz.prog 140 [.agg [.t none (.sl 1 f9 ns),.t none (.sl 1 f9 vs)],.agg [.t none (.sl 3 (j8 Y9 f9 U9) rs),.t none (.sl 2 (y9 f9 (x9 1 f9)) fs)]] [(3,some (.row none 95 true 3 (j8 Y9 f9 U9) (DU rs fs ns vs))),(4,some (.row none 64 true 2 (y9 f9 (x9 1 f9)) (BU rs fs ns vs)))] 5 (.tup [(true,[.own 3,.own 4]),(false,[.t none (.v (.bool (YZ rs fs ns vs)))])]):=by
 refine S7 Tryz.func140 fun w S=>?_
 have gl:=I8 (f:=(fun(x:Int ×(List Int))=>x.2.length)) (l:=fs)
 refine t9 ?_
 refine d9 (m8 0 rfl rfl rfl rfl) ?_
 refine d9 (m8 1 rfl rfl rfl rfl) ?_
 refine d9 (F9 2 (zs:=[.slice none 0 0,.slice none 0 0]) rfl rfl (by kernel_rfl) rfl) ?_
 refine rA<|c9<|k9<|t9 ?_
 refine rC 2 ?_
 refine d9 (n9 3 3 false (H9 Tryz.func188) (J4 ns vs (by omega) (by omega) (by omega) (by omega)) rfl (.cons rfl (.agg (.cons .t0 (.cons .t0 .nil))) .nil) rfl rfl rfl) ?_
 refine d9 (E8 rfl rfl) ?_
 refine rM ?_
 refine A9 (fun g1=>?_) (fun g1=>?_)
 ·
  have g1':=(Y5 g1)
  refine rC 2 ?_
  refine A9 (fun _=>?_) (C9 g1)
  refine d9 (n9 3 3 false (H9 Tryz.func69) (I6 rs fs (by omega) (by omega) (by omega)) rfl (.cons rfl (.agg (.cons .t0 (.cons .t0 .nil))) .nil) rfl rfl rfl) ?_
  refine A9 (fun _=>?_) (C9 g1)
  refine d9 (E8 rfl rfl) ?_
  refine d9 (G9 rfl rfl g1 rfl) ?_
  refine c9 ?_
  refine j9 rfl (fun h2=>?_) (fun h2=>?_)
  ·
   have h2':=(d4 h2)
   refine t9 ?_
   refine d9 (oD [(0,1),(1,1)] [.slice none 0 0,.slice none 0 0]) ?_
   refine rS 2 ?_
   refine rA<|c9 ?_
   refine A6 3 (b:=2) (o:=0) (et:=95) (sz:=3) true (j8 Y9 f9 U9) rfl rfl rfl ?_
   refine A6 4 (b:=2) (o:=1) (et:=64) (sz:=2) true (y9 f9 (x9 1 f9)) rfl rfl rfl ?_
   refine tk Tryz.func140 (X9 2 (.tmp rfl .nil)) ?_ (hL:=⟨Q8 ?_,⟨Q8 ?_,trivial⟩⟩) <;>(try clear ih0)
   all_goals((have e8:=PN (rs:=rs) (fs:=fs) (ns:=ns) (vs:=vs) (by assumption);first | (rw [e8.1];done) | (rw [e8.2.1];done) | (rw [e8.2.2];rfl)))
  ·
   have h2':=(Y5 h2)
   refine m9<|t9<|rC 2 ?_
   refine d9 (n9 3 7 false (H9 Tryz.func31) (E7 rs fs (by omega) (by omega)) rfl (.cons rfl (.agg (.cons .t0 (.cons .t0 .nil))) .nil) rfl rfl rfl) ?_
   refine d9 (F9 7 (zs:=[.slice none 0 0,.slice none 0 0]) rfl rfl (by kernel_rfl) rfl) ?_
   refine rS 2<|c9<|k9<|t9 ?_
   refine rF 1 ?_
   refine rL ?_
   refine d9 (P9 rfl rfl rfl) ?_
   refine rM<|c9<|p9 ?_
   refine J9 (fun m=>⟨[(2,some (.c (.ptr 0 0))),(4,some (.c (.ptr 2 0))),(5,some (.c (.t none (.v (.bool false))))),(6,some (.c (.ptr 7 0))),(21,some (.c (.t none (.sl 2 (y9 f9 (x9 1 f9)) fs)))),(22,some (.c (.t none (.v (.int .i64 ((fs.length:Int))))))),(23,some (.c (.t none (.v (.int .i64 ((m:Int)))))))],[(0,some (.box [.t none (.sl 1 f9 ns),.t none (.sl 1 f9 vs)])),(1,some (.box [.t none (.sl 3 (j8 Y9 f9 U9) rs),.t none (.sl 2 (y9 f9 (x9 1 f9)) fs)])),(2,some (.box [.t none (.v (.slice none 0 0)),.t none (.v (.slice none 0 0))])),(5,some (.row none 95 true 3 (j8 Y9 f9 U9) rs)),(6,some (.row none 64 true 2 (y9 f9 (x9 1 f9)) ((fs.take m).map (gU ns vs)++fs.drop m))),(7,some (.box [.own 5,.own 6]))],8⟩:Nat→St) (fun m=>m≤fs.length) (fun m=>fs.length - m) 0 ⟨⟨rfl,⟨rfl,⟨rfl,⟨rfl,⟨rfl,⟨rfl,⟨rfl,trivial⟩⟩⟩⟩⟩⟩⟩,⟨rfl,⟨rfl,⟨rfl,⟨rfl,⟨(Q8 (by simp)),⟨rfl,trivial⟩⟩⟩⟩⟩⟩,rfl⟩ (by exact Nat.zero_le _) ?_
   rintro m hI ih0
   try dsimp only at hI ih0
   have i1:=hI
   refine t9<|rB<|c9<|k9 ?_
   refine j9 rfl (fun h3=>?_) (fun h3=>?_)
   ·
    have h3':=a8 h3
    refine m9<|k9<|p9<|t9<|rM ?_
    obtain⟨z4,hz5,b6⟩:=v9 (xs:=fs) (n:=(m:Int)) (by omega) (by omega)
    refine d9 (Q9 rfl (by kernel_rfl) rfl rfl b6 hz5) ?_
    refine d9 (m6 rfl (n:=2) (by kernel_rfl) (by kernel_rfl) rfl rfl) ?_
    refine d9 (F9 8 (zs:=[.int .i64 0,.slice none 0 0]) rfl rfl (by kernel_rfl) rfl) ?_
    refine rA ?_
    refine rS 2<|c9 ?_
    refine tD (fun i=>!(Nat.beq i 7)) ?_
    refine dT 0 rfl (pF 1) ?_
    refine dT 1 rfl pL ?_
    refine dT 2 rfl pM ?_
    refine dT 3 rfl (pC 2) ?_
    refine dT 4 rfl (pC 2) ?_
    refine dO 5 rfl (n9 9 15 false (H9 Tryz.func189) (xW ns vs z4.1 z4.2 (by omega) (by omega) (by omega) (by omega) (by(have e1:=X7 (f:=(fun(x:Int ×(List Int))=>x.2.length)) (l:=fs) (m:=m) (by assumption);(try dsimp only at e1);omega)) (by exact ho _ (D8 (by assumption)))) rfl (.cons rfl (.agg (.cons .t0 (.cons .t0 .nil))) (.cons rfl (.agg (.cons .t0 (.cons .t0 .nil))) .nil)) rfl rfl rfl) ?_
    obtain⟨z7,hz8,b9⟩:=v9 (xs:=(fs.take m).map (gU ns vs)++fs.drop m) (n:=(m:Int)) (by omega) (by(simp only [List.length_append,List.length_map,List.length_take,List.length_drop];omega))
    refine dT 6 rfl (V9 (by kernel_rfl) rfl rfl rfl b9 (f8 b9 hz8)) ?_
    refine dO 7 rfl (F8 ((z4.1,z4.2.map (lY ns vs))) (n:=2) (by kernel_rfl) rfl rfl hz8 rfl rfl rfl rfl (.cons .sc (.take (.own rfl) rfl .nil)) rfl (fun j h1 h2=>by(simp at h1 h2;omega))) ?_
    refine dE ?_
    refine i9<|l9<|rB ?_
    refine rM<|c9 ?_
    refine Z9 ?_ (ih0 (m + 1) (by(try dsimp only);omega) (by(try dsimp only);omega))
    exact⟨⟨rfl,⟨rfl,⟨rfl,⟨rfl,⟨rfl,⟨rfl,⟨(L7 (n8 (by omega) (by omega))),trivial⟩⟩⟩⟩⟩⟩⟩,⟨rfl,⟨rfl,⟨rfl,⟨rfl,⟨(Q8 (qN (f:=gU ns vs) hz5 rfl)),⟨rfl,trivial⟩⟩⟩⟩⟩⟩,rfl⟩
   ·
    have h3':=d8 h3
    refine N9 rfl<|t9<|rF 1 ?_
    refine rL ?_
    refine d9 (n9 8 9 false (H9 Tryz.func79) (JY ((fs.take m).map (gU ns vs)++fs.drop m) (by(rw [List.take_of_length_le (by omega),List.drop_of_length_le (by omega),List.append_nil,aQ];omega))) rfl (.cons rfl (.c (.own rfl)) .nil) rfl rfl rfl) ?_
    refine rF 1 ?_
    refine rS 1<|P8 ?_
    refine rC 2 ?_
    refine rS 2 ?_
    refine rA<|c9 ?_
    refine n7 3 5 rfl rfl rfl ?_
    refine n7 4 8 rfl rfl rfl ?_
    refine tk Tryz.func140 (X9 2 (.tmp rfl .nil)) ?_ (hL:=⟨Q8 ?_,⟨Q8 ?_,trivial⟩⟩) <;>(try clear ih0)
    all_goals((have e8:=oN (rs:=rs) (fs:=fs) (ns:=ns) (vs:=vs) (by assumption) (by assumption);first | (rw [e8.1];done) | (rw [e8.2.2];rfl) | (rw [e8.2.1,List.take_of_length_le (by omega),List.drop_of_length_le (by omega),List.append_nil];done)))
 ·
  have g1':=(d4 g1)
  refine A9 (nc g1) (fun _=>?_)
  refine A9 (nc g1) (fun _=>?_)
  refine d9 (M9 rfl rfl g1 rfl) ?_
  refine c9 ?_
  refine j9 rfl (fun _=>?_) (nc rfl)
  refine t9 ?_
  refine d9 (oD [(0,1),(1,1)] [.slice none 0 0,.slice none 0 0]) ?_
  refine rS 2 ?_
  refine rA<|c9 ?_
  refine A6 3 (b:=2) (o:=0) (et:=95) (sz:=3) true (j8 Y9 f9 U9) rfl rfl rfl ?_
  refine A6 4 (b:=2) (o:=1) (et:=64) (sz:=2) true (y9 f9 (x9 1 f9)) rfl rfl rfl ?_
  refine tk Tryz.func140 (X9 2 (.tmp rfl .nil)) ?_ (hL:=⟨Q8 ?_,⟨Q8 ?_,trivial⟩⟩) <;>(try clear ih0)
  all_goals((have e8:=SN (rs:=rs) (fs:=fs) (ns:=ns) (vs:=vs) (by assumption);first | (rw [e8.1];done) | (rw [e8.2.1];done) | (rw [e8.2.2];rfl)))
theorem gS (rs:T9)(fs:w9)(a b:Int)(hrs:rs.length≤1048576)(hfs:N8 (fun(x:Int ×(List Int))=>x.2.length) fs≤1048576)(ho:∀z∈fs,∀x∈z.2,B7 x)(oa:B7 a)(ob:B7 b):Pu Tryz.prog 74 [.agg [.t none (.sl 3 (j8 Y9 f9 U9) rs),.t none (.sl 2 (y9 f9 (x9 1 f9)) fs)],.c (.t none (.v (.int .i64 a))),.c (.t none (.v (.int .i64 b)))] [(2,some (.row none 95 true 3 (j8 Y9 f9 U9) (RR rs fs a b))),(3,some (.row none 64 true 2 (y9 f9 (x9 1 f9)) (DR rs fs a b)))] 4 (.tup [(true,[.own 2,.own 3]),(false,[.t none (.v (.int .i64 (HP a b)))])]):=by
 refine S7 Tryz.func74 fun w S=>?_
 have oa1:=oa.1;have oa2:=oa.2;have ob1:=ob.1;have ob2:=ob.2
 refine t9 ?_
 refine d9 (m8 0 rfl rfl rfl rfl) ?_
 refine d9 (F9 1 (zs:=[.slice none 0 0,.slice none 0 0]) rfl rfl (by kernel_rfl) rfl) ?_
 refine rA<|c9<|k9<|t9 ?_
 refine rM ?_
 refine d9 (n9 2 2 false (H9 Tryz.func100) (MZ a) rfl (.cons rfl (.c .t0) .nil) rfl rfl rfl) ?_
 refine d9 (E8 rfl rfl) ?_
 refine rM ?_
 refine A9 (fun g1=>?_) (fun g1=>?_)
 ·
  have g1':=d8 (d4 g1)
  refine rM ?_
  refine A9 (fun _=>?_) (nc g1)
  refine d9 (n9 2 2 false (H9 Tryz.func100) (MZ b) rfl (.cons rfl (.c .t0) .nil) rfl rfl rfl) ?_
  refine A9 (fun _=>?_) (nc g1)
  refine d9 (E8 rfl rfl) ?_
  refine d9 (M9 rfl rfl g1 rfl) ?_
  refine c9 ?_
  refine j9 rfl (fun h2=>?_) (fun h2=>?_)
  ·
   have h2':=d8 (d4 h2)
   refine t9<|rC 2 ?_
   refine d9 (n9 2 6 false (H9 Tryz.func31) (E7 rs fs (by omega) (by omega)) rfl (.cons rfl (.agg (.cons .t0 (.cons .t0 .nil))) .nil) rfl rfl rfl) ?_
   refine rS 2 ?_
   refine rA<|c9 ?_
   refine n7 2 4 rfl rfl rfl ?_
   refine n7 3 5 rfl rfl rfl ?_
   refine tk Tryz.func74 (X9 2 (.tmp rfl .nil)) ?_ (hL:=⟨Q8 ?_,⟨Q8 ?_,trivial⟩⟩)
   all_goals((have e8:=PL (rs:=rs) (fs:=fs) (a:=a) (b:=b) (by omega) (by omega);first | (rw [e8.1];done) | (rw [e8.2.1];done) | (rw [e8.2.2];rfl)))
  ·
   have h2':=a8 (Y5 h2)
   refine m9<|t9<|rM ?_
   refine rM ?_
   refine d9 (tN rfl rfl rfl) ?_
   refine d9 (n9 2 2 false (H9 Tryz.func139) (C4 (if b < a then b else a) (by omega) (by omega)) rfl (.cons rfl (.c .t0) .nil) rfl rfl rfl) ?_
   refine rM ?_
   refine d9 (D9 rfl rfl rfl rfl) ?_
   refine d9 (D9 rfl rfl rfl rfl) ?_
   refine rA ?_
   refine rA<|P8 ?_
   refine rM ?_
   refine d9 (M5 2 (e:=3) (sz:=1) (zs:=[.int .i64 0]) (enc:=f9) (if -40≤(if b < a then b else a)∧(if b < a then b else a)≤ -1 then -1 - (if b < a then b else a) else 0) rfl rfl (by kernel_rfl) rfl rfl rfl rfl rfl rfl (.cons .sc .nil)) ?_
   refine rM ?_
   refine rM ?_
   refine d9 (LN rfl rfl rfl) ?_
   refine d9 (M5 3 (e:=3) (sz:=1) (zs:=[.int .i64 0]) (enc:=f9) (if a < b then b else a) rfl rfl (by kernel_rfl) rfl rfl rfl rfl rfl rfl (.cons .sc .nil)) ?_
   refine d9 (oD [(0,1),(1,1)] [.slice none 0 0,.slice none 0 0]) ?_
   refine rC 2 ?_
   refine d9 (n9 4 9 false (H9 Tryz.func140) (J3 ([if -40≤(if b < a then b else a)∧(if b < a then b else a)≤ -1 then -1 - (if b < a then b else a) else 0]) ([if a < b then b else a]) rs fs (by(simp only [List.length_cons,List.length_nil];omega)) (by(simp only [List.length_cons,List.length_nil];omega)) (by(intro x hx;simp only [List.mem_cons,List.not_mem_nil,or_false] at hx;subst hx;unfold B7;omega)) (by(intro x hx;simp only [List.mem_cons,List.not_mem_nil,or_false] at hx;subst hx;unfold B7;omega)) (by omega) (by omega) (by omega)) rfl (.cons rfl (.agg (.cons (.own rfl) (.cons (.own rfl) .nil))) (.cons rfl (.agg (.cons .t0 (.cons .t0 .nil))) .nil)) rfl rfl rfl) ?_
   refine rM ?_
   refine d9 (D9 rfl rfl rfl rfl) ?_
   refine d9 (D9 rfl rfl rfl rfl) ?_
   refine d9 (F9 9 (zs:=[.slice none 0 0,.slice none 0 0]) rfl rfl (by kernel_rfl) rfl) ?_
   refine rS 2 ?_
   refine rA<|P8 ?_
   refine rC 2 ?_
   refine rS 2 ?_
   refine rA<|c9 ?_
   refine n7 2 7 rfl rfl rfl ?_
   refine n7 3 8 rfl rfl rfl ?_
   refine tk Tryz.func74 (X9 2 (.tmp rfl .nil)) ?_ (hL:=⟨Q8 ?_,⟨Q8 ?_,trivial⟩⟩)
   all_goals((have e8:=SU (rs:=rs) (fs:=fs) (a:=a) (b:=b) (by omega);first | (rw [e8.1];rfl) | (rw [e8.2.1];rfl) | (rw [e8.2.2];rfl)))
 ·
  have g1':=a8 (Y5 g1)
  refine A9 (C9 g1) (fun _=>?_)
  refine A9 (C9 g1) (fun _=>?_)
  refine d9 (G9 rfl rfl g1 rfl) ?_
  refine c9 ?_
  refine j9 rfl (C9 rfl) (fun _=>?_)
  refine m9<|t9<|rM ?_
  refine rM ?_
  refine d9 (tN rfl rfl rfl) ?_
  refine d9 (n9 2 2 false (H9 Tryz.func139) (C4 (if b < a then b else a) (by omega) (by omega)) rfl (.cons rfl (.c .t0) .nil) rfl rfl rfl) ?_
  refine rM ?_
  refine d9 (D9 rfl rfl rfl rfl) ?_
  refine d9 (D9 rfl rfl rfl rfl) ?_
  refine rA ?_
  refine rA<|P8 ?_
  refine rM ?_
  refine d9 (M5 2 (e:=3) (sz:=1) (zs:=[.int .i64 0]) (enc:=f9) (if -40≤(if b < a then b else a)∧(if b < a then b else a)≤ -1 then -1 - (if b < a then b else a) else 0) rfl rfl (by kernel_rfl) rfl rfl rfl rfl rfl rfl (.cons .sc .nil)) ?_
  refine rM ?_
  refine rM ?_
  refine d9 (LN rfl rfl rfl) ?_
  refine d9 (M5 3 (e:=3) (sz:=1) (zs:=[.int .i64 0]) (enc:=f9) (if a < b then b else a) rfl rfl (by kernel_rfl) rfl rfl rfl rfl rfl rfl (.cons .sc .nil)) ?_
  refine d9 (oD [(0,1),(1,1)] [.slice none 0 0,.slice none 0 0]) ?_
  refine rC 2 ?_
  refine d9 (n9 4 9 false (H9 Tryz.func140) (J3 ([if -40≤(if b < a then b else a)∧(if b < a then b else a)≤ -1 then -1 - (if b < a then b else a) else 0]) ([if a < b then b else a]) rs fs (by(simp only [List.length_cons,List.length_nil];omega)) (by(simp only [List.length_cons,List.length_nil];omega)) (by(intro x hx;simp only [List.mem_cons,List.not_mem_nil,or_false] at hx;subst hx;unfold B7;omega)) (by(intro x hx;simp only [List.mem_cons,List.not_mem_nil,or_false] at hx;subst hx;unfold B7;omega)) (by omega) (by omega) (by omega)) rfl (.cons rfl (.agg (.cons (.own rfl) (.cons (.own rfl) .nil))) (.cons rfl (.agg (.cons .t0 (.cons .t0 .nil))) .nil)) rfl rfl rfl) ?_
  refine rM ?_
  refine d9 (D9 rfl rfl rfl rfl) ?_
  refine d9 (D9 rfl rfl rfl rfl) ?_
  refine d9 (F9 9 (zs:=[.slice none 0 0,.slice none 0 0]) rfl rfl (by kernel_rfl) rfl) ?_
  refine rS 2 ?_
  refine rA<|P8 ?_
  refine rC 2 ?_
  refine rS 2 ?_
  refine rA<|c9 ?_
  refine n7 2 7 rfl rfl rfl ?_
  refine n7 3 8 rfl rfl rfl ?_
  refine tk Tryz.func74 (X9 2 (.tmp rfl .nil)) ?_ (hL:=⟨Q8 ?_,⟨Q8 ?_,trivial⟩⟩)
  all_goals((have e8:=SU (rs:=rs) (fs:=fs) (a:=a) (b:=b) (by omega);first | (rw [e8.1];rfl) | (rw [e8.2.1];rfl) | (rw [e8.2.2];rfl)))
theorem oY (rs:T9)(l:w9)(hl:N8 (fun(x:Int ×(List Int))=>x.2.length) l≤1048576)(ho:∀z∈l,∀x∈z.2,B7 x):Pu Tryz.prog 49 [.agg [.t none (.sl 3 (j8 Y9 f9 U9) rs),.t none (.sl 2 (y9 f9 (x9 1 f9)) l)]] [(2,some (.row none 3 true 1 f9 (O9 (l7 (U8 l)))))] 3 (.c (.own 2)):=by
 refine S7 Tryz.func49 fun w S=>?_
 have gl:=I8 (f:=(fun(x:Int ×(List Int))=>x.2.length)) (l:=l);have gv:=GY l
 refine t9 ?_
 refine d9 (m8 0 rfl rfl rfl rfl) ?_
 refine rA<|P8 ?_
 refine d9 (c7 1 (e:=3) (sz:=1) (zs:=[.int .i64 0]) f9 rfl rfl (by kernel_rfl) rfl) ?_
 refine rA<|c9<|k9<|t9 ?_
 refine rF 1 ?_
 refine rL ?_
 refine d9 (P9 rfl rfl rfl) ?_
 refine rM<|c9<|p9 ?_
 refine J9 (fun m=>⟨[(2,some (.c (.t none (.v (.slice none 0 0))))),(3,some (.c (.own 1))),(8,some (.c (.t none (.sl 2 (y9 f9 (x9 1 f9)) l)))),(9,some (.c (.t none (.v (.int .i64 ((l.length:Int))))))),(10,some (.c (.t none (.v (.int .i64 ((m:Int)))))))],[(0,some (.box [.t none (.sl 3 (j8 Y9 f9 U9) rs),.t none (.sl 2 (y9 f9 (x9 1 f9)) l)])),(1,some (.row none 3 true 1 f9 (U8 (l.take m))))],2⟩:Nat→St) (fun m=>m≤l.length) (fun m=>l.length - m) 0 ⟨⟨rfl,⟨rfl,⟨rfl,⟨rfl,⟨rfl,trivial⟩⟩⟩⟩⟩,⟨rfl,⟨rfl,trivial⟩⟩,rfl⟩ (by exact Nat.zero_le _) ?_
 rintro m hI ih0
 try dsimp only at hI ih0
 have i1:=hI
 refine t9<|rB<|c9<|k9 ?_
 refine j9 rfl (fun h1=>?_) (fun h1=>?_)
 ·
  have h1':=a8 h1
  refine m9<|k9<|p9<|t9 ?_
  obtain⟨z2,hz3,b4⟩:=v9 (xs:=l) (n:=(m:Int)) (by omega) (by omega)
  refine d9 (Q9 rfl (by kernel_rfl) rfl rfl b4 hz3) ?_
  refine d9 (m6 rfl (n:=2) (by kernel_rfl) (by kernel_rfl) rfl rfl) ?_
  refine d9 (F9 2 (zs:=[.int .i64 0,.slice none 0 0]) rfl rfl (by kernel_rfl) rfl) ?_
  refine rS 2<|EO ?_
  refine rM ?_
  refine rF 1 ?_
  refine rL ?_
  refine d9 (o7 1 (e:=3) (sz:=1) (by':=8) rfl (by kernel_rfl) rfl rfl rfl rfl (fun _ _=>⟨_,rfl⟩) (by(have e1:=DW (l:=l) (m:=m) (by assumption);omega)) (by(have e1:=DW (l:=l) (m:=m) (by assumption);omega))) ?_
  refine rA<|c9<|i9<|l9 ?_
  refine rB ?_
  refine rM<|c9 ?_
  refine Z9 ?_ (ih0 (m + 1) (by(try dsimp only);omega) (by(try dsimp only);omega))
  exact⟨⟨rfl,⟨rfl,⟨rfl,⟨rfl,⟨(L7 (n8 (by omega) (by omega))),trivial⟩⟩⟩⟩⟩,⟨rfl,⟨(Q8 (by rw [FW (m:=m) hz3])),trivial⟩⟩,rfl⟩
 ·
  have h1':=d8 h1
  refine N9 rfl<|t9<|rM ?_
  refine d9 (n9 2 3 false (H9 Tryz.func105) (yX (U8 (l.take m)) (by(rw [VX (by omega)];omega)) (by(rw [VX (by omega)];(exact fK ho)))) rfl (.cons rfl (.c (.own rfl)) .nil) rfl rfl rfl) ?_
  refine rA<|c9 ?_
  refine tk Tryz.func49 (.tmp rfl .nil) ?_ (hL:=⟨Q8 ?_,trivial⟩) <;>(try clear ih0)
  all_goals first | rfl | ((rw [VX (by omega)]))
theorem X1 (rs:T9)(l:w9)(hl:N8 (fun(x:Int ×(List Int))=>x.2.length) l≤1048576)(ho:∀z∈l,∀x∈z.2,B7 x):Pu Tryz.prog 19 [.agg [.t none (.sl 3 (j8 Y9 f9 U9) rs),.t none (.sl 2 (y9 f9 (x9 1 f9)) l)]] [] 0 (.c (.t none (.v (.int .i64 (i5 (O9 (l7 (U8 l)))))))):=by
 refine S7 Tryz.func19 fun w S=>?_
 have gl:=I8 (f:=(fun(x:Int ×(List Int))=>x.2.length)) (l:=l);have gv:=GY l;have q1:=Q7 (l7 (U8 l));have q2:=kX (U8 l)
 refine t9 ?_
 refine d9 (m8 0 rfl rfl rfl rfl) ?_
 refine rA<|P8 ?_
 refine rC 2 ?_
 refine d9 (n9 1 4 false (H9 Tryz.func49) (oY rs l (by omega) (by omega)) rfl (.cons rfl (.agg (.cons .t0 (.cons .t0 .nil))) .nil) rfl rfl rfl) ?_
 refine rA<|c9<|k9<|t9 ?_
 refine rM ?_
 refine d9 (A7 rfl rfl rfl rfl) ?_
 refine rB<|c9 ?_
 refine j9 rfl (fun h1=>?_) (fun h1=>?_)
 ·
  have h1':=a8 h1
  refine t9<|rA<|c9 ?_
  refine tk Tryz.func19 (.tmp rfl .nil) ?_
  all_goals(refine XX ?_;(rw [YT (by omega)];done))
 ·
  have h1':=d8 h1
  refine m9<|t9<|rM ?_
  refine rM ?_
  refine d9 (A7 rfl rfl rfl rfl) ?_
  refine rB ?_
  obtain⟨z2,hz3,b4⟩:=v9 (xs:=O9 (l7 (U8 l))) (n:=IntKind.i64.wrap (((O9 (l7 (U8 l))).length:Int) - 1)) (by(simp only [IntKind.wrap_i64];omega)) (by(simp only [IntKind.wrap_i64];omega))
  refine d9 (o8 rfl (by kernel_rfl) rfl rfl rfl b4 (f8 b4 hz3)) ?_
  refine d9 (t8 rfl (by kernel_rfl) rfl rfl rfl hz3) ?_
  refine rB ?_
  refine rA<|c9 ?_
  refine tk Tryz.func19 (.tmp rfl .nil) ?_
  all_goals(refine XX ?_;(rw [cP (by assumption) (by simp only [IntKind.wrap_i64];omega)];done))
theorem CX (a0:List (Int ×(List Int)))(a1:List (Int ×(List Int)))(a2:Bool)(a3:Int)(a4:Int)(q:Bool)(hs:N8 (fun(x:Int ×(List Int))=>x.2.length) a0 + N8 (fun(x:Int ×(List Int))=>x.2.length) a1≤1048576):Pu Tryz.prog 141 [.agg [.t none (.sl 2 (y9 f9 (x9 1 f9)) a0),.t none (.sl 2 (y9 f9 (x9 1 f9)) a1),.t none (.v (.bool a2)),.t none (.v (.int .i64 a3)),.t none (.v (.int .i64 a4))],.c (.t none (.v (.bool q)))] [(2,some (.row none 3 true 1 f9 (W4 q (O9 (I9 a0)) (O9 (I9 a1)))))] 4 (.c (.own 2)):=by
 refine S7 Tryz.func141 fun w S=>?_
 have g0:=I8 (f:=(fun(x:Int ×(List Int))=>x.2.length)) (l:=a0);have g1:=I8 (f:=(fun(x:Int ×(List Int))=>x.2.length)) (l:=a1);have v0:=Q7 (I9 a0);have v1:=F7 a0;have v2:=Q7 (I9 a1);have v3:=F7 a1
 refine t9 ?_
 refine d9 (m8 0 rfl rfl rfl rfl) ?_
 refine rA<|P8 ?_
 refine rF 0 ?_
 refine rL ?_
 refine d9 (n9 1 2 false (H9 Tryz.func123) (M4 a0 (by omega)) rfl (.cons rfl (.c .t0) .nil) rfl rfl rfl) ?_
 refine d9 (c7 2 (e:=3) (sz:=1) (zs:=[.int .i64 0]) f9 rfl rfl (by kernel_rfl) rfl) ?_
 refine rA ?_
 refine rA<|c9<|k9<|t9 ?_
 refine rF 1 ?_
 refine rL ?_
 refine d9 (n9 3 4 false (H9 Tryz.func123) (M4 a1 (by omega)) rfl (.cons rfl (.c .t0) .nil) rfl rfl rfl) ?_
 refine d9 (A7 rfl rfl rfl rfl) ?_
 refine rM<|c9<|p9 ?_
 refine J9 (fun m=>⟨[(1,some (.c (.t none (.v (.bool q))))),(4,some (.c (.t none (.v (.slice none 0 0))))),(5,some (.c (.own 1))),(6,some (.c (.own 2))),(15,some (.c (.own 3))),(16,some (.c (.t none (.v (.int .i64 (((O9 (I9 a1)).length:Int))))))),(17,some (.c (.t none (.v (.int .i64 ((m:Int)))))))],[(0,some (.box [.t none (.sl 2 (y9 f9 (x9 1 f9)) a0),.t none (.sl 2 (y9 f9 (x9 1 f9)) a1),.t none (.v (.bool a2)),.t none (.v (.int .i64 a3)),.t none (.v (.int .i64 a4))])),(1,some (.row none 3 true 1 f9 (O9 (I9 a0)))),(2,some (.row none 3 true 1 f9 (((O9 (I9 a1)).take m).filter (fun x=>zV (O9 (I9 a0)) x == q)))),(3,some (.row none 3 true 1 f9 (O9 (I9 a1))))],4⟩:Nat→St) (fun m=>m≤(O9 (I9 a1)).length) (fun m=>(O9 (I9 a1)).length - m) 0 ⟨⟨rfl,⟨rfl,⟨rfl,⟨rfl,⟨rfl,⟨rfl,⟨rfl,trivial⟩⟩⟩⟩⟩⟩⟩,⟨rfl,⟨rfl,⟨rfl,⟨rfl,trivial⟩⟩⟩⟩,rfl⟩ (by exact Nat.zero_le _) ?_
 rintro m hI ih0
 try dsimp only at hI ih0
 have i1:=hI;have fl:=GQ (p:=(fun x=>zV (O9 (I9 a0)) x == q)) (l:=O9 (I9 a1)) (m:=m)
 refine t9<|rB<|c9<|k9 ?_
 refine j9 rfl (fun h1=>?_) (fun h1=>?_)
 ·
  have h1':=a8 h1
  refine m9<|k9<|p9<|t9 ?_
  obtain⟨z2,hz3,b4⟩:=v9 (xs:=O9 (I9 a1)) (n:=(m:Int)) (by omega) (by omega)
  refine d9 (o8 rfl (by kernel_rfl) rfl rfl rfl b4 (f8 b4 hz3)) ?_
  refine d9 (t8 rfl (by kernel_rfl) rfl rfl rfl hz3) ?_
  refine rA<|P8 ?_
  refine rM ?_
  refine rM ?_
  refine d9 (n9 4 4 false (H9 Tryz.func124) (O7 (O9 (I9 a0)) z2 (by omega)) rfl (.cons rfl (.c (.own rfl)) (.cons rfl (.c .t0) .nil)) rfl rfl rfl) ?_
  refine rM ?_
  refine d9 (vH rfl Tryz.underlying4 rfl rfl) ?_
  refine c9 ?_
  refine j9 rfl (fun h5=>?_) (fun h5=>?_)
  ·
   have h5':=h5
   refine l9<|rM ?_
   refine rM ?_
   refine d9 (w8 4 (e:=3) (sz:=1) (zs:=[.int .i64 0]) rfl rfl (by kernel_rfl) rfl rfl rfl rfl rfl) ?_
   refine d9 (W9 2 (e:=3) (sz:=1) (by':=8) z2 rfl (by kernel_rfl) rfl rfl rfl rfl rfl rfl (.cons .sc .nil) rfl (by omega) (by omega)) ?_
   refine rA<|c9<|i9<|l9 ?_
   refine rB ?_
   refine rM<|c9 ?_
   refine Z9 ?_ (ih0 (m + 1) (by(try dsimp only);omega) (by(try dsimp only);omega))
   exact⟨⟨rfl,⟨rfl,⟨rfl,⟨rfl,⟨rfl,⟨rfl,⟨(L7 (n8 (by omega) (by omega))),trivial⟩⟩⟩⟩⟩⟩⟩,⟨rfl,⟨rfl,⟨(Q8 (by(rw [XV (by assumption) (by simp_all)];done))),⟨rfl,trivial⟩⟩⟩⟩,rfl⟩
  ·
   have h5':=h5
   refine m9<|i9<|l9<|rB ?_
   refine rM<|c9 ?_
   refine Z9 ?_ (ih0 (m + 1) (by(try dsimp only);omega) (by(try dsimp only);omega))
   exact⟨⟨rfl,⟨rfl,⟨rfl,⟨rfl,⟨rfl,⟨rfl,⟨(L7 (n8 (by omega) (by omega))),trivial⟩⟩⟩⟩⟩⟩⟩,⟨rfl,⟨rfl,⟨(Q8 (by(rw [eU (by assumption) (by simp_all)];done))),⟨rfl,trivial⟩⟩⟩⟩,rfl⟩
 ·
  have h1':=d8 h1
  refine N9 rfl<|t9<|rM ?_
  refine rA<|c9 ?_
  refine tk Tryz.func141 (.tmp rfl .nil) ?_ (hL:=⟨Q8 ?_,trivial⟩) <;>(try clear ih0)
  all_goals first | rfl | ((rw [NQ (by omega)];rfl))
theorem F0 (a0:List (Int ×(List Int)))(a1:List (Int ×(List Int)))(a2:Bool)(a3:Int)(a4:Int)(hs:N8 (fun(x:Int ×(List Int))=>x.2.length) a0 + N8 (fun(x:Int ×(List Int))=>x.2.length) a1≤1048576):Pu Tryz.prog 76 [.agg [.t none (.sl 2 (y9 f9 (x9 1 f9)) a0),.t none (.sl 2 (y9 f9 (x9 1 f9)) a1),.t none (.v (.bool a2)),.t none (.v (.int .i64 a3)),.t none (.v (.int .i64 a4))]] [(3,some (.row none 3 true 1 f9 (W4 false (O9 (I9 a0)) (O9 (I9 a1)))))] 5 (.c (.own 3)):=by
 refine S7 Tryz.func76 fun w S=>?_
 have g0:=I8 (f:=(fun(x:Int ×(List Int))=>x.2.length)) (l:=a0);have g1:=I8 (f:=(fun(x:Int ×(List Int))=>x.2.length)) (l:=a1);have v0:=Q7 (I9 a0);have v1:=F7 a0;have v2:=Q7 (I9 a1);have v3:=F7 a1
 refine t9 ?_
 refine d9 (m8 0 rfl rfl rfl rfl) ?_
 refine rA<|P8 ?_
 refine rC 5 ?_
 refine d9 (n9 1 5 false (H9 Tryz.func141) (CX a0 a1 a2 a3 a4 false (by omega)) rfl (.cons rfl (.agg (.cons .t0 (.cons .t0 (.cons .t0 (.cons .t0 (.cons .t0 .nil)))))) (.cons rfl (.c .t0) .nil)) rfl rfl rfl) ?_
 refine rA<|c9 ?_
 refine tk Tryz.func76 (.tmp rfl .nil) ?_ (hL:=⟨Q8 ?_,trivial⟩)
 all_goals rfl
theorem aU (k:Int)(hk: -4611686018427387904≤k∧k≤4611686018427387904):Pu Tryz.prog 77 [.c (.t none (.v (.int .i64 k)))] [] 0 (.c (.t none (.v (.int .i64 (-1 - k))))):=by
 refine S7 Tryz.func77 fun w S=>?_
 refine t9<|rA<|P8 ?_
 refine rM ?_
 refine rB ?_
 refine rA<|c9 ?_
 refine tk Tryz.func77 (.tmp rfl .nil) ?_
 all_goals(refine XX ?_;exact n8 (by omega) (by omega))
theorem m0 (rs:T9)(fs:w9)(a0:List (Int ×(List Int)))(a1:List (Int ×(List Int)))(a2:Bool)(a3:Int)(a4:Int)(b:List Int)(hrs:rs.length≤1048576)(hsz:N8 (fun(x:Int ×(List Int))=>x.2.length) fs +(N8 (fun(x:Int ×(List Int))=>x.2.length) a0 + N8 (fun(x:Int ×(List Int))=>x.2.length) a1)≤1048576)(ho:∀z∈fs,∀x∈z.2,B7 x)(hoa:∀z∈a0,∀x∈z.2,B7 x)(hoh:∀z∈a1,∀x∈z.2,B7 x)(hbl:b.length≤1048576)(hob:∀x∈b,B7 x):Pu Tryz.prog 32 [.agg [.t none (.sl 3 (j8 Y9 f9 U9) rs),.t none (.sl 2 (y9 f9 (x9 1 f9)) fs)],.agg [.t none (.sl 2 (y9 f9 (x9 1 f9)) a0),.t none (.sl 2 (y9 f9 (x9 1 f9)) a1),.t none (.v (.bool a2)),.t none (.v (.int .i64 a3)),.t none (.v (.int .i64 a4))],.c (.t none (.sl 1 f9 b))] [(4,some (.row none 95 true 3 (j8 Y9 f9 U9) (TW rs fs a0 a1 a2 a3 a4 b))),(5,some (.row none 64 true 2 (y9 f9 (x9 1 f9)) (tV rs fs a0 a1 a2 a3 a4 b)))] 6 (.tup [(true,[.own 4,.own 5]),(false,[.t none (.v (.int .i64 (YW rs fs a0 a1 a2 a3 a4 b)))])]):=by
 refine S7 Tryz.func32 fun w S=>?_
 have g0:=I8 (f:=(fun(x:Int ×(List Int))=>x.2.length)) (l:=a0);have g1:=I8 (f:=(fun(x:Int ×(List Int))=>x.2.length)) (l:=a1);have g2:=I8 (f:=(fun(x:Int ×(List Int))=>x.2.length)) (l:=fs);have v1:=QP false (O9 (I9 a0)) (O9 (I9 a1));have v2:=Q7 (I9 a1);have v3:=F7 a1;have nb:0≤i5 (O9 (l7 (U8 fs)))∧i5 (O9 (l7 (U8 fs)))≤40:=ZK fs;have X5:f6 rs fs a0 a1 a2 a3 a4 b=true→a2=false→(W4 false (O9 (I9 a0)) (O9 (I9 a1))).length≤5:=GN;have XR:f6 rs fs a0 a1 a2 a3 a4 b=true→a2=false→∀(k:Nat) x,(W4 false (O9 (I9 a0)) (O9 (I9 a1)))[k]? =some x→0≤x∧x < 5:=(fun h h2 k x hx=>JR h h2 (D8 hx));have XL:f6 rs fs a0 a1 a2 a3 a4 b=true→b.length=5:=(fun h=>(rX (O4 h)).2.2);have oW:∀x∈nY fs a0 a1 b,B7 x:=dS _ _ _ hob nb.1 (by(have e7:(sQ a0 a1).length=(W4 false (O9 (I9 a0)) (O9 (I9 a1))).length:=rfl);have e8:iO fs≤40:=nb.2;omega)
 refine t9 ?_
 refine d9 (m8 0 rfl rfl rfl rfl) ?_
 refine d9 (m8 1 rfl rfl rfl rfl) ?_
 refine d9 (F9 2 (zs:=[.slice none 0 0,.slice none 0 0]) rfl rfl (by kernel_rfl) rfl) ?_
 refine rA<|P8 ?_
 refine rC 5 ?_
 refine d9 (F9 3 (zs:=[.slice none 0 0,.slice none 0 0,.bool false,.int .i64 0,.int .i64 0]) rfl rfl (by kernel_rfl) rfl) ?_
 refine rS 5<|c9<|k9<|t9 ?_
 refine rC 2 ?_
 refine rC 5 ?_
 refine rM ?_
 refine d9 (n9 4 4 false (H9 Tryz.func73) (L3 rs fs a0 a1 a2 a3 a4 b (by omega) (by omega) (by omega) (by omega) (by omega) (by omega) (by omega)) rfl (.cons rfl (.agg (.cons .t0 (.cons .t0 .nil))) (.cons rfl (.agg (.cons .t0 (.cons .t0 (.cons .t0 (.cons .t0 (.cons .t0 .nil)))))) (.cons rfl (.c .t0) .nil))) rfl rfl rfl) ?_
 refine d9 (E8 rfl rfl) ?_
 refine c9 ?_
 refine j9 rfl (fun h1=>?_) (fun h1=>?_)
 ·
  have h1':=(d4 h1)
  refine t9<|rC 2 ?_
  refine d9 (n9 4 8 false (H9 Tryz.func31) (E7 rs fs (by omega) (by omega)) rfl (.cons rfl (.agg (.cons .t0 (.cons .t0 .nil))) .nil) rfl rfl rfl) ?_
  refine rS 2 ?_
  refine rA<|c9 ?_
  refine n7 4 6 rfl rfl rfl ?_
  refine n7 5 7 rfl rfl rfl ?_
  refine tk Tryz.func32 (X9 2 (.tmp rfl .nil)) ?_ (hL:=⟨Q8 ?_,⟨Q8 ?_,trivial⟩⟩) <;>(try clear ih0) <;>(try clear ih1)
  all_goals((have e8:=NN (rs:=rs) (fs:=fs) (a0:=a0) (a1:=a1) (a2:=a2) (a3:=a3) (a4:=a4) (v:=b) (by assumption);first | (rw [e8.1];done) | (rw [e8.2.1];done) | (rw [e8.2.2];rfl)))
 ·
  have h1':=(Y5 h1)
  refine m9<|k9<|t9<|rF 2 ?_
  refine rL<|c9 ?_
  refine j9 rfl (fun h2=>?_) (fun h2=>?_)
  ·
   have h2':=h2
   refine k9 ?_
   refine tD (fun i=>!(Nat.beq i 14)) ?_
   refine dT 0 rfl (pC 2) ?_
   refine dT 1 rfl pM ?_
   refine dT 2 rfl (pF 3) ?_
   refine dT 3 rfl pL ?_
   obtain⟨z3,hz4,b5⟩:=v9 (xs:=b) (n:=a3) (by exact(F5 (O4 (by assumption)) (by assumption)).1.1) (by exact(F5 (O4 (by assumption)) (by assumption)).1.2)
   refine dT 4 rfl (p8 (by kernel_rfl) rfl rfl b5 hz4) ?_
   refine dT 5 rfl (Y8 (by kernel_rfl) rfl rfl) ?_
   refine dT 6 rfl pM ?_
   refine dT 7 rfl (pF 4) ?_
   refine dT 8 rfl pL ?_
   obtain⟨z6,hz7,b8⟩:=v9 (xs:=b) (n:=a4) (by exact(F5 (O4 (by assumption)) (by assumption)).2.1) (by exact(F5 (O4 (by assumption)) (by assumption)).2.2)
   refine dT 9 rfl (p8 (by kernel_rfl) rfl rfl b8 hz7) ?_
   refine dT 10 rfl (Y8 (by kernel_rfl) rfl rfl) ?_
   refine dO 11 rfl (n9 4 8 false (H9 Tryz.func74) (gS rs fs z3 z6 (by omega) (by omega) (by omega) (by exact hob _ (D8 (by assumption))) (by exact hob _ (D8 (by assumption)))) rfl (.cons rfl (.agg (.cons .t0 (.cons .t0 .nil))) (.cons rfl (.c .t0) (.cons rfl (.c .t0) .nil))) rfl rfl rfl) ?_
   refine dT 12 rfl (j6 rfl rfl rfl) ?_
   refine dT 13 rfl (j6 rfl rfl rfl) ?_
   refine dO 14 rfl (oS 2) ?_
   refine dT 15 rfl pA ?_
   refine dE ?_
   refine n7 4 6 rfl rfl rfl ?_
   refine n7 5 7 rfl rfl rfl ?_
   refine tk Tryz.func32 (X9 2 (.tmp rfl .nil)) ?_ (hL:=⟨Q8 ?_,⟨Q8 ?_,trivial⟩⟩) <;>(try clear ih0) <;>(try clear ih1)
   all_goals((have e8:=YR (rs:=rs) (fs:=fs) (a0:=a0) (a1:=a1) (a2:=a2) (a3:=a3) (a4:=a4) (v:=b) (by assumption) (by assumption) hz4 hz7;first | (rw [e8.1];done) | (rw [e8.2.1];done) | (rw [e8.2.2];rfl)))
  ·
   have h2':=h2
   refine m9<|k9 ?_
   refine tY ?_
   refine dT 0 rfl pM ?_
   refine dT 2 rfl (pC 2) ?_
   refine dO 1 rfl (n9 4 5 false (H9 Tryz.func75) (d6 b (by omega)) rfl (.cons rfl (.c .t0) .nil) rfl rfl rfl) ?_
   refine dO 3 rfl (n9 5 5 false (H9 Tryz.func19) (X1 rs fs (by omega) (by omega)) rfl (.cons rfl (.agg (.cons .t0 (.cons .t0 .nil))) .nil) rfl rfl rfl) ?_
   refine dT 4 rfl pA ?_
   refine dT 5 rfl pA ?_
   refine dE ?_
   refine k9<|t9<|rC 5 ?_
   refine d9 (n9 5 10 false (H9 Tryz.func76) (F0 a0 a1 a2 a3 a4 (by omega)) rfl (.cons rfl (.agg (.cons .t0 (.cons .t0 (.cons .t0 (.cons .t0 (.cons .t0 .nil)))))) .nil) rfl rfl rfl) ?_
   refine d9 (A7 rfl rfl rfl rfl) ?_
   refine rM<|c9<|p9 ?_
   refine J9 (fun m=>⟨[(3,some (.c (.ptr 0 0))),(6,some (.c (.ptr 2 0))),(7,some (.c (.t none (.v (.int .i64 0))))),(8,some (.c (.ptr 3 0))),(9,some (.c (.own 4))),(10,some (.c (.t none (.v (.int .i64 (i5 (O9 (l7 (U8 fs))) +(m:Int))))))),(47,some (.c (.own 8))),(48,some (.c (.t none (.v (.int .i64 (((W4 false (O9 (I9 a0)) (O9 (I9 a1))).length:Int))))))),(49,some (.c (.t none (.v (.int .i64 ((m:Int)))))))],[(0,some (.box [.t none (.sl 3 (j8 Y9 f9 U9) rs),.t none (.sl 2 (y9 f9 (x9 1 f9)) fs)])),(1,some (.box [.t none (.sl 2 (y9 f9 (x9 1 f9)) a0),.t none (.sl 2 (y9 f9 (x9 1 f9)) a1),.t none (.v (.bool a2)),.t none (.v (.int .i64 a3)),.t none (.v (.int .i64 a4))])),(2,some (.box [.t none (.v (.slice none 0 0)),.t none (.v (.slice none 0 0))])),(3,some (.box [.t none (.sl 2 (y9 f9 (x9 1 f9)) a0),.t none (.sl 2 (y9 f9 (x9 1 f9)) a1),.t none (.v (.bool a2)),.t none (.v (.int .i64 a3)),.t none (.v (.int .i64 a4))])),(4,some (.row none 3 true 1 f9 (C1 b ((W4 false (O9 (I9 a0)) (O9 (I9 a1))).take m) (i5 (O9 (l7 (U8 fs))))))),(8,some (.row none 3 true 1 f9 (W4 false (O9 (I9 a0)) (O9 (I9 a1)))))],10⟩:Nat→St) (fun m=>m≤(W4 false (O9 (I9 a0)) (O9 (I9 a1))).length) (fun m=>(W4 false (O9 (I9 a0)) (O9 (I9 a1))).length - m) 0 ⟨⟨rfl,⟨rfl,⟨rfl,⟨rfl,⟨rfl,⟨(L7 (by simp)),⟨rfl,⟨rfl,⟨rfl,trivial⟩⟩⟩⟩⟩⟩⟩⟩⟩,⟨rfl,⟨rfl,⟨rfl,⟨rfl,⟨rfl,⟨rfl,trivial⟩⟩⟩⟩⟩⟩,rfl⟩ (by exact Nat.zero_le _) ?_
   rintro m hI ih0
   try dsimp only at hI ih0
   have i1:=hI;have ea:f6 rs fs a0 a1 a2 a3 a4 b=true:=(by assumption);have eb:a2=false:=(by assumption);have e5:=X5 ea eb;have eL:=XL ea;have eR:=XR ea eb
   refine t9<|rB<|c9<|k9 ?_
   refine j9 rfl (fun h9=>?_) (fun h9=>?_)
   ·
    have h9':=a8 h9
    refine m9<|k9<|p9<|t9 ?_
    obtain⟨z10,hz11,b12⟩:=v9 (xs:=W4 false (O9 (I9 a0)) (O9 (I9 a1))) (n:=(m:Int)) (by omega) (by omega)
    refine d9 (o8 rfl (by kernel_rfl) rfl rfl rfl b12 (f8 b12 hz11)) ?_
    refine d9 (t8 rfl (by kernel_rfl) rfl rfl rfl hz11) ?_
    refine rA<|P8 ?_
    refine rM ?_
    refine rM ?_
    refine rM ?_
    refine d9 (n9 10 10 false (H9 Tryz.func77) (aU (i5 (O9 (l7 (U8 fs))) +(m:Int)) (by omega)) rfl (.cons rfl (.c .t0) .nil) rfl rfl rfl) ?_
    obtain⟨z13,hz14,b15⟩:=v9 (xs:=C1 b ((W4 false (O9 (I9 a0)) (O9 (I9 a1))).take m) (i5 (O9 (l7 (U8 fs))))) (n:=z10) (by(have e2:=eR _ _ (by assumption);(try rw [dY]);omega)) (by(have e2:=eR _ _ (by assumption);(try rw [dY]);omega))
    refine d9 (o8 rfl (by kernel_rfl) rfl rfl rfl b15 (f8 b15 hz14)) ?_
    refine d9 (F8 (-1 - (i5 (O9 (l7 (U8 fs))) +(m:Int))) (n:=1) (by kernel_rfl) rfl rfl hz14 rfl rfl rfl rfl (.cons .sc .nil) rfl (fun j h1 h2=>by(simp at h1 h2;omega))) ?_
    refine EO<|rM ?_
    refine rB ?_
    refine rA<|c9<|i9<|l9 ?_
    refine rB ?_
    refine rM<|c9 ?_
    refine Z9 ?_ (ih0 (m + 1) (by(try dsimp only);omega) (by(try dsimp only);omega))
    exact⟨⟨rfl,⟨rfl,⟨rfl,⟨rfl,⟨rfl,⟨(L7 (by rw [n8 (by omega) (by omega)];omega)),⟨rfl,⟨rfl,⟨(L7 (n8 (by omega) (by omega))),trivial⟩⟩⟩⟩⟩⟩⟩⟩⟩,⟨rfl,⟨rfl,⟨rfl,⟨rfl,⟨(Q8 (pT hz11)),⟨rfl,trivial⟩⟩⟩⟩⟩⟩,rfl⟩
   ·
    have h9':=d8 h9
    refine N9 rfl<|t9<|rC 2 ?_
    refine d9 (n9 10 14 false (H9 Tryz.func31) (E7 rs fs (by omega) (by omega)) rfl (.cons rfl (.agg (.cons .t0 (.cons .t0 .nil))) .nil) rfl rfl rfl) ?_
    refine d9 (F9 14 (zs:=[.slice none 0 0,.slice none 0 0]) rfl rfl (by kernel_rfl) rfl) ?_
    refine rS 2<|c9<|k9<|t9 ?_
    refine rF 1 ?_
    refine rL ?_
    refine d9 (P9 rfl rfl rfl) ?_
    refine rM<|c9<|p9 ?_
    refine J9 (fun n=>⟨[(3,some (.c (.ptr 0 0))),(6,some (.c (.ptr 2 0))),(7,some (.c (.t none (.v (.int .i64 0))))),(9,some (.c (.own 4))),(10,some (.c (.t none (.v (.int .i64 (i5 (O9 (l7 (U8 fs))) +(m:Int))))))),(13,some (.c (.ptr 14 0))),(64,some (.c (.t none (.sl 2 (y9 f9 (x9 1 f9)) a1)))),(65,some (.c (.t none (.v (.int .i64 ((a1.length:Int))))))),(66,some (.c (.t none (.v (.int .i64 ((n:Int)))))))],[(0,some (.box [.t none (.sl 3 (j8 Y9 f9 U9) rs),.t none (.sl 2 (y9 f9 (x9 1 f9)) fs)])),(1,some (.box [.t none (.sl 2 (y9 f9 (x9 1 f9)) a0),.t none (.sl 2 (y9 f9 (x9 1 f9)) a1),.t none (.v (.bool a2)),.t none (.v (.int .i64 a3)),.t none (.v (.int .i64 a4))])),(2,some (.box [.t none (.v (.slice none 0 0)),.t none (.v (.slice none 0 0))])),(3,some (.box [.t none (.sl 2 (y9 f9 (x9 1 f9)) a0),.t none (.sl 2 (y9 f9 (x9 1 f9)) a1),.t none (.v (.bool a2)),.t none (.v (.int .i64 a3)),.t none (.v (.int .i64 a4))])),(4,some (.row none 3 true 1 f9 (nY fs a0 a1 b))),(8,some (.row none 3 true 1 f9 (W4 false (O9 (I9 a0)) (O9 (I9 a1))))),(12,some (.row none 95 true 3 (j8 Y9 f9 U9) rs)),(13,some (.row none 64 true 2 (y9 f9 (x9 1 f9)) (fs++(a1.take n).map (FU (nY fs a0 a1 b))))),(14,some (.box [.own 12,.own 13]))],15⟩:Nat→St) (fun n=>n≤a1.length) (fun n=>a1.length - n) 0 ⟨⟨rfl,⟨rfl,⟨rfl,⟨rfl,⟨rfl,⟨rfl,⟨rfl,⟨rfl,⟨rfl,trivial⟩⟩⟩⟩⟩⟩⟩⟩⟩,⟨rfl,⟨rfl,⟨rfl,⟨rfl,⟨(Q8 (by rw [List.take_of_length_le (by omega)];rfl)),⟨rfl,⟨rfl,⟨(Q8 (by simp)),⟨rfl,trivial⟩⟩⟩⟩⟩⟩⟩⟩⟩,rfl⟩ (by exact Nat.zero_le _) ?_
    rintro n hI ih1
    try dsimp only at hI ih1
    have j1:=hI
    refine t9<|rB<|c9<|k9 ?_
    refine j9 rfl (fun h16=>?_) (fun h16=>?_)
    ·
     have h16':=a8 h16
     refine m9<|k9<|p9<|t9 ?_
     obtain⟨z17,hz18,b19⟩:=v9 (xs:=a1) (n:=(n:Int)) (by omega) (by omega)
     refine d9 (Q9 rfl (by kernel_rfl) rfl rfl b19 hz18) ?_
     refine d9 (m6 rfl (n:=2) (by kernel_rfl) (by kernel_rfl) rfl rfl) ?_
     refine d9 (F9 15 (zs:=[.int .i64 0,.slice none 0 0]) rfl rfl (by kernel_rfl) rfl) ?_
     refine rS 2<|P8 ?_
     refine rC 2 ?_
     refine rM ?_
     rcases hm20:w6 (nY fs a0 a1 b) z17.2 with _ | q22
     ·
      refine d9 (n9 16 20 false (H9 Tryz.func78) (S5 z17.1 z17.2 (nY fs a0 a1 b) (by(have e1:=X7 (f:=(fun(x:Int ×(List Int))=>x.2.length)) (l:=a1) (m:=n) (by assumption);(try dsimp only at e1);omega)) (by exact hoh _ (D8 (by assumption))) _ hm20) rfl (.cons rfl (.agg (.cons .t0 (.cons .t0 .nil))) (.cons rfl (.c (.own rfl)) .nil)) rfl rfl rfl) ?_
      refine rM ?_
      refine d9 (D9 rfl rfl rfl rfl) ?_
      refine d9 (D9 rfl rfl rfl rfl) ?_
      refine d9 (F9 20 (zs:=[.int .i64 0,.slice none 0 0]) rfl rfl (by kernel_rfl) rfl) ?_
      refine rS 2 ?_
      refine rA<|EO ?_
      refine rF 1 ?_
      refine rL ?_
      refine rC 2 ?_
      refine d9 (w8 21 (e:=64) (sz:=2) (zs:=[.int .i64 0,.slice none 0 0]) rfl rfl (by kernel_rfl) rfl rfl rfl rfl rfl) ?_
      refine d9 (W9 13 (e:=64) (sz:=2) (by':=32) ((0,[])) rfl (by kernel_rfl) rfl rfl rfl rfl rfl rfl (.cons .sc (.cons .nil .nil)) rfl (by(simp only [List.length_append,List.length_map,List.length_take];omega)) (by(simp only [List.length_append,List.length_map,List.length_take];omega))) ?_
      refine rF 1 ?_
      refine rS 1<|c9<|i9<|l9 ?_
      refine rB ?_
      refine rM<|c9 ?_
      refine Z9 ?_ (ih1 (n + 1) (by(try dsimp only);omega) (by(try dsimp only);omega))
      exact⟨⟨rfl,⟨rfl,⟨rfl,⟨rfl,⟨rfl,⟨rfl,⟨rfl,⟨rfl,⟨(L7 (n8 (by omega) (by omega))),trivial⟩⟩⟩⟩⟩⟩⟩⟩⟩,⟨rfl,⟨rfl,⟨rfl,⟨rfl,⟨rfl,⟨rfl,⟨rfl,⟨(Q8 (by exact uM hz18 (by assumption))),⟨rfl,trivial⟩⟩⟩⟩⟩⟩⟩⟩⟩,rfl⟩
     ·
      refine d9 (n9 16 20 false (H9 Tryz.func78) (S5 z17.1 z17.2 (nY fs a0 a1 b) (by(have e1:=X7 (f:=(fun(x:Int ×(List Int))=>x.2.length)) (l:=a1) (m:=n) (by assumption);(try dsimp only at e1);omega)) (by exact hoh _ (D8 (by assumption))) _ hm20) rfl (.cons rfl (.agg (.cons .t0 (.cons .t0 .nil))) (.cons rfl (.c (.own rfl)) .nil)) rfl rfl rfl) ?_
      refine rM ?_
      refine d9 (D9 rfl rfl rfl rfl) ?_
      refine d9 (D9 rfl rfl rfl rfl) ?_
      refine d9 (F9 20 (zs:=[.int .i64 0,.slice none 0 0]) rfl rfl (by kernel_rfl) rfl) ?_
      refine rS 2 ?_
      refine rA<|EO ?_
      refine rF 1 ?_
      refine rL ?_
      refine rC 2 ?_
      refine d9 (w8 21 (e:=64) (sz:=2) (zs:=[.int .i64 0,.slice none 0 0]) rfl rfl (by kernel_rfl) rfl rfl rfl rfl rfl) ?_
      refine d9 (W9 13 (e:=64) (sz:=2) (by':=32) ((z17.1,q22)) rfl (by kernel_rfl) rfl rfl rfl rfl rfl rfl (.cons .sc (.take (.own rfl) rfl .nil)) rfl (by(simp only [List.length_append,List.length_map,List.length_take];omega)) (by(simp only [List.length_append,List.length_map,List.length_take];omega))) ?_
      refine rF 1 ?_
      refine rS 1<|c9<|i9<|l9 ?_
      refine rB ?_
      refine rM<|c9 ?_
      refine Z9 ?_ (ih1 (n + 1) (by(try dsimp only);omega) (by(try dsimp only);omega))
      exact⟨⟨rfl,⟨rfl,⟨rfl,⟨rfl,⟨rfl,⟨rfl,⟨rfl,⟨rfl,⟨(L7 (n8 (by omega) (by omega))),trivial⟩⟩⟩⟩⟩⟩⟩⟩⟩,⟨rfl,⟨rfl,⟨rfl,⟨rfl,⟨rfl,⟨rfl,⟨rfl,⟨(Q8 (by exact aM hz18 (by assumption))),⟨rfl,trivial⟩⟩⟩⟩⟩⟩⟩⟩⟩,rfl⟩
    ·
     have h16':=d8 h16
     refine N9 rfl<|t9<|rF 1 ?_
     refine rL ?_
     refine d9 (n9 15 16 false (H9 Tryz.func79) (JY (fs++(a1.take n).map (FU (nY fs a0 a1 b))) (by exact Nat.le_trans kL (by omega))) rfl (.cons rfl (.c (.own rfl)) .nil) rfl rfl rfl) ?_
     refine rF 1 ?_
     refine rS 1<|c9<|k9<|t9 ?_
     refine rM ?_
     refine rB ?_
     refine rM ?_
     refine A9 (fun g23=>?_) (fun g23=>?_)
     ·
      have g23':=d8 g23
      refine rF 1 ?_
      refine A9 (fun _=>?_) (C9 g23)
      refine rL ?_
      refine A9 (fun _=>?_) (C9 g23)
      refine d9 (A7 rfl rfl rfl rfl) ?_
      refine A9 (fun _=>?_) (C9 g23)
      refine rB ?_
      refine d9 (G9 rfl rfl g23 rfl) ?_
      refine c9 ?_
      refine j9 rfl (fun h24=>?_) (fun h24=>?_)
      ·
       have h24':=a8 h24
       refine t9<|rC 2 ?_
       refine d9 (n9 16 20 false (H9 Tryz.func31) (E7 rs fs (by omega) (by omega)) rfl (.cons rfl (.agg (.cons .t0 (.cons .t0 .nil))) .nil) rfl rfl rfl) ?_
       refine rS 2 ?_
       refine rA<|c9 ?_
       refine n7 4 18 rfl rfl rfl ?_
       refine n7 5 19 rfl rfl rfl ?_
       refine tk Tryz.func32 (X9 2 (.tmp rfl .nil)) ?_ (hL:=⟨Q8 ?_,⟨Q8 ?_,trivial⟩⟩) <;>(try clear ih0) <;>(try clear ih1)
       all_goals(((have et:uV (fs++(a1.take n).map (FU (nY fs a0 a1 b)))=vU fs a0 a1 b:=(by rw [List.take_of_length_le (by omega)];rfl));have en:(sQ a0 a1).length=(W4 false (O9 (I9 a0)) (O9 (I9 a1))).length:=rfl;have eN:iO fs=i5 (O9 (l7 (U8 fs))):=rfl;(have e8:=fV (rs:=rs) (fs:=fs) (a0:=a0) (a1:=a1) (a2:=a2) (a3:=a3) (a4:=a4) (v:=b) ea eb (by exact eP (by rw [← et];omega));first | (rw [e8.1];done) | (rw [e8.2.1];done) | (rw [e8.2.2];rfl))))
      ·
       have h24':=d8 h24
       refine m9<|t9<|rC 2 ?_
       refine rS 2 ?_
       refine rA<|c9 ?_
       refine n7 4 12 rfl rfl rfl ?_
       refine n7 5 15 rfl rfl rfl ?_
       refine tk Tryz.func32 (X9 2 (.tmp rfl .nil)) ?_ (hL:=⟨Q8 ?_,⟨Q8 ?_,trivial⟩⟩) <;>(try clear ih0) <;>(try clear ih1)
       all_goals(((have et:uV (fs++(a1.take n).map (FU (nY fs a0 a1 b)))=vU fs a0 a1 b:=(by rw [List.take_of_length_le (by omega)];rfl));have en:(sQ a0 a1).length=(W4 false (O9 (I9 a0)) (O9 (I9 a1))).length:=rfl;have eN:iO fs=i5 (O9 (l7 (U8 fs))):=rfl;(have e8:=OQ (rs:=rs) (fs:=fs) (a0:=a0) (a1:=a1) (a2:=a2) (a3:=a3) (a4:=a4) (v:=b) ea eb (CN (by omega) (by rw [← et];omega));first | (rw [e8.1];done) | (rw [e8.2.1,et];done) | (rw [e8.2.2];rfl))))
     ·
      have g23':=a8 g23
      refine A9 (nc g23) (fun _=>?_)
      refine A9 (nc g23) (fun _=>?_)
      refine A9 (nc g23) (fun _=>?_)
      refine d9 (M9 rfl rfl g23 rfl) ?_
      refine c9 ?_
      refine j9 rfl (fun _=>?_) (nc rfl)
      refine t9<|rC 2 ?_
      refine d9 (n9 16 20 false (H9 Tryz.func31) (E7 rs fs (by omega) (by omega)) rfl (.cons rfl (.agg (.cons .t0 (.cons .t0 .nil))) .nil) rfl rfl rfl) ?_
      refine rS 2 ?_
      refine rA<|c9 ?_
      refine n7 4 18 rfl rfl rfl ?_
      refine n7 5 19 rfl rfl rfl ?_
      refine tk Tryz.func32 (X9 2 (.tmp rfl .nil)) ?_ (hL:=⟨Q8 ?_,⟨Q8 ?_,trivial⟩⟩) <;>(try clear ih0) <;>(try clear ih1)
      all_goals(((have et:uV (fs++(a1.take n).map (FU (nY fs a0 a1 b)))=vU fs a0 a1 b:=(by rw [List.take_of_length_le (by omega)];rfl));have en:(sQ a0 a1).length=(W4 false (O9 (I9 a0)) (O9 (I9 a1))).length:=rfl;have eN:iO fs=i5 (O9 (l7 (U8 fs))):=rfl;(have e8:=fV (rs:=rs) (fs:=fs) (a0:=a0) (a1:=a1) (a2:=a2) (a3:=a3) (a4:=a4) (v:=b) ea eb (by exact fN (by omega));first | (rw [e8.1];done) | (rw [e8.2.1];done) | (rw [e8.2.2];rfl))))
theorem GV (rs:T9)(fs:w9)(ds:List Y1)(hrs:rs.length≤1048576)(hsz:N8 (fun(x:Int ×(List Int))=>x.2.length) fs + N8 (fun(x:(List (Int ×(List Int))) ×(List (Int ×(List Int))) × Bool × Int × Int)=>(N8 (fun(x:Int ×(List Int))=>x.2.length) x.1) +(N8 (fun(x:Int ×(List Int))=>x.2.length) x.2.1)) ds≤1048576)(ho:∀z∈fs,∀x∈z.2,B7 x)(hod:∀d∈ds,∀z∈d.1,∀x∈z.2,B7 x)(hoe:∀d∈ds,∀z∈d.2.1,∀x∈z.2,B7 x):QH Tryz.prog 7 [.agg [.t none (.sl 3 (j8 Y9 f9 U9) rs),.t none (.sl 2 (y9 f9 (x9 1 f9)) fs)],.c (.t none (.sl 5 (TY (x9 2 (y9 f9 (x9 1 f9))) (x9 2 (y9 f9 (x9 1 f9))) U9 f9 f9) ds))] (fun et=>[(3,some (.row none et true 1 f9 (P3 rs fs ds))),(4,some (.row none 95 true 3 (j8 Y9 f9 U9) (CU rs fs ds))),(5,some (.row none 64 true 2 (y9 f9 (x9 1 f9)) (MV rs fs ds)))]) 6 (.tup [(true,[.own 4,.own 5]),(true,[.t none (.v (.int .i64 (P1 rs fs ds))),.own 3]),(false,[.t none (.v (.int .i64 (mQ rs fs ds)))])]):=by
 refine UV Tryz.func7 rfl (Nat.le_of_ble_eq_true rfl) fun w S=>?_
 have gl:=I8 (f:=(fun(x:(List (Int ×(List Int))) ×(List (Int ×(List Int))) × Bool × Int × Int)=>(N8 (fun(x:Int ×(List Int))=>x.2.length) x.1) +(N8 (fun(x:Int ×(List Int))=>x.2.length) x.2.1))) (l:=ds);have gv:=zT (rs:=rs) (fs:=fs) (ds:=ds);have go:=NO (rs:=rs) (ds:=ds) ho;have gi:B6 rs fs ds=true→0≤P1 rs fs ds∧P1 rs fs ds < ds.length:=MR
 refine t9 ?_
 refine d9 (m8 0 rfl rfl rfl rfl) ?_
 refine d9 (F9 1 (zs:=[.slice none 0 0,.slice none 0 0]) rfl rfl (by kernel_rfl) rfl) ?_
 refine d9 (F9 2 (zs:=[.int .i64 0,.slice none 0 0]) rfl rfl (by kernel_rfl) rfl) ?_
 refine rA<|P8 ?_
 refine rC 2 ?_
 refine rM ?_
 refine KO (MU 3 4 (H9 Tryz.func30) (SY rs fs ds (by omega) (by omega) (by omega) (by omega) (by omega)) rfl (.cons rfl (.agg (.cons .t0 (.cons .t0 .nil))) (.cons rfl (.c .t0) .nil)) (fun _=>rfl) rfl rfl) fun e1=>?_
 refine rM ?_
 refine d9 (D9 rfl rfl rfl rfl) ?_
 refine d9 (D9 rfl rfl rfl rfl) ?_
 refine d9 (D9 rfl rfl rfl rfl) ?_
 refine rA ?_
 refine rA ?_
 refine rA<|c9<|k9<|t9 ?_
 refine rM ?_
 refine d9 (E8 rfl rfl) ?_
 refine c9 ?_
 refine j9 rfl (fun h2=>?_) (fun h2=>?_)
 ·
  have h2':=(d4 h2)
  refine t9<|rC 2 ?_
  refine d9 (n9 4 8 false (H9 Tryz.func31) (E7 rs fs (by omega) (by omega)) rfl (.cons rfl (.agg (.cons .t0 (.cons .t0 .nil))) .nil) rfl rfl rfl) ?_
  refine d9 (oD [(0,1),(1,1)] [.int .i64 0,.slice none 0 0]) ?_
  refine rS 2 ?_
  refine rS 2 ?_
  refine rA<|c9 ?_
  refine A6 8 (b:=2) (o:=1) (et:=3) (sz:=1) true f9 rfl rfl rfl ?_
  refine n7 4 6 rfl rfl rfl ?_
  refine n7 5 7 rfl rfl rfl ?_
  refine n7 3 8 rfl rfl rfl ?_
  refine I5 Tryz.func7 (X9 2 (X9 2 (.tmp rfl .nil))) rfl fun E S w u hI hd=>?_
  refine⟨_,M7 hI hd ?_ ⟨Q8 ?_,⟨Q8 ?_,⟨Q8 ?_,trivial⟩⟩⟩ rfl rfl rfl⟩ <;> clear hI hd
  all_goals((have e8:=RT (rs:=rs) (fs:=fs) (ds:=ds) (by assumption);first | (rw [e8.1];done) | (rw [e8.2.1];done) | (rw [e8.2.2.2.2];done) | (rw [e8.2.2.1,e8.2.2.2.1];rfl)))
 ·
  have h2':=(Y5 h2)
  refine m9<|k9 ?_
  refine tD (fun i=>!(Nat.beq i 11)) ?_
  refine dT 0 rfl (pC 2) ?_
  refine dT 1 rfl pM ?_
  refine dT 2 rfl pM ?_
  obtain⟨z3,hz4,b5⟩:=v9 (xs:=ds) (n:=P1 rs fs ds) (by(have e7:=gi (by assumption);omega)) (by(have e7:=gi (by assumption);omega))
  refine dT 3 rfl (p8 (by kernel_rfl) rfl rfl b5 hz4) ?_
  refine dT 4 rfl (p6 (n:=5) (by kernel_rfl) (by kernel_rfl) rfl rfl) ?_
  refine dT 5 rfl pM ?_
  refine H8 6 10 rfl rfl (by kernel_rfl) rfl rfl (n9 4 10 false (H9 Tryz.func32) (m0 rs fs z3.1 z3.2.1 z3.2.2.1 z3.2.2.2.1 z3.2.2.2.2 (P3 rs fs ds) (by omega) (by(have e1:=kZ (f:=(fun(x:(List (Int ×(List Int))) ×(List (Int ×(List Int))) × Bool × Int × Int)=>(N8 (fun(x:Int ×(List Int))=>x.2.length) x.1) +(N8 (fun(x:Int ×(List Int))=>x.2.length) x.2.1))) (l:=ds) (D8 (by assumption));(try dsimp only at e1);omega)) (by omega) (by exact hod _ (D8 (by assumption))) (by exact hoe _ (D8 (by assumption))) (by omega) (by omega)) rfl (.cons rfl (.agg (.cons .t0 (.cons .t0 .nil))) (.cons rfl (.agg (.cons .t0 (.cons .t0 (.cons .t0 (.cons .t0 (.cons .t0 .nil)))))) (.cons rfl (.c (.own rfl)) .nil))) rfl rfl rfl) (F9 4 (zs:=[.slice none 0 0,.slice none 0 0]) rfl rfl (by kernel_rfl) rfl) ?_ ?_
  ·
   refine dT 7 rfl pM ?_
   refine dT 8 rfl (j6 rfl rfl rfl) ?_
   refine H8 9 10 rfl rfl (by kernel_rfl) rfl rfl (D9 rfl rfl rfl rfl) (F9 10 (zs:=[.slice none 0 0,.slice none 0 0]) rfl rfl (by kernel_rfl) rfl) ?_ ?_
   ·
    refine dO 10 rfl (F9 10 (zs:=[.slice none 0 0,.slice none 0 0]) rfl rfl (by kernel_rfl) rfl) ?_
    refine dO 11 rfl (oS 2) ?_
    refine dT 12 rfl pA ?_
    refine dE ?_
    refine t9<|rC 2 ?_
    refine rM ?_
    refine rM ?_
    refine d9 (oD [(0,1),(1,1)] [.int .i64 0,.slice none 0 0]) ?_
    refine rM ?_
    refine rS 2 ?_
    refine rS 2 ?_
    refine rA<|c9 ?_
    refine n7 4 8 rfl rfl rfl ?_
    refine n7 5 9 rfl rfl rfl ?_
    refine I5 Tryz.func7 (X9 2 (X9 2 (.tmp rfl .nil))) rfl fun E S w u hI hd=>?_
    refine⟨_,M7 hI hd ?_ ⟨Q8 ?_,⟨Q8 ?_,⟨Q8 ?_,trivial⟩⟩⟩ rfl rfl rfl⟩ <;> clear hI hd
    all_goals first | rfl | ((have e8:=P2 (rs:=rs) (fs:=fs) (ds:=ds) (by assumption) hz4;first | (rw [e8.1];done) | (rw [e8.2.1];done) | (rw [e8.2.2];rfl)))
   ·
    refine H8 9 11 rfl rfl (by kernel_rfl) rfl rfl (D9 rfl rfl rfl rfl) (oS 2) ?_ ?_
    ·
     refine dO 11 rfl (oS 2) ?_
     refine dT 12 rfl pA ?_
     refine dE ?_
     refine t9<|rC 2 ?_
     refine rM ?_
     refine rM ?_
     refine d9 (oD [(0,1),(1,1)] [.int .i64 0,.slice none 0 0]) ?_
     refine rM ?_
     refine rS 2 ?_
     refine rS 2 ?_
     refine rA<|c9 ?_
     refine n7 4 8 rfl rfl rfl ?_
     refine n7 5 9 rfl rfl rfl ?_
     refine I5 Tryz.func7 (X9 2 (X9 2 (.tmp rfl .nil))) rfl fun E S w u hI hd=>?_
     refine⟨_,M7 hI hd ?_ ⟨Q8 ?_,⟨Q8 ?_,⟨Q8 ?_,trivial⟩⟩⟩ rfl rfl rfl⟩ <;> clear hI hd
     all_goals first | rfl | ((have e8:=P2 (rs:=rs) (fs:=fs) (ds:=ds) (by assumption) hz4;first | (rw [e8.1];done) | (rw [e8.2.1];done) | (rw [e8.2.2];rfl)))
    ·
     refine dT 9 rfl (j6 rfl rfl rfl) ?_
     refine dT 12 rfl pA ?_
     refine dE ?_
     refine t9<|rC 2 ?_
     refine rM ?_
     refine rM ?_
     refine d9 (oD [(0,1),(1,1)] [.int .i64 0,.slice none 0 0]) ?_
     refine rM ?_
     refine rS 2 ?_
     refine rS 2 ?_
     refine rA<|c9 ?_
     refine n7 4 8 rfl rfl rfl ?_
     refine n7 5 9 rfl rfl rfl ?_
     refine I5 Tryz.func7 (X9 2 (X9 2 (.tmp rfl .nil))) rfl fun E S w u hI hd=>?_
     refine⟨_,M7 hI hd ?_ ⟨Q8 ?_,⟨Q8 ?_,⟨Q8 ?_,trivial⟩⟩⟩ rfl rfl rfl⟩ <;> clear hI hd
     all_goals first | rfl | ((have e8:=P2 (rs:=rs) (fs:=fs) (ds:=ds) (by assumption) hz4;first | (rw [e8.1];done) | (rw [e8.2.1];done) | (rw [e8.2.2];rfl)))
  ·
   refine dO 6 rfl (n9 5 11 false (H9 Tryz.func32) (m0 rs fs z3.1 z3.2.1 z3.2.2.1 z3.2.2.2.1 z3.2.2.2.2 (P3 rs fs ds) (by omega) (by(have e1:=kZ (f:=(fun(x:(List (Int ×(List Int))) ×(List (Int ×(List Int))) × Bool × Int × Int)=>(N8 (fun(x:Int ×(List Int))=>x.2.length) x.1) +(N8 (fun(x:Int ×(List Int))=>x.2.length) x.2.1))) (l:=ds) (D8 (by assumption));(try dsimp only at e1);omega)) (by omega) (by exact hod _ (D8 (by assumption))) (by exact hoe _ (D8 (by assumption))) (by omega) (by omega)) rfl (.cons rfl (.agg (.cons .t0 (.cons .t0 .nil))) (.cons rfl (.agg (.cons .t0 (.cons .t0 (.cons .t0 (.cons .t0 (.cons .t0 .nil)))))) (.cons rfl (.c (.own rfl)) .nil))) rfl rfl rfl) ?_
   refine dT 7 rfl pM ?_
   refine dT 8 rfl (j6 rfl rfl rfl) ?_
   refine H8 9 11 rfl rfl (by kernel_rfl) rfl rfl (D9 rfl rfl rfl rfl) (oS 2) ?_ ?_
   ·
    refine dO 11 rfl (oS 2) ?_
    refine dT 12 rfl pA ?_
    refine dE ?_
    refine t9<|rC 2 ?_
    refine rM ?_
    refine rM ?_
    refine d9 (oD [(0,1),(1,1)] [.int .i64 0,.slice none 0 0]) ?_
    refine rM ?_
    refine rS 2 ?_
    refine rS 2 ?_
    refine rA<|c9 ?_
    refine n7 4 9 rfl rfl rfl ?_
    refine n7 5 10 rfl rfl rfl ?_
    refine I5 Tryz.func7 (X9 2 (X9 2 (.tmp rfl .nil))) rfl fun E S w u hI hd=>?_
    refine⟨_,M7 hI hd ?_ ⟨Q8 ?_,⟨Q8 ?_,⟨Q8 ?_,trivial⟩⟩⟩ rfl rfl rfl⟩ <;> clear hI hd
    all_goals first | rfl | ((have e8:=P2 (rs:=rs) (fs:=fs) (ds:=ds) (by assumption) hz4;first | (rw [e8.1];done) | (rw [e8.2.1];done) | (rw [e8.2.2];rfl)))
   ·
    refine dT 9 rfl (j6 rfl rfl rfl) ?_
    refine dT 12 rfl pA ?_
    refine dE ?_
    refine t9<|rC 2 ?_
    refine rM ?_
    refine rM ?_
    refine d9 (oD [(0,1),(1,1)] [.int .i64 0,.slice none 0 0]) ?_
    refine rM ?_
    refine rS 2 ?_
    refine rS 2 ?_
    refine rA<|c9 ?_
    refine n7 4 9 rfl rfl rfl ?_
    refine n7 5 10 rfl rfl rfl ?_
    refine I5 Tryz.func7 (X9 2 (X9 2 (.tmp rfl .nil))) rfl fun E S w u hI hd=>?_
    refine⟨_,M7 hI hd ?_ ⟨Q8 ?_,⟨Q8 ?_,⟨Q8 ?_,trivial⟩⟩⟩ rfl rfl rfl⟩ <;> clear hI hd
    all_goals first | rfl | ((have e8:=P2 (rs:=rs) (fs:=fs) (ds:=ds) (by assumption) hz4;first | (rw [e8.1];done) | (rw [e8.2.1];done) | (rw [e8.2.2];rfl)))
theorem v6 (a0 a1 a2:Int):Pu Tryz.prog 48 [.c (.t none (.v (.int .i64 a0))),.c (.t none (.v (.int .i64 a1))),.c (.t none (.v (.int .i64 a2)))] [] 0 (.c (.t none (.v (.bool (decide (a1≤a0∧a0≤a2)))))):=by
 refine S7 Tryz.func48 fun w S=>?_
 refine t9<|rA<|P8 ?_
 refine rM ?_
 refine rM ?_
 refine rB ?_
 refine rM ?_
 refine A9 (fun g1=>?_) (fun g1=>?_)
 ·
  have g1':=a8 g1
  refine rM ?_
  refine A9 (fun _=>?_) (nc g1)
  refine rM ?_
  refine A9 (fun _=>?_) (nc g1)
  refine rB ?_
  refine d9 (M9 rfl rfl g1 rfl) ?_
  refine rA<|c9 ?_
  refine tk Tryz.func48 (.tmp rfl .nil) ?_
  all_goals(simp_all <;> omega)
 ·
  have g1':=d8 g1
  refine A9 (C9 g1) (fun _=>?_)
  refine A9 (C9 g1) (fun _=>?_)
  refine d9 (G9 rfl rfl g1 rfl) ?_
  refine rA<|c9 ?_
  refine tk Tryz.func48 (.tmp rfl .nil) ?_
  all_goals(simp_all <;> omega)
theorem yY (n:List UInt8)(a:Int)(s:Bool):Pu Tryz.prog 130 [.agg [.t none (.v (.string (U6 n))),.t none (.v (.int .i64 a)),.t none (.v (.bool s))]] [] 0 (.c (.t none (.v (.bool (B0 (n,a,s)))))):=by
 refine S7 Tryz.func130 fun w S=>?_
 refine t9 ?_
 refine d9 (m8 0 rfl rfl rfl rfl) ?_
 refine rA<|P8 ?_
 refine rF 0 ?_
 refine rL ?_
 refine d9 (zL rfl Tryz.underlying9 rfl) ?_
 refine rB ?_
 refine rM ?_
 refine A9 (fun g1=>?_) (fun g1=>?_)
 ·
  have g1':=a8 g1
  refine rF 0 ?_
  refine A9 (fun _=>?_) (nc g1)
  refine rL ?_
  refine A9 (fun _=>?_) (nc g1)
  obtain⟨z2,hz3,b4⟩:=v9 (xs:=n) (n:=0) (by omega) (by omega)
  refine d9 (iP rfl Tryz.underlying9 rfl rfl b4 hz3) ?_
  refine A9 (fun _=>?_) (nc g1)
  refine rB ?_
  refine d9 (M9 rfl rfl g1 rfl) ?_
  refine rM ?_
  refine A9 (fun g5=>?_) (fun g5=>?_)
  ·
   have g5':=a8 g5
   refine rF 0 ?_
   refine A9 (fun _=>?_) (nc g5)
   refine rL ?_
   refine A9 (fun _=>?_) (nc g5)
   refine d9 (iP rfl Tryz.underlying9 rfl rfl b4 hz3) ?_
   refine A9 (fun _=>?_) (nc g5)
   refine rB ?_
   refine d9 (M9 rfl rfl g5 rfl) ?_
   refine rM ?_
   refine A9 (fun g6=>?_) (fun g6=>?_)
   ·
    have g6':=a8 g6
    refine rF 1 ?_
    refine A9 (fun _=>?_) (nc g6)
    refine rL ?_
    refine A9 (fun _=>?_) (nc g6)
    refine d9 (n9 1 1 false (H9 Tryz.func48) (v6 a 1 3) rfl (.cons rfl (.c .t0) (.cons rfl (.c .t0) (.cons rfl (.c .t0) .nil))) rfl rfl rfl) ?_
    refine d9 (M9 rfl rfl g6 rfl) ?_
    refine rA<|c9 ?_
    refine tk Tryz.func130 (.tmp rfl .nil) ?_
    all_goals(refine K7 ?_;(obtain⟨c,rfl⟩:=TV (by assumption);simp at *;subst_vars;simp [B0,wX];omega))
   ·
    have g6':=d8 g6
    refine A9 (C9 g6) (fun _=>?_)
    refine A9 (C9 g6) (fun _=>?_)
    refine d9 (G9 rfl rfl g6 rfl) ?_
    refine rA<|c9 ?_
    refine tk Tryz.func130 (.tmp rfl .nil) ?_
    all_goals(refine K7 ?_;(obtain⟨c,rfl⟩:=TV (by assumption);simp at *;subst_vars;simp [B0,wX];omega))
  ·
   have g5':=d8 g5
   refine A9 (C9 g5) (fun _=>?_)
   refine A9 (C9 g5) (fun _=>?_)
   refine A9 (C9 g5) (fun _=>?_)
   refine d9 (G9 rfl rfl g5 rfl) ?_
   refine rM ?_
   refine A9 (C9 rfl) (fun _=>?_)
   refine A9 (C9 rfl) (fun _=>?_)
   refine A9 (C9 rfl) (fun _=>?_)
   refine d9 (G9 rfl rfl rfl rfl) ?_
   refine rA<|c9 ?_
   refine tk Tryz.func130 (.tmp rfl .nil) ?_
   all_goals(refine K7 ?_;(obtain⟨c,rfl⟩:=TV (by assumption);simp at *;subst_vars;simp [B0,wX];omega))
 ·
  have g1':=d8 g1
  refine A9 (C9 g1) (fun _=>?_)
  refine A9 (C9 g1) (fun _=>?_)
  refine A9 (C9 g1) (fun _=>?_)
  refine d9 (G9 rfl rfl g1 rfl) ?_
  refine rM ?_
  refine A9 (C9 rfl) (fun _=>?_)
  refine A9 (C9 rfl) (fun _=>?_)
  refine A9 (C9 rfl) (fun _=>?_)
  refine A9 (C9 rfl) (fun _=>?_)
  refine d9 (G9 rfl rfl rfl rfl) ?_
  refine rM ?_
  refine A9 (C9 rfl) (fun _=>?_)
  refine A9 (C9 rfl) (fun _=>?_)
  refine A9 (C9 rfl) (fun _=>?_)
  refine d9 (G9 rfl rfl rfl rfl) ?_
  refine rA<|c9 ?_
  refine tk Tryz.func130 (.tmp rfl .nil) ?_
  all_goals(refine K7 ?_;(have e:=gT (by assumption);simp [B0,e];done))
theorem r6 (l:List (List UInt8 × Int × Bool))(hl:l.length≤4611686018427387904):Pu Tryz.prog 66 [.c (.t none (.sl 3 (j8 Y9 f9 U9) l))] [] 0 (.c (.t none (.v (.bool (v4 l))))):=by
 refine S7 Tryz.func66 fun w S=>?_
 refine t9<|rA<|c9<|k9<|t9 ?_
 refine rA<|c9<|p9 ?_
 refine J9 (fun m=>⟨[(0,some (.c (.t none (.sl 3 (j8 Y9 f9 U9) l)))),(3,some (.c (.t none (.v (.int .i64 ((m:Int)))))))],[],0⟩:Nat→St) (fun m=>m≤l.length∧∀j,j < m→S3 l j=true) (fun m=>l.length - m) 0 ⟨⟨rfl,⟨rfl,trivial⟩⟩,trivial,rfl⟩ (by exact⟨Nat.zero_le _,fun j h=>by omega⟩) ?_
 rintro m hI ih0
 try dsimp only at hI ih0
 obtain⟨i1,i2⟩:=hI
 refine k9<|t9<|rM ?_
 refine rM ?_
 refine d9 (P9 rfl rfl rfl) ?_
 refine rB<|c9 ?_
 refine j9 rfl (fun h1=>?_) (fun h1=>?_)
 ·
  have h1':=a8 h1
  refine m9<|k9<|p9<|k9 ?_
  refine tY ?_
  refine dT 0 rfl pM ?_
  refine dT 1 rfl pM ?_
  obtain⟨z2,hz3,b4⟩:=v9 (xs:=l) (n:=(m:Int)) (by omega) (by omega)
  refine dT 2 rfl (p8 (by kernel_rfl) rfl rfl b4 hz3) ?_
  refine dT 3 rfl (p6 (n:=3) (by kernel_rfl) (by kernel_rfl) rfl rfl) ?_
  refine dO 4 rfl (n9 0 0 false (H9 Tryz.func130) (yY z2.1 z2.2.1 z2.2.2) rfl (.cons rfl (.agg (.cons .t0 (.cons .t0 (.cons .t0 .nil)))) .nil) rfl rfl rfl) ?_
  refine dT 5 rfl (R3 rfl) ?_
  refine dT 6 rfl pM ?_
  refine dH 7 rfl (fun _=>pM) (fun g5=>?_) (fun g5=>?_)
  ·
   have g5':=(Y5 g5)
   refine dH 8 rfl (fun _=>pB) (fun _=>?_) (C9 g5)
   refine dH 9 rfl (fun _=>pM) (fun _=>?_) (C9 g5)
   refine dH 10 rfl (fun _=>pM) (fun g6=>?_) (fun g6=>?_)
   ·
    have g6':=a8 g6
    refine dH 11 rfl (fun _=>pM) (fun _=>?_) (nc g6)
    refine dH 12 rfl (fun _=>pB) (fun _=>?_) (nc g6)
    obtain⟨z7,hz8,b9⟩:=v9 (xs:=l) (n:=IntKind.i64.wrap ((m:Int) - 1)) (by(simp only [IntKind.wrap_i64];omega)) (by(simp only [IntKind.wrap_i64];omega))
    refine dH 13 rfl (fun _=>p8 (by kernel_rfl) rfl rfl b9 hz8) (fun _=>?_) (nc g6)
    refine dH 14 rfl (fun _=>R2 (off:=0) (by kernel_rfl) rfl) (fun _=>?_) (nc g6)
    refine dH 15 rfl (fun _=>Y8 (by kernel_rfl) rfl rfl) (fun _=>?_) (nc g6)
    refine dH 16 rfl (fun _=>pM) (fun _=>?_) (nc g6)
    refine dH 17 rfl (fun _=>pM) (fun _=>?_) (nc g6)
    refine dH 18 rfl (fun _=>p8 (by kernel_rfl) rfl rfl b4 hz3) (fun _=>?_) (nc g6)
    refine dH 19 rfl (fun _=>R2 (off:=0) (by kernel_rfl) rfl) (fun _=>?_) (nc g6)
    refine dH 20 rfl (fun _=>Y8 (by kernel_rfl) rfl rfl) (fun _=>?_) (nc g6)
    refine dH 21 rfl (fun _=>ZT rfl rfl rfl) (fun _=>?_) (nc g6)
    refine dH 22 rfl (fun _=>C8 rfl g6 rfl) (fun _=>?_) (C9 g5)
    refine dT 23 rfl (r8 rfl g5 rfl) ?_
    refine dE ?_
    refine j9 rfl (fun h10=>?_) (fun h10=>?_)
    ·
     have h10':=(d4 h10)
     refine t9<|rA<|c9 ?_
     refine tk Tryz.func66 (.tmp rfl .nil) ?_ <;>(try clear ih0)
     all_goals(rw [rY (m:=m) (by omega) (DZ (n:=(IntKind.i64.wrap ((m:Int) - 1)).toNat) (by assumption) (by assumption) (by omega) (by simp only [IntKind.wrap_i64];omega) (by assumption) (by assumption))])
    ·
     have h10':=(Y5 h10)
     refine m9<|i9<|l9<|rM ?_
     refine rB ?_
     refine rA<|c9 ?_
     refine Z9 ?_ (ih0 (m + 1) (by(try dsimp only);omega) (by(try dsimp only);exact⟨by omega,i6 i2 (DZ (n:=(IntKind.i64.wrap ((m:Int) - 1)).toNat) (by assumption) (by assumption) (by omega) (by simp only [IntKind.wrap_i64];omega) (by assumption) (by assumption))⟩))
     exact⟨⟨rfl,⟨(L7 (n8 (by omega) (by omega))),trivial⟩⟩,trivial,rfl⟩
   ·
    have g6':=d8 g6
    refine dG 11 (C9 g6) (fun _=>?_)
    refine dG 12 (C9 g6) (fun _=>?_)
    refine dG 13 (C9 g6) (fun _=>?_)
    refine dG 14 (C9 g6) (fun _=>?_)
    refine dG 15 (C9 g6) (fun _=>?_)
    refine dG 16 (C9 g6) (fun _=>?_)
    refine dG 17 (C9 g6) (fun _=>?_)
    refine dG 18 (C9 g6) (fun _=>?_)
    refine dG 19 (C9 g6) (fun _=>?_)
    refine dG 20 (C9 g6) (fun _=>?_)
    refine dG 21 (C9 g6) (fun _=>?_)
    refine dH 22 rfl (fun _=>r8 rfl g6 rfl) (fun _=>?_) (C9 g5)
    refine dT 23 rfl (r8 rfl g5 rfl) ?_
    refine dE ?_
    refine j9 rfl (C9 rfl) (fun _=>?_)
    refine m9<|i9<|l9<|rM ?_
    refine rB ?_
    refine rA<|c9 ?_
    refine Z9 ?_ (ih0 (m + 1) (by(try dsimp only);omega) (by(try dsimp only);exact⟨by omega,i6 i2 (cV (by assumption) (by assumption) (by omega))⟩))
    exact⟨⟨rfl,⟨(L7 (n8 (by omega) (by omega))),trivial⟩⟩,trivial,rfl⟩
  ·
   have g5':=(d4 g5)
   refine dG 8 (nc g5) (fun _=>?_)
   refine dG 9 (nc g5) (fun _=>?_)
   refine dK 10 ?_
   refine dK 11 ?_
   refine dK 12 ?_
   refine dK 13 ?_
   refine dK 14 ?_
   refine dK 15 ?_
   refine dK 16 ?_
   refine dK 17 ?_
   refine dK 18 ?_
   refine dK 19 ?_
   refine dK 20 ?_
   refine dK 21 ?_
   refine dG 22 (nc g5) (fun _=>?_)
   refine dT 23 rfl (C8 rfl g5 rfl) ?_
   refine dE ?_
   refine j9 rfl (fun _=>?_) (nc rfl)
   refine t9<|rA<|c9 ?_
   refine tk Tryz.func66 (.tmp rfl .nil) ?_ <;>(try clear ih0)
   all_goals(rw [rY (m:=m) (by omega) (jU (by assumption) (by assumption))])
 ·
  have h1':=d8 h1
  refine N9 rfl<|t9<|rM ?_
  refine d9 (P9 rfl rfl rfl) ?_
  refine rB ?_
  refine rA<|c9 ?_
  refine tk Tryz.func66 (.tmp rfl .nil) ?_ <;>(try clear ih0)
  all_goals(rw [XU (m:=m) i2 (by omega)];exact VH (by omega))
theorem B3 (rs:List (List UInt8 × Int × Bool))(r:Int)(ts:List Int)(hrs:rs.length≤4611686018427387904)(hts:ts.length≤4611686018427387904):Pu Tryz.prog 127 [.c (.t none (.sl 3 (j8 Y9 f9 U9) rs)),.agg [.t none (.v (.int .i64 r)),.t none (.sl 1 f9 ts)]] [] 0 (.c (.t none (.v (.bool (p4 rs r ts))))):=by
 refine S7 Tryz.func127 fun w S=>?_
 refine t9 ?_
 refine d9 (m8 0 rfl rfl rfl rfl) ?_
 refine rA<|c9<|k9<|k9 ?_
 refine tY ?_
 refine dT 0 rfl pM ?_
 refine dO 1 rfl (n9 1 1 false (H9 Tryz.func66) (r6 rs (by omega)) rfl (.cons rfl (.c .t0) .nil) rfl rfl rfl) ?_
 refine dT 2 rfl (R3 rfl) ?_
 refine dT 3 rfl pM ?_
 refine dH 4 rfl (fun _=>pF 0) (fun g1=>?_) (fun g1=>?_)
 ·
  have g1':=(Y5 g1)
  refine dH 5 rfl (fun _=>pL) (fun _=>?_) (C9 g1)
  refine dH 6 rfl (fun _=>pM) (fun _=>?_) (C9 g1)
  refine dH 7 rfl (fun _=>X6 rfl rfl) (fun _=>?_) (C9 g1)
  refine dH 8 rfl (fun _=>pB) (fun _=>?_) (C9 g1)
  refine C7 9 rfl rfl (by kernel_rfl) rfl rfl rfl (fun _=>(n9 1 1 false (H9 Tryz.func48) (v6 r 0 (IntKind.i64.wrap ((rs.length:Int) - 1))) rfl (.cons rfl (.c .t0) (.cons rfl (.c .t0) (.cons rfl (.c .t0) .nil))) rfl rfl rfl)) (fun _=>?_) (C9 g1)
  refine dH 10 rfl (fun _=>R3 rfl) (fun _=>?_) (C9 g1)
  refine dT 11 rfl (r8 rfl g1 rfl) ?_
  refine dT 12 rfl pM ?_
  refine dH 13 rfl (fun _=>pF 1) (fun g2=>?_) (fun g2=>?_)
  ·
   have g2':=a8 (Y5 g2)
   refine dH 14 rfl (fun _=>pL) (fun _=>?_) (C9 g2)
   refine dH 15 rfl (fun _=>X6 rfl rfl) (fun _=>?_) (C9 g2)
   refine dH 16 rfl (fun _=>pM) (fun _=>?_) (C9 g2)
   refine dH 17 rfl (fun _=>pF 0) (fun _=>?_) (C9 g2)
   refine dH 18 rfl (fun _=>pL) (fun _=>?_) (C9 g2)
   obtain⟨z3,hz4,b5⟩:=v9 (xs:=rs) (n:=r) (by omega) (by(simp only [IntKind.wrap_i64] at *;omega))
   refine dH 19 rfl (fun _=>p8 (by kernel_rfl) rfl rfl b5 hz4) (fun _=>?_) (C9 g2)
   refine dH 20 rfl (fun _=>R2 (off:=1) (by kernel_rfl) rfl) (fun _=>?_) (C9 g2)
   refine dH 21 rfl (fun _=>Y8 (by kernel_rfl) rfl rfl) (fun _=>?_) (C9 g2)
   refine dH 22 rfl (fun _=>pB) (fun _=>?_) (C9 g2)
   refine dT 23 rfl (r8 rfl g2 rfl) ?_
   refine dE ?_
   refine j9 rfl (fun h6=>?_) (fun h6=>?_)
   ·
    have h6':=a8 h6
    refine t9<|rA<|c9 ?_
    refine tk Tryz.func127 (.tmp rfl .nil) ?_ <;>(try clear ih0)
    all_goals(refine K7 ?_;(rw [vP (by assumption) (by assumption)];done))
   ·
    have h6':=d8 h6
    refine m9<|k9<|t9<|rA<|c9<|p9 ?_
    refine J9 (fun m=>⟨[(3,some (.c (.ptr 0 0))),(5,some (.c (.t none (.v (.int .i64 ((m:Int)))))))],[(0,some (.box [.t none (.v (.int .i64 r)),.t none (.sl 1 f9 ts)]))],1⟩:Nat→St) (fun m=>m≤ts.length∧∀j z,j < m→ts[j]? =some z→(fun t=>!L2 t) z=false) (fun m=>ts.length - m) 0 ⟨⟨rfl,⟨rfl,trivial⟩⟩,⟨rfl,trivial⟩,rfl⟩ (by exact⟨Nat.zero_le _,fun j z h=>by omega⟩) ?_
    rintro m hI ih0
    try dsimp only at hI ih0
    obtain⟨i1,i2⟩:=hI
    refine k9<|t9<|rM ?_
    refine rF 1 ?_
    refine rL ?_
    refine d9 (P9 rfl rfl rfl) ?_
    refine rB<|c9 ?_
    refine j9 rfl (fun h7=>?_) (fun h7=>?_)
    ·
     have h7':=a8 h7
     refine m9<|k9<|p9<|t9<|rF 1 ?_
     refine rL ?_
     refine rM ?_
     obtain⟨z8,hz9,b10⟩:=v9 (xs:=ts) (n:=(m:Int)) (by omega) (by omega)
     refine d9 (Q9 rfl (by kernel_rfl) rfl rfl b10 hz9) ?_
     refine d9 (i8 rfl (by kernel_rfl) rfl rfl) ?_
     refine d9 (n9 1 1 false (H9 Tryz.func48) (v6 z8 (-10) 4) rfl (.cons rfl (.c .t0) (.cons rfl (.c .t0) (.cons rfl (.c .t0) .nil))) rfl rfl rfl) ?_
     refine d9 (E8 rfl rfl) ?_
     refine c9 ?_
     refine j9 rfl (fun h11=>?_) (fun h11=>?_)
     ·
      have h11':=d8 (d4 h11)
      refine t9<|rA<|c9 ?_
      refine tk Tryz.func127 (.tmp rfl .nil) ?_ <;>(try clear ih0)
      all_goals(refine K7 ?_;(rw [FT (by assumption) (by simp only [IntKind.wrap_i64] at *;omega) (by assumption) (by omega),s8 (p:=fun t=>!L2 t) (by assumption) (by simp only [L2,Bool.not_eq_true'];exact decide_eq_false (by assumption))];rfl))
     ·
      have h11':=a8 (Y5 h11)
      refine m9<|i9<|l9<|rM ?_
      refine rB ?_
      refine rA<|c9 ?_
      refine Z9 ?_ (ih0 (m + 1) (by(try dsimp only);omega) (by(try dsimp only);exact⟨by omega,p5 i2 (by assumption) rfl (by simp only [L2,Bool.not_eq_false'];exact decide_eq_true (by assumption))⟩))
      exact⟨⟨rfl,⟨(L7 (n8 (by omega) (by omega))),trivial⟩⟩,⟨rfl,trivial⟩,rfl⟩
    ·
     have h7':=d8 h7
     refine N9 rfl<|t9<|rA<|c9 ?_
     refine tk Tryz.func127 (.tmp rfl .nil) ?_ <;>(try clear ih0)
     all_goals(refine K7 ?_;(rw [FT (by assumption) (by simp only [IntKind.wrap_i64] at *;omega) (by assumption) (by omega),n4 (p:=fun t=>!L2 t) i2 (by omega)];rfl))
  ·
   have g2':=d8 (d4 g2)
   refine dG 14 (nc g2) (fun _=>?_)
   refine dG 15 (nc g2) (fun _=>?_)
   refine dG 16 (nc g2) (fun _=>?_)
   refine dG 17 (nc g2) (fun _=>?_)
   refine dG 18 (nc g2) (fun _=>?_)
   refine dG 19 (nc g2) (fun _=>?_)
   refine dG 20 (nc g2) (fun _=>?_)
   refine dG 21 (nc g2) (fun _=>?_)
   refine dG 22 (nc g2) (fun _=>?_)
   refine dT 23 rfl (C8 rfl g2 rfl) ?_
   refine dE ?_
   refine j9 rfl (fun _=>?_) (nc rfl)
   refine t9<|rA<|c9 ?_
   refine tk Tryz.func127 (.tmp rfl .nil) ?_ <;>(try clear ih0)
   all_goals(refine K7 ?_;(rw [HQ (by simp only [IntKind.wrap_i64] at *;omega)];done))
 ·
  have g1':=(d4 g1)
  refine dG 5 (nc g1) (fun _=>?_)
  refine dG 6 (nc g1) (fun _=>?_)
  refine dG 7 (nc g1) (fun _=>?_)
  refine dG 8 (nc g1) (fun _=>?_)
  refine dG 9 (nc g1) (fun _=>?_)
  refine dG 10 (nc g1) (fun _=>?_)
  refine dT 11 rfl (C8 rfl g1 rfl) ?_
  refine dT 12 rfl pM ?_
  refine dG 13 (nc rfl) (fun _=>?_)
  refine dG 14 (nc rfl) (fun _=>?_)
  refine dG 15 (nc rfl) (fun _=>?_)
  refine dG 16 (nc rfl) (fun _=>?_)
  refine dG 17 (nc rfl) (fun _=>?_)
  refine dG 18 (nc rfl) (fun _=>?_)
  refine dG 19 (nc rfl) (fun _=>?_)
  refine dG 20 (nc rfl) (fun _=>?_)
  refine dG 21 (nc rfl) (fun _=>?_)
  refine dG 22 (nc rfl) (fun _=>?_)
  refine dT 23 rfl (C8 rfl rfl rfl) ?_
  refine dE ?_
  refine j9 rfl (fun _=>?_) (nc rfl)
  refine t9<|rA<|c9 ?_
  refine tk Tryz.func127 (.tmp rfl .nil) ?_ <;>(try clear ih0)
  all_goals(refine K7 ?_;(rw [pP (by assumption)];done))
theorem L0 (l:List Int)(v:Int)(hl:l.length≤4611686018427387904):Pu Tryz.prog 129 [.c (.t none (.sl 1 f9 l)),.c (.t none (.v (.int .i64 v)))] [] 0 (.c (.t none (.v (.bool (zV l v))))):=by
 refine S7 Tryz.func129 fun w S=>?_
 refine t9<|rA<|c9<|k9<|t9 ?_
 refine rA<|c9<|p9 ?_
 refine J9 (fun m=>⟨[(0,some (.c (.t none (.sl 1 f9 l)))),(1,some (.c (.t none (.v (.int .i64 v))))),(5,some (.c (.t none (.v (.int .i64 ((m:Int)))))))],[],0⟩:Nat→St) (fun m=>m≤l.length∧∀j z,j < m→l[j]? =some z→(fun y=>decide (y=v)) z=false) (fun m=>l.length - m) 0 ⟨⟨rfl,⟨rfl,⟨rfl,trivial⟩⟩⟩,trivial,rfl⟩ (by exact⟨Nat.zero_le _,fun j z h=>by omega⟩) ?_
 rintro m hI ih0
 try dsimp only at hI ih0
 obtain⟨i1,i2⟩:=hI
 refine k9<|t9<|rM ?_
 refine rM ?_
 refine d9 (P9 rfl rfl rfl) ?_
 refine rB<|c9 ?_
 refine j9 rfl (fun h1=>?_) (fun h1=>?_)
 ·
  have h1':=a8 h1
  refine m9<|k9<|p9<|t9<|rM ?_
  refine rM ?_
  obtain⟨z2,hz3,b4⟩:=v9 (xs:=l) (n:=(m:Int)) (by omega) (by omega)
  refine d9 (Q9 rfl (by kernel_rfl) rfl rfl b4 hz3) ?_
  refine d9 (i8 rfl (by kernel_rfl) rfl rfl) ?_
  refine rM ?_
  refine rB<|c9 ?_
  refine j9 rfl (fun h5=>?_) (fun h5=>?_)
  ·
   have h5':=a8 h5
   refine t9<|rA<|c9 ?_
   refine tk Tryz.func129 (.tmp rfl .nil) ?_ <;>(try clear ih0)
   all_goals(refine K7 ?_;exact(s8 (p:=fun y=>decide (y=v)) (by assumption) (decide_eq_true (by omega))).symm)
  ·
   have h5':=d8 h5
   refine m9<|i9<|l9<|rM ?_
   refine rB ?_
   refine rA<|c9 ?_
   refine Z9 ?_ (ih0 (m + 1) (by(try dsimp only);omega) (by(try dsimp only);exact⟨by omega,p5 i2 (by assumption) rfl (decide_eq_false (by omega))⟩))
   exact⟨⟨rfl,⟨rfl,⟨(L7 (n8 (by omega) (by omega))),trivial⟩⟩⟩,trivial,rfl⟩
 ·
  have h1':=d8 h1
  refine N9 rfl<|t9<|rA<|c9 ?_
  refine tk Tryz.func129 (.tmp rfl .nil) ?_ <;>(try clear ih0)
  all_goals(refine K7 ?_;exact(n4 (p:=fun y=>decide (y=v)) i2 (by omega)).symm)
theorem y5 (rs:T9)(a0:List (Int ×(List Int)))(a1:List (Int ×(List Int)))(a2:Bool)(a3:Int)(a4:Int)(hrs:rs.length≤4611686018427387904)(hs:N8 (fun(x:Int ×(List Int))=>x.2.length) a0 + N8 (fun(x:Int ×(List Int))=>x.2.length) a1≤1048576):Pu Tryz.prog 65 [.c (.t none (.sl 3 (j8 Y9 f9 U9) rs)),.agg [.t none (.sl 2 (y9 f9 (x9 1 f9)) a0),.t none (.sl 2 (y9 f9 (x9 1 f9)) a1),.t none (.v (.bool a2)),.t none (.v (.int .i64 a3)),.t none (.v (.int .i64 a4))]] [] 0 (.c (.t none (.v (.bool (P6 rs a0 a1 a2 a3 a4))))):=by
 refine S7 Tryz.func65 fun w S=>?_
 have g0:=I8 (f:=(fun(x:Int ×(List Int))=>x.2.length)) (l:=a0);have g1:=I8 (f:=(fun(x:Int ×(List Int))=>x.2.length)) (l:=a1);have v0:=Q7 (I9 a0);have v1:=F7 a0
 refine t9 ?_
 refine d9 (m8 0 rfl rfl rfl rfl) ?_
 refine rA<|c9<|k9<|t9 ?_
 refine rF 0 ?_
 refine rL ?_
 refine d9 (P9 rfl rfl rfl) ?_
 refine d9 (n9 1 1 false (H9 Tryz.func48) (v6 ((a0.length:Int)) 1 2) rfl (.cons rfl (.c .t0) (.cons rfl (.c .t0) (.cons rfl (.c .t0) .nil))) rfl rfl rfl) ?_
 refine d9 (E8 rfl rfl) ?_
 refine c9 ?_
 refine j9 rfl (fun h1=>?_) (fun h1=>?_)
 ·
  have h1':=d8 (d4 h1)
  refine t9<|rA<|c9 ?_
  refine tk Tryz.func65 (.tmp rfl .nil) ?_ <;>(try clear ih0) <;>(try clear ih1)
  all_goals(refine K7 ?_;(try(have qA:=iA (by omega)));(try(have qK:=kA (by omega)));(try(have qB:=s8 (p:=H7 rs) (l:=a0) (m:=m) (by assumption) (by unfold H7;grind)));(try(have qC:=s8 (p:=H7 rs) (l:=a1) (m:=n) (by assumption) (by unfold H7;grind)));(try(have qS:=y8 (rs:=rs) (r:=(by assumption).1) (ts:=(by assumption).2) (by assumption);have qD:=s8 (p:=Z0 rs) (l:=a1) (m:=n) (by assumption) (by grind)));clear hs g0 g1 v0 v1;unfold P6 R7;grind)
 ·
  have h1':=a8 (Y5 h1)
  refine m9<|k9<|t9<|rA<|c9<|p9 ?_
  refine J9 (fun m=>⟨[(0,some (.c (.t none (.sl 3 (j8 Y9 f9 U9) rs)))),(3,some (.c (.ptr 0 0))),(5,some (.c (.t none (.v (.int .i64 ((m:Int)))))))],[(0,some (.box [.t none (.sl 2 (y9 f9 (x9 1 f9)) a0),.t none (.sl 2 (y9 f9 (x9 1 f9)) a1),.t none (.v (.bool a2)),.t none (.v (.int .i64 a3)),.t none (.v (.int .i64 a4))]))],1⟩:Nat→St) (fun m=>m≤a0.length∧∀j z,j < m→a0[j]? =some z→H7 rs z=false) (fun m=>a0.length - m) 0 ⟨⟨rfl,⟨rfl,⟨rfl,trivial⟩⟩⟩,⟨rfl,trivial⟩,rfl⟩ (by exact⟨Nat.zero_le _,fun j z h=>by omega⟩) ?_
  rintro m hI ih0
  try dsimp only at hI ih0
  obtain⟨i1,i2⟩:=hI;have iA:a0.length≤m→a0.any (H7 rs)=false:=fun e=>n4 i2 e
  refine k9<|t9<|rM ?_
  refine rF 0 ?_
  refine rL ?_
  refine d9 (P9 rfl rfl rfl) ?_
  refine rB<|c9 ?_
  refine j9 rfl (fun h2=>?_) (fun h2=>?_)
  ·
   have h2':=a8 h2
   refine m9<|k9<|p9<|t9<|rM ?_
   refine rF 0 ?_
   refine rL ?_
   refine rM ?_
   obtain⟨z3,hz4,b5⟩:=v9 (xs:=a0) (n:=(m:Int)) (by omega) (by omega)
   refine d9 (Q9 rfl (by kernel_rfl) rfl rfl b5 hz4) ?_
   refine d9 (m6 rfl (n:=2) (by kernel_rfl) (by kernel_rfl) rfl rfl) ?_
   refine d9 (n9 1 1 false (H9 Tryz.func127) (B3 rs z3.1 z3.2 (by omega) (by(have e1:=X7 (f:=(fun(x:Int ×(List Int))=>x.2.length)) (l:=a0) (m:=m) (by assumption);(try dsimp only at e1);omega))) rfl (.cons rfl (.c .t0) (.cons rfl (.agg (.cons .t0 (.cons .t0 .nil))) .nil)) rfl rfl rfl) ?_
   refine d9 (E8 rfl rfl) ?_
   refine c9 ?_
   refine j9 rfl (fun h6=>?_) (fun h6=>?_)
   ·
    have h6':=(d4 h6)
    refine t9<|rA<|c9 ?_
    refine tk Tryz.func65 (.tmp rfl .nil) ?_ <;>(try clear ih0) <;>(try clear ih1)
    all_goals(refine K7 ?_;(try(have qA:=iA (by omega)));(try(have qK:=kA (by omega)));(try(have qB:=s8 (p:=H7 rs) (l:=a0) (m:=m) hz4 (by unfold H7;grind)));(try(have qC:=s8 (p:=H7 rs) (l:=a1) (m:=n) hz4 (by unfold H7;grind)));(try(have qS:=y8 (rs:=rs) (r:=z3.1) (ts:=z3.2) (by assumption);have qD:=s8 (p:=Z0 rs) (l:=a1) (m:=n) hz4 (by grind)));clear hs g0 g1 v0 v1;unfold P6 R7;grind)
   ·
    have h6':=(Y5 h6)
    refine m9<|i9<|l9<|rM ?_
    refine rB ?_
    refine rA<|c9 ?_
    refine Z9 ?_ (ih0 (m + 1) (by(try dsimp only);omega) (by(try dsimp only);exact⟨by omega,p5 i2 (by assumption) rfl (by unfold H7;grind)⟩))
    exact⟨⟨rfl,⟨rfl,⟨(L7 (n8 (by omega) (by omega))),trivial⟩⟩⟩,⟨rfl,trivial⟩,rfl⟩
  ·
   have h2':=d8 h2
   refine N9 rfl<|k9<|t9<|rF 2 ?_
   refine rL<|c9 ?_
   refine j9 rfl (fun h7=>?_) (fun h7=>?_)
   ·
    have h7':=h7
    refine t9<|rF 0 ?_
    refine rL ?_
    refine d9 (n9 1 2 false (H9 Tryz.func128) (N5 a0 (by omega)) rfl (.cons rfl (.c .t0) .nil) rfl rfl rfl) ?_
    refine rA<|P8 ?_
    refine rF 1 ?_
    refine rL ?_
    refine d9 (P9 rfl rfl rfl) ?_
    refine rB ?_
    refine rM ?_
    refine A9 (fun g8=>?_) (fun g8=>?_)
    ·
     have g8':=a8 g8
     refine rM ?_
     refine A9 (fun _=>?_) (nc g8)
     refine rF 3 ?_
     refine A9 (fun _=>?_) (nc g8)
     refine rL ?_
     refine A9 (fun _=>?_) (nc g8)
     refine d9 (n9 2 2 false (H9 Tryz.func129) (L0 (O9 (I9 a0)) a3 (by omega)) rfl (.cons rfl (.c (.own rfl)) (.cons rfl (.c .t0) .nil)) rfl rfl rfl) ?_
     refine d9 (M9 rfl rfl g8 rfl) ?_
     refine rM ?_
     refine A9 (fun g9=>?_) (fun g9=>?_)
     ·
      have g9':=g9
      refine rM ?_
      refine A9 (fun _=>?_) (nc g9)
      refine rF 4 ?_
      refine A9 (fun _=>?_) (nc g9)
      refine rL ?_
      refine A9 (fun _=>?_) (nc g9)
      refine d9 (n9 2 2 false (H9 Tryz.func129) (L0 (O9 (I9 a0)) a4 (by omega)) rfl (.cons rfl (.c (.own rfl)) (.cons rfl (.c .t0) .nil)) rfl rfl rfl) ?_
      refine d9 (M9 rfl rfl g9 rfl) ?_
      refine rM ?_
      refine A9 (fun g10=>?_) (fun g10=>?_)
      ·
       have g10':=g10
       refine rF 3 ?_
       refine A9 (fun _=>?_) (nc g10)
       refine rL ?_
       refine A9 (fun _=>?_) (nc g10)
       refine rF 4 ?_
       refine A9 (fun _=>?_) (nc g10)
       refine rL ?_
       refine A9 (fun _=>?_) (nc g10)
       refine rB ?_
       refine d9 (M9 rfl rfl g10 rfl) ?_
       refine rA<|c9 ?_
       refine tk Tryz.func65 (.tmp rfl .nil) ?_ <;>(try clear ih0) <;>(try clear ih1)
       all_goals(refine K7 ?_;(try(have qA:=iA (by omega)));(try(have qK:=kA (by omega)));(try(have qB:=s8 (p:=H7 rs) (l:=a0) (m:=m) (by assumption) (by unfold H7;grind)));(try(have qC:=s8 (p:=H7 rs) (l:=a1) (m:=n) (by assumption) (by unfold H7;grind)));(try(have qS:=y8 (rs:=rs) (r:=(by assumption).1) (ts:=(by assumption).2) (by assumption);have qD:=s8 (p:=Z0 rs) (l:=a1) (m:=n) (by assumption) (by grind)));clear hs g0 g1 v0 v1;unfold P6 R7;grind)
      ·
       have g10':=g10
       refine A9 (C9 g10) (fun _=>?_)
       refine A9 (C9 g10) (fun _=>?_)
       refine A9 (C9 g10) (fun _=>?_)
       refine A9 (C9 g10) (fun _=>?_)
       refine d9 (G9 rfl rfl g10 rfl) ?_
       refine rA<|c9 ?_
       refine tk Tryz.func65 (.tmp rfl .nil) ?_ <;>(try clear ih0) <;>(try clear ih1)
       all_goals(refine K7 ?_;(try(have qA:=iA (by omega)));(try(have qK:=kA (by omega)));(try(have qB:=s8 (p:=H7 rs) (l:=a0) (m:=m) (by assumption) (by unfold H7;grind)));(try(have qC:=s8 (p:=H7 rs) (l:=a1) (m:=n) (by assumption) (by unfold H7;grind)));(try(have qS:=y8 (rs:=rs) (r:=(by assumption).1) (ts:=(by assumption).2) (by assumption);have qD:=s8 (p:=Z0 rs) (l:=a1) (m:=n) (by assumption) (by grind)));clear hs g0 g1 v0 v1;unfold P6 R7;grind)
     ·
      have g9':=g9
      refine A9 (C9 g9) (fun _=>?_)
      refine A9 (C9 g9) (fun _=>?_)
      refine A9 (C9 g9) (fun _=>?_)
      refine d9 (G9 rfl rfl g9 rfl) ?_
      refine rM ?_
      refine A9 (C9 rfl) (fun _=>?_)
      refine A9 (C9 rfl) (fun _=>?_)
      refine A9 (C9 rfl) (fun _=>?_)
      refine A9 (C9 rfl) (fun _=>?_)
      refine A9 (C9 rfl) (fun _=>?_)
      refine d9 (G9 rfl rfl rfl rfl) ?_
      refine rA<|c9 ?_
      refine tk Tryz.func65 (.tmp rfl .nil) ?_ <;>(try clear ih0) <;>(try clear ih1)
      all_goals(refine K7 ?_;(try(have qA:=iA (by omega)));(try(have qK:=kA (by omega)));(try(have qB:=s8 (p:=H7 rs) (l:=a0) (m:=m) (by assumption) (by unfold H7;grind)));(try(have qC:=s8 (p:=H7 rs) (l:=a1) (m:=n) (by assumption) (by unfold H7;grind)));(try(have qS:=y8 (rs:=rs) (r:=(by assumption).1) (ts:=(by assumption).2) (by assumption);have qD:=s8 (p:=Z0 rs) (l:=a1) (m:=n) (by assumption) (by grind)));clear hs g0 g1 v0 v1;unfold P6 R7;grind)
    ·
     have g8':=d8 g8
     refine A9 (C9 g8) (fun _=>?_)
     refine A9 (C9 g8) (fun _=>?_)
     refine A9 (C9 g8) (fun _=>?_)
     refine d9 (G9 rfl rfl g8 rfl) ?_
     refine rM ?_
     refine A9 (C9 rfl) (fun _=>?_)
     refine A9 (C9 rfl) (fun _=>?_)
     refine A9 (C9 rfl) (fun _=>?_)
     refine A9 (C9 rfl) (fun _=>?_)
     refine d9 (G9 rfl rfl rfl rfl) ?_
     refine rM ?_
     refine A9 (C9 rfl) (fun _=>?_)
     refine A9 (C9 rfl) (fun _=>?_)
     refine A9 (C9 rfl) (fun _=>?_)
     refine A9 (C9 rfl) (fun _=>?_)
     refine A9 (C9 rfl) (fun _=>?_)
     refine d9 (G9 rfl rfl rfl rfl) ?_
     refine rA<|c9 ?_
     refine tk Tryz.func65 (.tmp rfl .nil) ?_ <;>(try clear ih0) <;>(try clear ih1)
     all_goals(refine K7 ?_;(try(have qA:=iA (by omega)));(try(have qK:=kA (by omega)));(try(have qB:=s8 (p:=H7 rs) (l:=a0) (m:=m) (by assumption) (by unfold H7;grind)));(try(have qC:=s8 (p:=H7 rs) (l:=a1) (m:=n) (by assumption) (by unfold H7;grind)));(try(have qS:=y8 (rs:=rs) (r:=(by assumption).1) (ts:=(by assumption).2) (by assumption);have qD:=s8 (p:=Z0 rs) (l:=a1) (m:=n) (by assumption) (by grind)));clear hs g0 g1 v0 v1;unfold P6 R7;grind)
   ·
    have h7':=h7
    refine m9<|k9<|t9<|rA<|c9<|p9 ?_
    refine J9 (fun n=>⟨[(0,some (.c (.t none (.sl 3 (j8 Y9 f9 U9) rs)))),(3,some (.c (.ptr 0 0))),(7,some (.c (.t none (.v (.int .i64 ((n:Int)))))))],[(0,some (.box [.t none (.sl 2 (y9 f9 (x9 1 f9)) a0),.t none (.sl 2 (y9 f9 (x9 1 f9)) a1),.t none (.v (.bool a2)),.t none (.v (.int .i64 a3)),.t none (.v (.int .i64 a4))]))],1⟩:Nat→St) (fun n=>n≤a1.length∧∀j z,j < n→a1[j]? =some z→(H7 rs z||Z0 rs z)=false) (fun n=>a1.length - n) 0 ⟨⟨rfl,⟨rfl,⟨rfl,trivial⟩⟩⟩,⟨rfl,trivial⟩,rfl⟩ (by exact⟨Nat.zero_le _,fun j z h=>by omega⟩) ?_
    rintro n hI ih1
    try dsimp only at hI ih1
    obtain⟨k1,k2⟩:=hI;(have kA:a1.length≤n→a1.any (H7 rs)=false∧a1.any (Z0 rs)=false:=fun e=>⟨n4 (fun j z h h2=>by have:=k2 j z h h2;simp_all) e,n4 (fun j z h h2=>by have:=k2 j z h h2;simp_all) e⟩)
    refine k9<|t9<|rM ?_
    refine rF 1 ?_
    refine rL ?_
    refine d9 (P9 rfl rfl rfl) ?_
    refine rB<|c9 ?_
    refine j9 rfl (fun h11=>?_) (fun h11=>?_)
    ·
     have h11':=a8 h11
     refine m9<|k9<|p9<|t9<|rM ?_
     refine rF 1 ?_
     refine rL ?_
     refine rM ?_
     obtain⟨z12,hz13,b14⟩:=v9 (xs:=a1) (n:=(n:Int)) (by omega) (by omega)
     refine d9 (Q9 rfl (by kernel_rfl) rfl rfl b14 hz13) ?_
     refine d9 (m6 rfl (n:=2) (by kernel_rfl) (by kernel_rfl) rfl rfl) ?_
     refine d9 (n9 1 1 false (H9 Tryz.func127) (B3 rs z12.1 z12.2 (by omega) (by(have e1:=X7 (f:=(fun(x:Int ×(List Int))=>x.2.length)) (l:=a1) (m:=n) (by assumption);(try dsimp only at e1);omega))) rfl (.cons rfl (.c .t0) (.cons rfl (.agg (.cons .t0 (.cons .t0 .nil))) .nil)) rfl rfl rfl) ?_
     refine d9 (E8 rfl rfl) ?_
     refine rM ?_
     refine A9 (fun g15=>?_) (fun g15=>?_)
     ·
      have g15':=(Y5 g15)
      refine rM ?_
      refine A9 (fun _=>?_) (C9 g15)
      refine rF 1 ?_
      refine A9 (fun _=>?_) (C9 g15)
      refine rL ?_
      refine A9 (fun _=>?_) (C9 g15)
      refine rM ?_
      refine A9 (fun _=>?_) (C9 g15)
      refine d9 (Q9 rfl (by kernel_rfl) rfl rfl b14 hz13) ?_
      refine A9 (fun _=>?_) (C9 g15)
      refine d9 (wZ rfl (off:=0) (by kernel_rfl) rfl) ?_
      refine A9 (fun _=>?_) (C9 g15)
      refine d9 (i8 rfl (by kernel_rfl) rfl rfl) ?_
      refine A9 (fun _=>?_) (C9 g15)
      obtain⟨z16,hz17,b18⟩:=v9 (xs:=rs) (n:=z12.1) (by exact(rP (by assumption)).1) (by exact(rP (by assumption)).2)
      refine d9 (Q9 rfl (by kernel_rfl) rfl rfl b18 hz17) ?_
      refine A9 (fun _=>?_) (C9 g15)
      refine d9 (wZ rfl (off:=2) (by kernel_rfl) rfl) ?_
      refine A9 (fun _=>?_) (C9 g15)
      refine d9 (i8 rfl (by kernel_rfl) rfl rfl) ?_
      refine d9 (G9 rfl rfl g15 rfl) ?_
      refine c9 ?_
      refine j9 rfl (fun h19=>?_) (fun h19=>?_)
      ·
       have h19':=h19
       refine t9<|rA<|c9 ?_
       refine tk Tryz.func65 (.tmp rfl .nil) ?_ <;>(try clear ih0) <;>(try clear ih1)
       all_goals(refine K7 ?_;(try(have qA:=iA (by omega)));(try(have qK:=kA (by omega)));(try(have qB:=s8 (p:=H7 rs) (l:=a0) (m:=m) hz13 (by unfold H7;grind)));(try(have qC:=s8 (p:=H7 rs) (l:=a1) (m:=n) hz13 (by unfold H7;grind)));(try(have qS:=y8 (rs:=rs) (r:=z12.1) (ts:=z12.2) hz17;have qD:=s8 (p:=Z0 rs) (l:=a1) (m:=n) hz13 (by grind)));clear hs g0 g1 v0 v1;unfold P6 R7;grind)
      ·
       have h19':=h19
       refine m9<|i9<|l9<|rM ?_
       refine rB ?_
       refine rA<|c9 ?_
       refine Z9 ?_ (ih1 (n + 1) (by(try dsimp only);omega) (by(try dsimp only);exact⟨by omega,p5 (p:=fun z=>H7 rs z||Z0 rs z) k2 (by assumption) rfl (by have q1:=y8 (rs:=rs) (r:=z12.1) (ts:=z12.2) hz17;unfold H7;grind)⟩))
       exact⟨⟨rfl,⟨rfl,⟨(L7 (n8 (by omega) (by omega))),trivial⟩⟩⟩,⟨rfl,trivial⟩,rfl⟩
     ·
      have g15':=(d4 g15)
      refine A9 (nc g15) (fun _=>?_)
      refine A9 (nc g15) (fun _=>?_)
      refine A9 (nc g15) (fun _=>?_)
      refine A9 (nc g15) (fun _=>?_)
      refine A9 (nc g15) (fun _=>?_)
      refine A9 (nc g15) (fun _=>?_)
      refine A9 (nc g15) (fun _=>?_)
      refine A9 (nc g15) (fun _=>?_)
      refine A9 (nc g15) (fun _=>?_)
      refine d9 (M9 rfl rfl g15 rfl) ?_
      refine c9 ?_
      refine j9 rfl (fun _=>?_) (nc rfl)
      refine t9<|rA<|c9 ?_
      refine tk Tryz.func65 (.tmp rfl .nil) ?_ <;>(try clear ih0) <;>(try clear ih1)
      all_goals(refine K7 ?_;(try(have qA:=iA (by omega)));(try(have qK:=kA (by omega)));(try(have qB:=s8 (p:=H7 rs) (l:=a0) (m:=m) hz13 (by unfold H7;grind)));(try(have qC:=s8 (p:=H7 rs) (l:=a1) (m:=n) hz13 (by unfold H7;grind)));(try(have qS:=y8 (rs:=rs) (r:=z12.1) (ts:=z12.2) (by assumption);have qD:=s8 (p:=Z0 rs) (l:=a1) (m:=n) hz13 (by grind)));clear hs g0 g1 v0 v1;unfold P6 R7;grind)
    ·
     have h11':=d8 h11
     refine N9 rfl<|t9<|rF 1 ?_
     refine rL ?_
     refine d9 (P9 rfl rfl rfl) ?_
     refine d9 (n9 1 1 false (H9 Tryz.func48) (v6 ((a1.length:Int)) 1 2) rfl (.cons rfl (.c .t0) (.cons rfl (.c .t0) (.cons rfl (.c .t0) .nil))) rfl rfl rfl) ?_
     refine rM ?_
     refine A9 (fun g20=>?_) (fun g20=>?_)
     ·
      have g20':=a8 g20
      refine rF 3 ?_
      refine A9 (fun _=>?_) (nc g20)
      refine rL ?_
      refine A9 (fun _=>?_) (nc g20)
      refine rB ?_
      refine d9 (M9 rfl rfl g20 rfl) ?_
      refine rM ?_
      refine A9 (fun g21=>?_) (fun g21=>?_)
      ·
       have g21':=a8 g21
       refine rF 4 ?_
       refine A9 (fun _=>?_) (nc g21)
       refine rL ?_
       refine A9 (fun _=>?_) (nc g21)
       refine rB ?_
       refine d9 (M9 rfl rfl g21 rfl) ?_
       refine rA<|c9 ?_
       refine tk Tryz.func65 (.tmp rfl .nil) ?_ <;>(try clear ih0) <;>(try clear ih1)
       all_goals(refine K7 ?_;(try(have qA:=iA (by omega)));(try(have qK:=kA (by omega)));(try(have qB:=s8 (p:=H7 rs) (l:=a0) (m:=m) (by assumption) (by unfold H7;grind)));(try(have qC:=s8 (p:=H7 rs) (l:=a1) (m:=n) (by assumption) (by unfold H7;grind)));(try(have qS:=y8 (rs:=rs) (r:=(by assumption).1) (ts:=(by assumption).2) (by assumption);have qD:=s8 (p:=Z0 rs) (l:=a1) (m:=n) (by assumption) (by grind)));clear hs g0 g1 v0 v1;unfold P6 R7;grind)
      ·
       have g21':=d8 g21
       refine A9 (C9 g21) (fun _=>?_)
       refine A9 (C9 g21) (fun _=>?_)
       refine d9 (G9 rfl rfl g21 rfl) ?_
       refine rA<|c9 ?_
       refine tk Tryz.func65 (.tmp rfl .nil) ?_ <;>(try clear ih0) <;>(try clear ih1)
       all_goals(refine K7 ?_;(try(have qA:=iA (by omega)));(try(have qK:=kA (by omega)));(try(have qB:=s8 (p:=H7 rs) (l:=a0) (m:=m) (by assumption) (by unfold H7;grind)));(try(have qC:=s8 (p:=H7 rs) (l:=a1) (m:=n) (by assumption) (by unfold H7;grind)));(try(have qS:=y8 (rs:=rs) (r:=(by assumption).1) (ts:=(by assumption).2) (by assumption);have qD:=s8 (p:=Z0 rs) (l:=a1) (m:=n) (by assumption) (by grind)));clear hs g0 g1 v0 v1;unfold P6 R7;grind)
     ·
      have g20':=d8 g20
      refine A9 (C9 g20) (fun _=>?_)
      refine A9 (C9 g20) (fun _=>?_)
      refine d9 (G9 rfl rfl g20 rfl) ?_
      refine rM ?_
      refine A9 (C9 rfl) (fun _=>?_)
      refine A9 (C9 rfl) (fun _=>?_)
      refine A9 (C9 rfl) (fun _=>?_)
      refine d9 (G9 rfl rfl rfl rfl) ?_
      refine rA<|c9 ?_
      refine tk Tryz.func65 (.tmp rfl .nil) ?_ <;>(try clear ih0) <;>(try clear ih1)
      all_goals(refine K7 ?_;(try(have qA:=iA (by omega)));(try(have qK:=kA (by omega)));(try(have qB:=s8 (p:=H7 rs) (l:=a0) (m:=m) (by assumption) (by unfold H7;grind)));(try(have qC:=s8 (p:=H7 rs) (l:=a1) (m:=n) (by assumption) (by unfold H7;grind)));(try(have qS:=y8 (rs:=rs) (r:=(by assumption).1) (ts:=(by assumption).2) (by assumption);have qD:=s8 (p:=Z0 rs) (l:=a1) (m:=n) (by assumption) (by grind)));clear hs g0 g1 v0 v1;unfold P6 R7;grind)
theorem Q0 (rs:T9)(l:List Y1)(hrs:rs.length≤4611686018427387904)(hs:N8 (fun(x:(List (Int ×(List Int))) ×(List (Int ×(List Int))) × Bool × Int × Int)=>(N8 (fun(x:Int ×(List Int))=>x.2.length) x.1) +(N8 (fun(x:Int ×(List Int))=>x.2.length) x.2.1)) l≤1048576):Pu Tryz.prog 27 [.c (.t none (.sl 3 (j8 Y9 f9 U9) rs)),.c (.t none (.sl 5 (TY (x9 2 (y9 f9 (x9 1 f9))) (x9 2 (y9 f9 (x9 1 f9))) U9 f9 f9) l))] [] 0 (.c (.t none (.v (.bool (gZ rs l))))):=by
 refine S7 Tryz.func27 fun w S=>?_
 have gl:=I8 (f:=(fun(x:(List (Int ×(List Int))) ×(List (Int ×(List Int))) × Bool × Int × Int)=>(N8 (fun(x:Int ×(List Int))=>x.2.length) x.1) +(N8 (fun(x:Int ×(List Int))=>x.2.length) x.2.1))) (l:=l)
 refine t9<|rA<|c9<|k9<|t9 ?_
 refine rA<|c9<|p9 ?_
 refine J9 (fun m=>⟨[(0,some (.c (.t none (.sl 3 (j8 Y9 f9 U9) rs)))),(1,some (.c (.t none (.sl 5 (TY (x9 2 (y9 f9 (x9 1 f9))) (x9 2 (y9 f9 (x9 1 f9))) U9 f9 f9) l)))),(5,some (.c (.t none (.v (.int .i64 ((m:Int)))))))],[],0⟩:Nat→St) (fun m=>m≤l.length∧∀j z,j < m→l[j]? =some z→AU rs z=false) (fun m=>l.length - m) 0 ⟨⟨rfl,⟨rfl,⟨rfl,trivial⟩⟩⟩,trivial,rfl⟩ (by exact⟨Nat.zero_le _,fun j z h=>by omega⟩) ?_
 rintro m hI ih0
 try dsimp only at hI ih0
 obtain⟨i1,i2⟩:=hI;have iA:l.length≤m→l.any (AU rs)=false:=fun e=>n4 i2 e
 refine k9<|t9<|rM ?_
 refine rM ?_
 refine d9 (P9 rfl rfl rfl) ?_
 refine rB<|c9 ?_
 refine j9 rfl (fun h1=>?_) (fun h1=>?_)
 ·
  have h1':=a8 h1
  refine m9<|k9<|p9<|t9<|rM ?_
  refine rM ?_
  refine rM ?_
  obtain⟨z2,hz3,b4⟩:=v9 (xs:=l) (n:=(m:Int)) (by omega) (by omega)
  refine d9 (Q9 rfl (by kernel_rfl) rfl rfl b4 hz3) ?_
  refine d9 (m6 rfl (n:=5) (by kernel_rfl) (by kernel_rfl) rfl rfl) ?_
  refine d9 (n9 0 0 false (H9 Tryz.func65) (y5 rs z2.1 z2.2.1 z2.2.2.1 z2.2.2.2.1 z2.2.2.2.2 (by omega) (by(have e1:=X7 (f:=(fun(x:(List (Int ×(List Int))) ×(List (Int ×(List Int))) × Bool × Int × Int)=>(N8 (fun(x:Int ×(List Int))=>x.2.length) x.1) +(N8 (fun(x:Int ×(List Int))=>x.2.length) x.2.1))) (l:=l) (m:=m) (by assumption);(try dsimp only at e1);omega))) rfl (.cons rfl (.c .t0) (.cons rfl (.agg (.cons .t0 (.cons .t0 (.cons .t0 (.cons .t0 (.cons .t0 .nil)))))) .nil)) rfl rfl rfl) ?_
  refine d9 (E8 rfl rfl) ?_
  refine c9 ?_
  refine j9 rfl (fun h5=>?_) (fun h5=>?_)
  ·
   have h5':=(d4 h5)
   refine t9<|rA<|c9 ?_
   refine tk Tryz.func27 (.tmp rfl .nil) ?_ <;>(try clear ih0)
   all_goals(refine K7 ?_;(try(have qA:=iA (by omega)));(try(have qB:=s8 (p:=AU rs) (l:=l) (m:=m) hz3 (by unfold AU;grind)));clear hs gl;unfold gZ;grind)
  ·
   have h5':=(Y5 h5)
   refine m9<|i9<|l9<|rM ?_
   refine rB ?_
   refine rA<|c9 ?_
   refine Z9 ?_ (ih0 (m + 1) (by(try dsimp only);omega) (by(try dsimp only);exact⟨by omega,p5 i2 (by assumption) rfl (by unfold AU;grind)⟩))
   exact⟨⟨rfl,⟨rfl,⟨(L7 (n8 (by omega) (by omega))),trivial⟩⟩⟩,trivial,rfl⟩
 ·
  have h1':=d8 h1
  refine N9 rfl<|t9<|rM ?_
  refine d9 (n9 0 0 false (H9 Tryz.func66) (r6 rs (by omega)) rfl (.cons rfl (.c .t0) .nil) rfl rfl rfl) ?_
  refine rM ?_
  refine A9 (fun g6=>?_) (fun g6=>?_)
  ·
   have g6':=g6
   refine rM ?_
   refine A9 (fun _=>?_) (nc g6)
   refine d9 (P9 rfl rfl rfl) ?_
   refine A9 (fun _=>?_) (nc g6)
   refine rB ?_
   refine d9 (M9 rfl rfl g6 rfl) ?_
   refine rA<|c9 ?_
   refine tk Tryz.func27 (.tmp rfl .nil) ?_ <;>(try clear ih0)
   all_goals(refine K7 ?_;(try(have qA:=iA (by omega)));(try(have qB:=s8 (p:=AU rs) (l:=l) (m:=m) (by assumption) (by unfold AU;grind)));clear hs gl;unfold gZ;grind)
  ·
   have g6':=g6
   refine A9 (C9 g6) (fun _=>?_)
   refine A9 (C9 g6) (fun _=>?_)
   refine d9 (G9 rfl rfl g6 rfl) ?_
   refine rA<|c9 ?_
   refine tk Tryz.func27 (.tmp rfl .nil) ?_ <;>(try clear ih0)
   all_goals(refine K7 ?_;(try(have qA:=iA (by omega)));(try(have qB:=s8 (p:=AU rs) (l:=l) (m:=m) (by assumption) (by unfold AU;grind)));clear hs gl;unfold gZ;grind)
theorem o5 (v:Int)(hv: -9223372036854775808≤v)(hv2:v≤9223372036854775807):Pu Tryz.prog 82 [.c (.t none (.v (.int .i64 v)))] [] 0 (.tup [(false,[.t none (.v (.int .i64 (if -40≤v∧v≤ -1 then -1 - v else 0)))]),(false,[.t none (.v (.bool (decide (-40≤v∧v≤ -1))))])]):=by
 refine S7 Tryz.func82 fun w S=>?_
 refine t9<|rA ?_
 refine rA<|c9<|k9<|t9 ?_
 refine rM ?_
 refine rB ?_
 refine rM ?_
 refine A9 (fun g1=>?_) (fun g1=>?_)
 ·
  have g1':=d8 g1
  refine rM ?_
  refine A9 (fun _=>?_) (C9 g1)
  refine rB ?_
  refine A9 (fun _=>?_) (C9 g1)
  refine d9 (n9 0 0 false (H9 Tryz.func48) (v6 (IntKind.i64.wrap ((-1) - v)) 0 39) rfl (.cons rfl (.c .t0) (.cons rfl (.c .t0) (.cons rfl (.c .t0) .nil))) rfl rfl rfl) ?_
  refine A9 (fun _=>?_) (C9 g1)
  refine d9 (E8 rfl rfl) ?_
  refine d9 (G9 rfl rfl g1 rfl) ?_
  refine c9 ?_
  refine j9 rfl (fun h2=>?_) (fun h2=>?_)
  ·
   have h2':=d8 (d4 h2)
   refine t9<|rA ?_
   refine rA<|c9 ?_
   refine tk Tryz.func82 (.tmp rfl (.tmp rfl .nil)) ?_
   all_goals(((have hn:¬(-40≤v∧v≤ -1):=by(simp only [IntKind.wrap_i64] at *;omega));(simp [hn];done)))
  ·
   have h2':=a8 (Y5 h2)
   refine m9<|t9<|rM ?_
   refine rB ?_
   refine rA ?_
   refine rA<|c9 ?_
   refine tk Tryz.func82 (.tmp rfl (.tmp rfl .nil)) ?_
   all_goals(((have hn:(-40≤v∧v≤ -1):=by(simp only [IntKind.wrap_i64] at *;omega));(have e:IntKind.i64.wrap (-1 - v)= -1 - v:=n8 (by omega) (by omega));(simp [hn,e];done)))
 ·
  have g1':=a8 g1
  refine A9 (nc g1) (fun _=>?_)
  refine A9 (nc g1) (fun _=>?_)
  refine A9 (nc g1) (fun _=>?_)
  refine d9 (M9 rfl rfl g1 rfl) ?_
  refine c9 ?_
  refine j9 rfl (fun _=>?_) (nc rfl)
  refine t9<|rA ?_
  refine rA<|c9 ?_
  refine tk Tryz.func82 (.tmp rfl (.tmp rfl .nil)) ?_
  all_goals(((have hn:¬(-40≤v∧v≤ -1):=by(simp only [IntKind.wrap_i64] at *;omega));(simp [hn];done)))
theorem E6 (v:Int)(hv: -9223372036854775808≤v)(hv2:v≤9223372036854775807):Pu Tryz.prog 149 [.c (.t none (.v (.int .i64 v)))] [] 0 (.c (.t none (.v (.bool (decide (-40≤v∧v≤9)))))):=by
 refine S7 Tryz.func149 fun w S=>?_
 refine t9<|rA<|P8 ?_
 refine rM ?_
 refine d9 (n9 0 0 false (H9 Tryz.func82) (o5 v (by omega) (by omega)) rfl (.cons rfl (.c .t0) .nil) rfl rfl rfl) ?_
 refine rM ?_
 refine d9 (D9 rfl rfl rfl rfl) ?_
 refine d9 (D9 rfl rfl rfl rfl) ?_
 refine rA ?_
 refine rA<|P8 ?_
 refine rM ?_
 refine rM ?_
 refine A9 (fun g1=>?_) (fun g1=>?_)
 ·
  have g1':=d8 g1
  refine rM ?_
  refine A9 (fun _=>?_) (C9 g1)
  refine d9 (n9 0 0 false (H9 Tryz.func48) (v6 v 0 9) rfl (.cons rfl (.c .t0) (.cons rfl (.c .t0) (.cons rfl (.c .t0) .nil))) rfl rfl rfl) ?_
  refine d9 (G9 rfl rfl g1 rfl) ?_
  refine rA<|c9 ?_
  refine tk Tryz.func149 (.tmp rfl .nil) ?_
  all_goals((exact VH (by omega)))
 ·
  have g1':=a8 g1
  refine A9 (nc g1) (fun _=>?_)
  refine d9 (M9 rfl rfl g1 rfl) ?_
  refine rA<|c9 ?_
  refine tk Tryz.func149 (.tmp rfl .nil) ?_
  all_goals((exact eH (by omega)))
theorem LW (rs:List (List UInt8 × Int × Bool))(r:Int)(ts:List Int)(hrs:rs.length≤4611686018427387904)(hts:ts.length≤4611686018427387904)(ho:∀x∈ts,B7 x):Pu Tryz.prog 89 [.c (.t none (.sl 3 (j8 Y9 f9 U9) rs)),.agg [.t none (.v (.int .i64 r)),.t none (.sl 1 f9 ts)]] [] 0 (.c (.t none (.v (.bool (K5 rs r ts))))):=by
 refine S7 Tryz.func89 fun w S=>?_
 refine t9 ?_
 refine d9 (m8 0 rfl rfl rfl rfl) ?_
 refine rA<|c9<|k9<|k9 ?_
 refine tY ?_
 refine dT 0 rfl pM ?_
 refine dO 1 rfl (n9 1 1 false (H9 Tryz.func66) (r6 rs (by omega)) rfl (.cons rfl (.c .t0) .nil) rfl rfl rfl) ?_
 refine dT 2 rfl (R3 rfl) ?_
 refine dT 3 rfl pM ?_
 refine dH 4 rfl (fun _=>pF 0) (fun g1=>?_) (fun g1=>?_)
 ·
  have g1':=(Y5 g1)
  refine dH 5 rfl (fun _=>pL) (fun _=>?_) (C9 g1)
  refine dH 6 rfl (fun _=>pM) (fun _=>?_) (C9 g1)
  refine dH 7 rfl (fun _=>X6 rfl rfl) (fun _=>?_) (C9 g1)
  refine dH 8 rfl (fun _=>pB) (fun _=>?_) (C9 g1)
  refine C7 9 rfl rfl (by kernel_rfl) rfl rfl rfl (fun _=>(n9 1 1 false (H9 Tryz.func48) (v6 r 0 (IntKind.i64.wrap ((rs.length:Int) - 1))) rfl (.cons rfl (.c .t0) (.cons rfl (.c .t0) (.cons rfl (.c .t0) .nil))) rfl rfl rfl)) (fun _=>?_) (C9 g1)
  refine dH 10 rfl (fun _=>R3 rfl) (fun _=>?_) (C9 g1)
  refine dT 11 rfl (r8 rfl g1 rfl) ?_
  refine dT 12 rfl pM ?_
  refine dH 13 rfl (fun _=>pF 1) (fun g2=>?_) (fun g2=>?_)
  ·
   have g2':=a8 (Y5 g2)
   refine dH 14 rfl (fun _=>pL) (fun _=>?_) (C9 g2)
   refine dH 15 rfl (fun _=>X6 rfl rfl) (fun _=>?_) (C9 g2)
   refine dH 16 rfl (fun _=>pM) (fun _=>?_) (C9 g2)
   refine dH 17 rfl (fun _=>pF 0) (fun _=>?_) (C9 g2)
   refine dH 18 rfl (fun _=>pL) (fun _=>?_) (C9 g2)
   obtain⟨z3,hz4,b5⟩:=v9 (xs:=rs) (n:=r) (by omega) (by(simp only [IntKind.wrap_i64] at *;omega))
   refine dH 19 rfl (fun _=>p8 (by kernel_rfl) rfl rfl b5 hz4) (fun _=>?_) (C9 g2)
   refine dH 20 rfl (fun _=>R2 (off:=1) (by kernel_rfl) rfl) (fun _=>?_) (C9 g2)
   refine dH 21 rfl (fun _=>Y8 (by kernel_rfl) rfl rfl) (fun _=>?_) (C9 g2)
   refine dH 22 rfl (fun _=>pB) (fun _=>?_) (C9 g2)
   refine dT 23 rfl (r8 rfl g2 rfl) ?_
   refine dE ?_
   refine j9 rfl (fun h6=>?_) (fun h6=>?_)
   ·
    have h6':=a8 h6
    refine t9<|rA<|c9 ?_
    refine tk Tryz.func89 (.tmp rfl .nil) ?_ <;>(try clear ih0)
    all_goals(refine K7 ?_;(rw [sP (by assumption) (by assumption)];done))
   ·
    have h6':=d8 h6
    refine m9<|k9<|t9<|rA<|c9<|p9 ?_
    refine J9 (fun m=>⟨[(3,some (.c (.ptr 0 0))),(5,some (.c (.t none (.v (.int .i64 ((m:Int)))))))],[(0,some (.box [.t none (.v (.int .i64 r)),.t none (.sl 1 f9 ts)]))],1⟩:Nat→St) (fun m=>m≤ts.length∧∀j z,j < m→ts[j]? =some z→(fun t=>!yV t) z=false) (fun m=>ts.length - m) 0 ⟨⟨rfl,⟨rfl,trivial⟩⟩,⟨rfl,trivial⟩,rfl⟩ (by exact⟨Nat.zero_le _,fun j z h=>by omega⟩) ?_
    rintro m hI ih0
    try dsimp only at hI ih0
    obtain⟨i1,i2⟩:=hI
    refine k9<|t9<|rM ?_
    refine rF 1 ?_
    refine rL ?_
    refine d9 (P9 rfl rfl rfl) ?_
    refine rB<|c9 ?_
    refine j9 rfl (fun h7=>?_) (fun h7=>?_)
    ·
     have h7':=a8 h7
     refine m9<|k9<|p9<|t9<|rF 1 ?_
     refine rL ?_
     refine rM ?_
     obtain⟨z8,hz9,b10⟩:=v9 (xs:=ts) (n:=(m:Int)) (by omega) (by omega)
     refine d9 (Q9 rfl (by kernel_rfl) rfl rfl b10 hz9) ?_
     refine d9 (i8 rfl (by kernel_rfl) rfl rfl) ?_
     refine d9 (n9 1 1 false (H9 Tryz.func149) (E6 z8 (by exact(ho _ (D8 (by assumption))).1) (by exact(ho _ (D8 (by assumption))).2)) rfl (.cons rfl (.c .t0) .nil) rfl rfl rfl) ?_
     refine d9 (E8 rfl rfl) ?_
     refine c9 ?_
     refine j9 rfl (fun h11=>?_) (fun h11=>?_)
     ·
      have h11':=d8 (d4 h11)
      refine t9<|rA<|c9 ?_
      refine tk Tryz.func89 (.tmp rfl .nil) ?_ <;>(try clear ih0)
      all_goals(refine K7 ?_;(rw [WT (by assumption) (by simp only [IntKind.wrap_i64] at *;omega) (by assumption) (by omega),s8 (p:=fun t=>!yV t) (by assumption) (by simp only [yV,Bool.not_eq_true'];exact decide_eq_false (by assumption))];rfl))
     ·
      have h11':=a8 (Y5 h11)
      refine m9<|i9<|l9<|rM ?_
      refine rB ?_
      refine rA<|c9 ?_
      refine Z9 ?_ (ih0 (m + 1) (by(try dsimp only);omega) (by(try dsimp only);exact⟨by omega,p5 i2 (by assumption) rfl (by simp only [yV,Bool.not_eq_false'];exact decide_eq_true (by assumption))⟩))
      exact⟨⟨rfl,⟨(L7 (n8 (by omega) (by omega))),trivial⟩⟩,⟨rfl,trivial⟩,rfl⟩
    ·
     have h7':=d8 h7
     refine N9 rfl<|t9<|rA<|c9 ?_
     refine tk Tryz.func89 (.tmp rfl .nil) ?_ <;>(try clear ih0)
     all_goals(refine K7 ?_;(rw [WT (by assumption) (by simp only [IntKind.wrap_i64] at *;omega) (by assumption) (by omega),n4 (p:=fun t=>!yV t) i2 (by omega)];rfl))
  ·
   have g2':=d8 (d4 g2)
   refine dG 14 (nc g2) (fun _=>?_)
   refine dG 15 (nc g2) (fun _=>?_)
   refine dG 16 (nc g2) (fun _=>?_)
   refine dG 17 (nc g2) (fun _=>?_)
   refine dG 18 (nc g2) (fun _=>?_)
   refine dG 19 (nc g2) (fun _=>?_)
   refine dG 20 (nc g2) (fun _=>?_)
   refine dG 21 (nc g2) (fun _=>?_)
   refine dG 22 (nc g2) (fun _=>?_)
   refine dT 23 rfl (C8 rfl g2 rfl) ?_
   refine dE ?_
   refine j9 rfl (fun _=>?_) (nc rfl)
   refine t9<|rA<|c9 ?_
   refine tk Tryz.func89 (.tmp rfl .nil) ?_ <;>(try clear ih0)
   all_goals(refine K7 ?_;(rw [uQ (by simp only [IntKind.wrap_i64] at *;omega)];done))
 ·
  have g1':=(d4 g1)
  refine dG 5 (nc g1) (fun _=>?_)
  refine dG 6 (nc g1) (fun _=>?_)
  refine dG 7 (nc g1) (fun _=>?_)
  refine dG 8 (nc g1) (fun _=>?_)
  refine dG 9 (nc g1) (fun _=>?_)
  refine dG 10 (nc g1) (fun _=>?_)
  refine dT 11 rfl (C8 rfl g1 rfl) ?_
  refine dT 12 rfl pM ?_
  refine dG 13 (nc rfl) (fun _=>?_)
  refine dG 14 (nc rfl) (fun _=>?_)
  refine dG 15 (nc rfl) (fun _=>?_)
  refine dG 16 (nc rfl) (fun _=>?_)
  refine dG 17 (nc rfl) (fun _=>?_)
  refine dG 18 (nc rfl) (fun _=>?_)
  refine dG 19 (nc rfl) (fun _=>?_)
  refine dG 20 (nc rfl) (fun _=>?_)
  refine dG 21 (nc rfl) (fun _=>?_)
  refine dG 22 (nc rfl) (fun _=>?_)
  refine dT 23 rfl (C8 rfl rfl rfl) ?_
  refine dE ?_
  refine j9 rfl (fun _=>?_) (nc rfl)
  refine t9<|rA<|c9 ?_
  refine tk Tryz.func89 (.tmp rfl .nil) ?_ <;>(try clear ih0)
  all_goals(refine K7 ?_;(rw [vQ (by assumption)];done))
theorem A3 (r:Int)(l:List Int)(hl:l.length≤1048576)(ho:∀x∈l,B7 x):Pu Tryz.prog 90 [.agg [.t none (.v (.int .i64 r)),.t none (.sl 1 f9 l)]] [(1,some (.row none 3 true 1 f9 (O9 (l7 l))))] 2 (.c (.own 1)):=by
 refine S7 Tryz.func90 fun w S=>?_
 refine t9 ?_
 refine d9 (m8 0 rfl rfl rfl rfl) ?_
 refine rA<|P8 ?_
 refine d9 (c7 1 (e:=3) (sz:=1) (zs:=[.int .i64 0]) f9 rfl rfl (by kernel_rfl) rfl) ?_
 refine rA<|c9<|k9<|t9 ?_
 refine rA<|c9<|p9 ?_
 refine J9 (fun m=>⟨[(1,some (.c (.ptr 0 0))),(2,some (.c (.t none (.v (.slice none 0 0))))),(3,some (.c (.own 1))),(4,some (.c (.t none (.v (.int .i64 ((m:Int)))))))],[(0,some (.box [.t none (.v (.int .i64 r)),.t none (.sl 1 f9 l)])),(1,some (.row none 3 true 1 f9 (O9 (l7 (l.take m)))))],2⟩:Nat→St) (fun m=>m≤l.length) (fun m=>l.length - m) 0 ⟨⟨rfl,⟨rfl,⟨rfl,⟨rfl,trivial⟩⟩⟩⟩,⟨rfl,⟨rfl,trivial⟩⟩,rfl⟩ (by exact Nat.zero_le _) ?_
 rintro m hI ih0
 try dsimp only at hI ih0
 have i1:=hI;have q1:=Q7 (l7 (l.take m));have q2:=LS l m
 refine k9<|t9<|rM ?_
 refine rF 1 ?_
 refine rL ?_
 refine d9 (P9 rfl rfl rfl) ?_
 refine rB<|c9 ?_
 refine j9 rfl (fun h1=>?_) (fun h1=>?_)
 ·
  have h1':=a8 h1
  refine m9<|k9<|p9<|t9<|rF 1 ?_
  refine rL ?_
  refine rM ?_
  obtain⟨z2,hz3,b4⟩:=v9 (xs:=l) (n:=(m:Int)) (by omega) (by omega)
  refine d9 (Q9 rfl (by kernel_rfl) rfl rfl b4 hz3) ?_
  refine d9 (i8 rfl (by kernel_rfl) rfl rfl) ?_
  refine d9 (n9 2 2 false (H9 Tryz.func82) (o5 z2 (by exact(ho _ (D8 (by assumption))).1) (by exact(ho _ (D8 (by assumption))).2)) rfl (.cons rfl (.c .t0) .nil) rfl rfl rfl) ?_
  refine rM ?_
  refine d9 (D9 rfl rfl rfl rfl) ?_
  refine d9 (D9 rfl rfl rfl rfl) ?_
  refine rA ?_
  refine rA<|P8 ?_
  refine rM<|c9 ?_
  refine j9 rfl (fun h5=>?_) (fun h5=>?_)
  ·
   have h5':=a8 h5
   refine l9<|rM ?_
   refine rM ?_
   refine d9 (OX 1 (l':=O3 (O9 (l7 (l.take m))) (if -40≤z2∧z2≤ -1 then -1 - z2 else 0)) (H9 Tryz.func106) (fun U=>vY U  (O9 (l7 (l.take m))) (if -40≤z2∧z2≤ -1 then -1 - z2 else 0) (by omega)) rfl rfl (.cons rfl (.own rfl) (.cons rfl .t0 .nil))) ?_
   refine rA<|c9<|i9<|l9 ?_
   refine rM ?_
   refine rB ?_
   refine rA<|c9 ?_
   refine Z9 ?_ (ih0 (m + 1) (by(try dsimp only);omega) (by(try dsimp only);omega))
   exact⟨⟨rfl,⟨rfl,⟨rfl,⟨(L7 (n8 (by omega) (by omega))),trivial⟩⟩⟩⟩,⟨rfl,⟨(Q8 (by(rw [US (by assumption) (by assumption),RV];done))),trivial⟩⟩,rfl⟩
  ·
   have h5':=d8 h5
   refine m9<|i9<|l9<|rM ?_
   refine rB ?_
   refine rA<|c9 ?_
   refine Z9 ?_ (ih0 (m + 1) (by(try dsimp only);omega) (by(try dsimp only);omega))
   exact⟨⟨rfl,⟨rfl,⟨rfl,⟨(L7 (n8 (by omega) (by omega))),trivial⟩⟩⟩⟩,⟨rfl,⟨(Q8 (by(rw [lR (by assumption) (by assumption)];done))),trivial⟩⟩,rfl⟩
 ·
  have h1':=d8 h1
  refine N9 rfl<|t9<|rM ?_
  refine rA<|c9 ?_
  refine tk Tryz.func90 (.tmp rfl .nil) ?_ (hL:=⟨Q8 ?_,trivial⟩) <;>(try clear ih0)
  all_goals first | rfl | ((rw [KQ (by omega)]))
theorem H6 (rs:T9)(l:w9)(hrs:rs.length≤4611686018427387904)(hl:N8 (fun(x:Int ×(List Int))=>x.2.length) l≤1048576)(ho:∀z∈l,∀x∈z.2,B7 x):Pu Tryz.prog 37 [.agg [.t none (.sl 3 (j8 Y9 f9 U9) rs),.t none (.sl 2 (y9 f9 (x9 1 f9)) l)]] [] 0 (.c (.t none (.v (.bool (C6 rs l))))):=by
 refine S7 Tryz.func37 fun w S=>?_
 have gl:=I8 (f:=(fun(x:Int ×(List Int))=>x.2.length)) (l:=l)
 refine t9 ?_
 refine d9 (m8 0 rfl rfl rfl rfl) ?_
 refine rA<|c9<|k9<|t9 ?_
 refine rA<|c9<|p9 ?_
 refine J9 (fun m=>⟨[(1,some (.c (.ptr 0 0))),(3,some (.c (.t none (.v (.int .i64 ((m:Int)))))))],[(0,some (.box [.t none (.sl 3 (j8 Y9 f9 U9) rs),.t none (.sl 2 (y9 f9 (x9 1 f9)) l)]))],1⟩:Nat→St) (fun m=>m≤l.length∧∀j,j < m→w3 rs l j=true) (fun m=>l.length - m) 0 ⟨⟨rfl,⟨rfl,trivial⟩⟩,⟨rfl,trivial⟩,rfl⟩ (by exact⟨Nat.zero_le _,fun j h=>by omega⟩) ?_
 rintro m hI ih0
 try dsimp only at hI ih0
 obtain⟨i1,i2⟩:=hI
 refine k9<|t9<|rM ?_
 refine rF 1 ?_
 refine rL ?_
 refine d9 (P9 rfl rfl rfl) ?_
 refine rB<|c9 ?_
 refine j9 rfl (fun h1=>?_) (fun h1=>?_)
 ·
  have h1':=a8 h1
  refine m9<|k9<|p9<|t9<|rF 1 ?_
  refine rL ?_
  refine rM ?_
  obtain⟨z2,hz3,b4⟩:=v9 (xs:=l) (n:=(m:Int)) (by omega) (by omega)
  refine d9 (Q9 rfl (by kernel_rfl) rfl rfl b4 hz3) ?_
  refine d9 (m6 rfl (n:=2) (by kernel_rfl) (by kernel_rfl) rfl rfl) ?_
  refine d9 (F9 1 (zs:=[.int .i64 0,.slice none 0 0]) rfl rfl (by kernel_rfl) rfl) ?_
  refine rS 2<|c9<|k9 ?_
  refine tY ?_
  refine dT 0 rfl (pF 0) ?_
  refine dT 1 rfl pL ?_
  refine dT 2 rfl (pC 2) ?_
  refine dO 3 rfl (n9 2 2 false (H9 Tryz.func89) (LW rs z2.1 z2.2 (by omega) (by(have e1:=X7 (f:=(fun(x:Int ×(List Int))=>x.2.length)) (l:=l) (m:=m) (by assumption);(try dsimp only at e1);omega)) (by exact ho _ (D8 (by assumption)))) rfl (.cons rfl (.c .t0) (.cons rfl (.agg (.cons .t0 (.cons .t0 .nil))) .nil)) rfl rfl rfl) ?_
  refine dT 4 rfl (R3 rfl) ?_
  refine dT 5 rfl pM ?_
  refine dH 6 rfl (fun _=>pM) (fun g5=>?_) (fun g5=>?_)
  ·
   have g5':=(Y5 g5)
   refine dH 7 rfl (fun _=>pB) (fun _=>?_) (C9 g5)
   refine dH 8 rfl (fun _=>pM) (fun _=>?_) (C9 g5)
   refine dH 9 rfl (fun _=>pF 1) (fun g6=>?_) (fun g6=>?_)
   ·
    have g6':=a8 g6
    refine dH 10 rfl (fun _=>pL) (fun _=>?_) (nc g6)
    refine dH 11 rfl (fun _=>pM) (fun _=>?_) (nc g6)
    refine dH 12 rfl (fun _=>pB) (fun _=>?_) (nc g6)
    obtain⟨z7,hz8,b9⟩:=v9 (xs:=l) (n:=IntKind.i64.wrap ((m:Int) - 1)) (by(simp only [IntKind.wrap_i64] at *;omega)) (by(simp only [IntKind.wrap_i64] at *;omega))
    refine dH 13 rfl (fun _=>p8 (by kernel_rfl) rfl rfl b9 hz8) (fun _=>?_) (nc g6)
    refine dH 14 rfl (fun _=>p6 (n:=2) (by kernel_rfl) (by kernel_rfl) rfl rfl) (fun _=>?_) (nc g6)
    refine dH 15 rfl (fun _=>pC 2) (fun _=>?_) (nc g6)
    refine C7 16 rfl rfl (by kernel_rfl) rfl rfl rfl (fun _=>(n9 2 2 false (H9 Tryz.func36) (H5 z7.1 z7.2 z2.1 z2.2 (by(have e1:=X7 (f:=(fun(x:Int ×(List Int))=>x.2.length)) (l:=l) (m:=(IntKind.i64.wrap ((m:Int) - 1)).toNat) (by assumption);(try dsimp only at e1);omega)) (by(have e1:=X7 (f:=(fun(x:Int ×(List Int))=>x.2.length)) (l:=l) (m:=m) (by assumption);(try dsimp only at e1);omega))) rfl (.cons rfl (.agg (.cons .t0 (.cons .t0 .nil))) (.cons rfl (.agg (.cons .t0 (.cons .t0 .nil))) .nil)) rfl rfl rfl)) (fun _=>?_) (nc g6)
    refine dH 17 rfl (fun _=>pB) (fun _=>?_) (nc g6)
    refine dH 18 rfl (fun _=>C8 rfl g6 rfl) (fun _=>?_) (C9 g5)
    refine dT 19 rfl (r8 rfl g5 rfl) ?_
    refine dT 20 rfl pM ?_
    refine dH 21 rfl (fun _=>pF 0) (fun g10=>?_) (fun g10=>?_)
    ·
     have g10':=d8 g10
     refine dH 22 rfl (fun _=>pL) (fun _=>?_) (C9 g10)
     refine dH 23 rfl (fun _=>pF 0) (fun _=>?_) (C9 g10)
     refine dH 24 rfl (fun _=>pL) (fun _=>?_) (C9 g10)
     obtain⟨z11,hz12,b13⟩:=v9 (xs:=rs) (n:=z2.1) (by exact(M1 (by assumption)).1) (by exact(M1 (by assumption)).2)
     refine dH 25 rfl (fun _=>p8 (by kernel_rfl) rfl rfl b13 hz12) (fun _=>?_) (C9 g10)
     refine dH 26 rfl (fun _=>R2 (off:=2) (by kernel_rfl) rfl) (fun _=>?_) (C9 g10)
     refine dH 27 rfl (fun _=>Y8 (by kernel_rfl) rfl rfl) (fun _=>?_) (C9 g10)
     refine dH 28 rfl (fun _=>pM) (fun _=>?_) (C9 g10)
     refine dH 29 rfl (fun _=>pC 2) (fun g14=>?_) (fun g14=>?_)
     ·
      have g14':=g14
      refine C7 30 rfl rfl (by kernel_rfl) rfl rfl rfl (fun _=>(n9 2 4 false (H9 Tryz.func90) (A3 z2.1 z2.2 (by(have e1:=X7 (f:=(fun(x:Int ×(List Int))=>x.2.length)) (l:=l) (m:=m) (by assumption);(try dsimp only at e1);omega)) (by exact ho _ (D8 (by assumption)))) rfl (.cons rfl (.agg (.cons .t0 (.cons .t0 .nil))) .nil) rfl rfl rfl)) (fun _=>?_) (nc g14)
      refine dH 31 rfl (fun _=>LZ rfl rfl rfl) (fun _=>?_) (nc g14)
      refine dH 32 rfl (fun _=>pB) (fun _=>?_) (nc g14)
      refine dH 33 rfl (fun _=>C8 rfl g14 rfl) (fun _=>?_) (C9 g10)
      refine dT 34 rfl (r8 rfl g10 rfl) ?_
      refine dE ?_
      refine j9 rfl (fun h15=>?_) (fun h15=>?_)
      ·
       have h15':=a8 h15
       refine t9<|rA<|c9 ?_
       refine tk Tryz.func37 (.tmp rfl .nil) ?_ <;>(try clear ih0)
       all_goals(refine K7 ?_;(rw [H4 (rs:=rs) (l:=l) (m:=m) (by omega) (by(try(have qb:=Z8 (rs:=rs) (l:=l) (m:=m) hz3 (by assumption)));(try(have qz:=R8 (rs:=rs) (l:=l) (m:=m) hz3 (by omega)));(try(have qp:=a7 (rs:=rs) (l:=l) (m:=m) hz3 (by omega) hz8 (by simp only [IntKind.wrap_i64];omega)));(try(have qS:=y8 (rs:=rs) (r:=z2.1) (ts:=z2.2) hz8));(try(have qT:=y8 (rs:=rs) (r:=z2.1) (ts:=z2.2) hz12));clear hl gl ho hrs;grind)];done))
      ·
       have h15':=d8 h15
       refine m9<|i9<|l9<|rM ?_
       refine rB ?_
       refine rA<|c9 ?_
       refine Z9 ?_ (ih0 (m + 1) (by(try dsimp only);omega) (by(try dsimp only);exact⟨by omega,i6 i2 (by(try(have qb:=Z8 (rs:=rs) (l:=l) (m:=m) hz3 (by assumption)));(try(have qz:=R8 (rs:=rs) (l:=l) (m:=m) hz3 (by omega)));(try(have qp:=a7 (rs:=rs) (l:=l) (m:=m) hz3 (by omega) hz8 (by simp only [IntKind.wrap_i64];omega)));(try(have qS:=y8 (rs:=rs) (r:=z2.1) (ts:=z2.2) hz8));(try(have qT:=y8 (rs:=rs) (r:=z2.1) (ts:=z2.2) hz12));clear hl gl ho hrs;grind)⟩))
       exact⟨⟨rfl,⟨(L7 (n8 (by omega) (by omega))),trivial⟩⟩,⟨rfl,trivial⟩,rfl⟩
     ·
      have g14':=g14
      refine dG 30 (C9 g14) (fun _=>?_)
      refine dG 31 (C9 g14) (fun _=>?_)
      refine dG 32 (C9 g14) (fun _=>?_)
      refine dH 33 rfl (fun _=>r8 rfl g14 rfl) (fun _=>?_) (C9 g10)
      refine dT 34 rfl (r8 rfl g10 rfl) ?_
      refine dE ?_
      refine j9 rfl (C9 rfl) (fun _=>?_)
      refine m9<|i9<|l9<|rM ?_
      refine rB ?_
      refine rA<|c9 ?_
      refine Z9 ?_ (ih0 (m + 1) (by(try dsimp only);omega) (by(try dsimp only);exact⟨by omega,i6 i2 (by(try(have qb:=Z8 (rs:=rs) (l:=l) (m:=m) hz3 (by assumption)));(try(have qz:=R8 (rs:=rs) (l:=l) (m:=m) hz3 (by omega)));(try(have qp:=a7 (rs:=rs) (l:=l) (m:=m) hz3 (by omega) hz8 (by simp only [IntKind.wrap_i64];omega)));(try(have qS:=y8 (rs:=rs) (r:=z2.1) (ts:=z2.2) hz8));(try(have qT:=y8 (rs:=rs) (r:=z2.1) (ts:=z2.2) hz12));clear hl gl ho hrs;grind)⟩))
      exact⟨⟨rfl,⟨(L7 (n8 (by omega) (by omega))),trivial⟩⟩,⟨rfl,trivial⟩,rfl⟩
    ·
     have g10':=a8 g10
     refine dG 22 (nc g10) (fun _=>?_)
     refine dG 23 (nc g10) (fun _=>?_)
     refine dG 24 (nc g10) (fun _=>?_)
     refine dG 25 (nc g10) (fun _=>?_)
     refine dG 26 (nc g10) (fun _=>?_)
     refine dG 27 (nc g10) (fun _=>?_)
     refine dG 28 (nc g10) (fun _=>?_)
     refine dK 29 ?_
     refine dK 30 ?_
     refine dK 31 ?_
     refine dK 32 ?_
     refine dG 33 (nc g10) (fun _=>?_)
     refine dT 34 rfl (C8 rfl g10 rfl) ?_
     refine dE ?_
     refine j9 rfl (fun _=>?_) (nc rfl)
     refine t9<|rA<|c9 ?_
     refine tk Tryz.func37 (.tmp rfl .nil) ?_ <;>(try clear ih0)
     all_goals(refine K7 ?_;(rw [H4 (rs:=rs) (l:=l) (m:=m) (by omega) (by(try(have qb:=Z8 (rs:=rs) (l:=l) (m:=m) hz3 (by assumption)));(try(have qz:=R8 (rs:=rs) (l:=l) (m:=m) hz3 (by omega)));(try(have qp:=a7 (rs:=rs) (l:=l) (m:=m) hz3 (by omega) hz8 (by simp only [IntKind.wrap_i64];omega)));(try(have qS:=y8 (rs:=rs) (r:=z2.1) (ts:=z2.2) hz8));(try(have qT:=y8 (rs:=rs) (r:=z2.1) (ts:=z2.2) (by assumption)));clear hl gl ho hrs;grind)];done))
   ·
    have g6':=d8 g6
    refine dG 10 (C9 g6) (fun _=>?_)
    refine dG 11 (C9 g6) (fun _=>?_)
    refine dG 12 (C9 g6) (fun _=>?_)
    refine dG 13 (C9 g6) (fun _=>?_)
    refine dG 14 (C9 g6) (fun _=>?_)
    refine dG 15 (C9 g6) (fun _=>?_)
    refine dG 16 (C9 g6) (fun _=>?_)
    refine dG 17 (C9 g6) (fun _=>?_)
    refine dH 18 rfl (fun _=>r8 rfl g6 rfl) (fun _=>?_) (C9 g5)
    refine dT 19 rfl (r8 rfl g5 rfl) ?_
    refine dT 20 rfl pM ?_
    refine dH 21 rfl (fun _=>pF 0) (fun _=>?_) (C9 rfl)
    refine dH 22 rfl (fun _=>pL) (fun _=>?_) (C9 rfl)
    refine dH 23 rfl (fun _=>pF 0) (fun _=>?_) (C9 rfl)
    refine dH 24 rfl (fun _=>pL) (fun _=>?_) (C9 rfl)
    obtain⟨z16,hz17,b18⟩:=v9 (xs:=rs) (n:=z2.1) (by exact(M1 (by assumption)).1) (by exact(M1 (by assumption)).2)
    refine dH 25 rfl (fun _=>p8 (by kernel_rfl) rfl rfl b18 hz17) (fun _=>?_) (C9 rfl)
    refine dH 26 rfl (fun _=>R2 (off:=2) (by kernel_rfl) rfl) (fun _=>?_) (C9 rfl)
    refine dH 27 rfl (fun _=>Y8 (by kernel_rfl) rfl rfl) (fun _=>?_) (C9 rfl)
    refine dH 28 rfl (fun _=>pM) (fun _=>?_) (C9 rfl)
    refine dH 29 rfl (fun _=>pC 2) (fun g19=>?_) (fun g19=>?_)
    ·
     have g19':=g19
     refine C7 30 rfl rfl (by kernel_rfl) rfl rfl rfl (fun _=>(n9 2 4 false (H9 Tryz.func90) (A3 z2.1 z2.2 (by(have e1:=X7 (f:=(fun(x:Int ×(List Int))=>x.2.length)) (l:=l) (m:=m) (by assumption);(try dsimp only at e1);omega)) (by exact ho _ (D8 (by assumption)))) rfl (.cons rfl (.agg (.cons .t0 (.cons .t0 .nil))) .nil) rfl rfl rfl)) (fun _=>?_) (nc g19)
     refine dH 31 rfl (fun _=>LZ rfl rfl rfl) (fun _=>?_) (nc g19)
     refine dH 32 rfl (fun _=>pB) (fun _=>?_) (nc g19)
     refine dH 33 rfl (fun _=>C8 rfl g19 rfl) (fun _=>?_) (C9 rfl)
     refine dT 34 rfl (r8 rfl rfl rfl) ?_
     refine dE ?_
     refine j9 rfl (fun h20=>?_) (fun h20=>?_)
     ·
      have h20':=a8 h20
      refine t9<|rA<|c9 ?_
      refine tk Tryz.func37 (.tmp rfl .nil) ?_ <;>(try clear ih0)
      all_goals(refine K7 ?_;(rw [H4 (rs:=rs) (l:=l) (m:=m) (by omega) (by(try(have qb:=Z8 (rs:=rs) (l:=l) (m:=m) hz3 (by assumption)));(try(have qz:=R8 (rs:=rs) (l:=l) (m:=m) hz3 (by omega)));(try(have qp:=a7 (rs:=rs) (l:=l) (m:=m) hz3 (by omega) hz17 (by simp only [IntKind.wrap_i64];omega)));(try(have qS:=y8 (rs:=rs) (r:=z2.1) (ts:=z2.2) hz17));(try(have qT:=y8 (rs:=rs) (r:=z2.1) (ts:=z2.2) (by assumption)));clear hl gl ho hrs;grind)];done))
     ·
      have h20':=d8 h20
      refine m9<|i9<|l9<|rM ?_
      refine rB ?_
      refine rA<|c9 ?_
      refine Z9 ?_ (ih0 (m + 1) (by(try dsimp only);omega) (by(try dsimp only);exact⟨by omega,i6 i2 (by(try(have qb:=Z8 (rs:=rs) (l:=l) (m:=m) hz3 (by assumption)));(try(have qz:=R8 (rs:=rs) (l:=l) (m:=m) hz3 (by omega)));(try(have qp:=a7 (rs:=rs) (l:=l) (m:=m) hz3 (by omega) hz17 (by simp only [IntKind.wrap_i64];omega)));(try(have qS:=y8 (rs:=rs) (r:=z2.1) (ts:=z2.2) hz17));(try(have qT:=y8 (rs:=rs) (r:=z2.1) (ts:=z2.2) (by assumption)));clear hl gl ho hrs;grind)⟩))
      exact⟨⟨rfl,⟨(L7 (n8 (by omega) (by omega))),trivial⟩⟩,⟨rfl,trivial⟩,rfl⟩
    ·
     have g19':=g19
     refine dG 30 (C9 g19) (fun _=>?_)
     refine dG 31 (C9 g19) (fun _=>?_)
     refine dG 32 (C9 g19) (fun _=>?_)
     refine dH 33 rfl (fun _=>r8 rfl g19 rfl) (fun _=>?_) (C9 rfl)
     refine dT 34 rfl (r8 rfl rfl rfl) ?_
     refine dE ?_
     refine j9 rfl (C9 rfl) (fun _=>?_)
     refine m9<|i9<|l9<|rM ?_
     refine rB ?_
     refine rA<|c9 ?_
     refine Z9 ?_ (ih0 (m + 1) (by(try dsimp only);omega) (by(try dsimp only);exact⟨by omega,i6 i2 (by(try(have qb:=Z8 (rs:=rs) (l:=l) (m:=m) hz3 (by assumption)));(try(have qz:=R8 (rs:=rs) (l:=l) (m:=m) hz3 (by omega)));(try(have qp:=a7 (rs:=rs) (l:=l) (m:=m) hz3 (by omega) hz17 (by simp only [IntKind.wrap_i64];omega)));(try(have qS:=y8 (rs:=rs) (r:=z2.1) (ts:=z2.2) hz17));(try(have qT:=y8 (rs:=rs) (r:=z2.1) (ts:=z2.2) (by assumption)));clear hl gl ho hrs;grind)⟩))
     exact⟨⟨rfl,⟨(L7 (n8 (by omega) (by omega))),trivial⟩⟩,⟨rfl,trivial⟩,rfl⟩
  ·
   have g5':=(d4 g5)
   refine dG 7 (nc g5) (fun _=>?_)
   refine dG 8 (nc g5) (fun _=>?_)
   refine dK 9 ?_
   refine dK 10 ?_
   refine dK 11 ?_
   refine dK 12 ?_
   refine dK 13 ?_
   refine dK 14 ?_
   refine dK 15 ?_
   refine dK 16 ?_
   refine dK 17 ?_
   refine dG 18 (nc g5) (fun _=>?_)
   refine dT 19 rfl (C8 rfl g5 rfl) ?_
   refine dT 20 rfl pM ?_
   refine dG 21 (nc rfl) (fun _=>?_)
   refine dG 22 (nc rfl) (fun _=>?_)
   refine dG 23 (nc rfl) (fun _=>?_)
   refine dG 24 (nc rfl) (fun _=>?_)
   refine dG 25 (nc rfl) (fun _=>?_)
   refine dG 26 (nc rfl) (fun _=>?_)
   refine dG 27 (nc rfl) (fun _=>?_)
   refine dG 28 (nc rfl) (fun _=>?_)
   refine dK 29 ?_
   refine dK 30 ?_
   refine dK 31 ?_
   refine dK 32 ?_
   refine dG 33 (nc rfl) (fun _=>?_)
   refine dT 34 rfl (C8 rfl rfl rfl) ?_
   refine dE ?_
   refine j9 rfl (fun _=>?_) (nc rfl)
   refine t9<|rA<|c9 ?_
   refine tk Tryz.func37 (.tmp rfl .nil) ?_ <;>(try clear ih0)
   all_goals(refine K7 ?_;(rw [H4 (rs:=rs) (l:=l) (m:=m) (by omega) (by(try(have qb:=Z8 (rs:=rs) (l:=l) (m:=m) hz3 (by assumption)));(try(have qz:=R8 (rs:=rs) (l:=l) (m:=m) hz3 (by omega)));(try(have qp:=a7 (rs:=rs) (l:=l) (m:=m) hz3 (by omega) (by assumption) (by simp only [IntKind.wrap_i64];omega)));(try(have qS:=y8 (rs:=rs) (r:=z2.1) (ts:=z2.2) (by assumption)));(try(have qT:=y8 (rs:=rs) (r:=z2.1) (ts:=z2.2) (by assumption)));clear hl gl ho hrs;grind)];done))
 ·
  have h1':=d8 h1
  refine N9 rfl<|t9<|rF 0 ?_
  refine rL ?_
  refine d9 (n9 1 1 false (H9 Tryz.func66) (r6 rs (by omega)) rfl (.cons rfl (.c .t0) .nil) rfl rfl rfl) ?_
  refine rM ?_
  refine A9 (fun g21=>?_) (fun g21=>?_)
  ·
   have g21':=g21
   refine rF 1 ?_
   refine A9 (fun _=>?_) (nc g21)
   refine rL ?_
   refine A9 (fun _=>?_) (nc g21)
   refine d9 (P9 rfl rfl rfl) ?_
   refine A9 (fun _=>?_) (nc g21)
   refine rB ?_
   refine d9 (M9 rfl rfl g21 rfl) ?_
   refine rA<|c9 ?_
   refine tk Tryz.func37 (.tmp rfl .nil) ?_ <;>(try clear ih0)
   all_goals(refine K7 ?_;(rw [AW (m:=m) i2 (by omega)];clear hl gl ho hrs;grind))
  ·
   have g21':=g21
   refine A9 (C9 g21) (fun _=>?_)
   refine A9 (C9 g21) (fun _=>?_)
   refine A9 (C9 g21) (fun _=>?_)
   refine d9 (G9 rfl rfl g21 rfl) ?_
   refine rA<|c9 ?_
   refine tk Tryz.func37 (.tmp rfl .nil) ?_ <;>(try clear ih0)
   all_goals(refine K7 ?_;(rw [AW (m:=m) i2 (by omega)];clear hl gl ho hrs;grind))
theorem oV (rs:T9)(fs l:w9)(hrs:rs.length≤4611686018427387904)(hfs:N8 (fun(x:Int ×(List Int))=>x.2.length) fs≤1048576)(hll:N8 (fun(x:Int ×(List Int))=>x.2.length) l≤1048576)(ho:∀z∈fs,∀x∈z.2,B7 x):Pu Tryz.prog 151 [.agg [.t none (.sl 3 (j8 Y9 f9 U9) rs),.t none (.sl 2 (y9 f9 (x9 1 f9)) fs)],.c (.t none (.sl 2 (y9 f9 (x9 1 f9)) l))] [] 0 (.c (.t none (.v (.bool (sV rs fs l))))):=by
 refine S7 Tryz.func151 fun w S=>?_
 have gl:=I8 (f:=(fun(x:Int ×(List Int))=>x.2.length)) (l:=l)
 refine t9 ?_
 refine d9 (m8 0 rfl rfl rfl rfl) ?_
 refine rA<|c9<|k9<|t9 ?_
 refine rA<|c9<|p9 ?_
 refine J9 (fun m=>⟨[(1,some (.c (.t none (.sl 2 (y9 f9 (x9 1 f9)) l)))),(2,some (.c (.ptr 0 0))),(5,some (.c (.t none (.v (.int .i64 ((m:Int)))))))],[(0,some (.box [.t none (.sl 3 (j8 Y9 f9 U9) rs),.t none (.sl 2 (y9 f9 (x9 1 f9)) fs)]))],1⟩:Nat→St) (fun m=>m≤l.length∧∀j z,j < m→l[j]? =some z→H7 rs z=false) (fun m=>l.length - m) 0 ⟨⟨rfl,⟨rfl,⟨rfl,trivial⟩⟩⟩,⟨rfl,trivial⟩,rfl⟩ (by exact⟨Nat.zero_le _,fun j z h=>by omega⟩) ?_
 rintro m hI ih0
 try dsimp only at hI ih0
 obtain⟨i1,i2⟩:=hI;have iA:l.length≤m→l.any (H7 rs)=false:=fun e=>n4 i2 e
 refine k9<|t9<|rM ?_
 refine rM ?_
 refine d9 (P9 rfl rfl rfl) ?_
 refine rB<|c9 ?_
 refine j9 rfl (fun h1=>?_) (fun h1=>?_)
 ·
  have h1':=a8 h1
  refine m9<|k9<|p9<|k9 ?_
  refine tY ?_
  refine dT 0 rfl (pF 0) ?_
  refine dT 1 rfl pL ?_
  refine dT 2 rfl pM ?_
  refine dT 3 rfl pM ?_
  obtain⟨z2,hz3,b4⟩:=v9 (xs:=l) (n:=(m:Int)) (by omega) (by omega)
  refine dT 4 rfl (p8 (by kernel_rfl) rfl rfl b4 hz3) ?_
  refine dT 5 rfl (p6 (n:=2) (by kernel_rfl) (by kernel_rfl) rfl rfl) ?_
  refine dO 6 rfl (n9 1 1 false (H9 Tryz.func127) (B3 rs z2.1 z2.2 (by omega) (by(have e1:=X7 (f:=(fun(x:Int ×(List Int))=>x.2.length)) (l:=l) (m:=m) (by assumption);(try dsimp only at e1);omega))) rfl (.cons rfl (.c .t0) (.cons rfl (.agg (.cons .t0 (.cons .t0 .nil))) .nil)) rfl rfl rfl) ?_
  refine dT 7 rfl (R3 rfl) ?_
  refine dE ?_
  refine j9 rfl (fun h5=>?_) (fun h5=>?_)
  ·
   have h5':=(d4 h5)
   refine t9<|rA<|c9 ?_
   refine tk Tryz.func151 (.tmp rfl .nil) ?_ <;>(try clear ih0)
   all_goals(refine K7 ?_;(try(have qA:=iA (by omega)));(try(have qB:=s8 (p:=H7 rs) (l:=l) (m:=m) hz3 (by unfold H7;grind)));clear hrs hfs hll ho gl;unfold sV;grind)
  ·
   have h5':=(Y5 h5)
   refine m9<|i9<|l9<|rM ?_
   refine rB ?_
   refine rA<|c9 ?_
   refine Z9 ?_ (ih0 (m + 1) (by(try dsimp only);omega) (by(try dsimp only);exact⟨by omega,p5 i2 (by assumption) rfl (by unfold H7;grind)⟩))
   exact⟨⟨rfl,⟨rfl,⟨(L7 (n8 (by omega) (by omega))),trivial⟩⟩⟩,⟨rfl,trivial⟩,rfl⟩
 ·
  have h1':=d8 h1
  refine N9 rfl<|t9<|rC 2 ?_
  refine d9 (n9 1 1 false (H9 Tryz.func37) (H6 rs fs (by omega) (by omega) (by omega)) rfl (.cons rfl (.agg (.cons .t0 (.cons .t0 .nil))) .nil) rfl rfl rfl) ?_
  refine rM ?_
  refine A9 (fun g6=>?_) (fun g6=>?_)
  ·
   have g6':=g6
   refine rM ?_
   refine A9 (fun _=>?_) (nc g6)
   refine d9 (P9 rfl rfl rfl) ?_
   refine A9 (fun _=>?_) (nc g6)
   refine rB ?_
   refine d9 (M9 rfl rfl g6 rfl) ?_
   refine rA<|c9 ?_
   refine tk Tryz.func151 (.tmp rfl .nil) ?_ <;>(try clear ih0)
   all_goals(refine K7 ?_;(try(have qA:=iA (by omega)));(try(have qB:=s8 (p:=H7 rs) (l:=l) (m:=m) (by assumption) (by unfold H7;grind)));clear hrs hfs hll ho gl;unfold sV;grind)
  ·
   have g6':=g6
   refine A9 (C9 g6) (fun _=>?_)
   refine A9 (C9 g6) (fun _=>?_)
   refine d9 (G9 rfl rfl g6 rfl) ?_
   refine rA<|c9 ?_
   refine tk Tryz.func151 (.tmp rfl .nil) ?_ <;>(try clear ih0)
   all_goals(refine K7 ?_;(try(have qA:=iA (by omega)));(try(have qB:=s8 (p:=H7 rs) (l:=l) (m:=m) (by assumption) (by unfold H7;grind)));clear hrs hfs hll ho gl;unfold sV;grind)
theorem dZ:Pu Tryz.prog 192 [] [] 0 (.c (.t none (.v (.int .i64 10)))):=by
 refine S7 Tryz.func192 fun w S=>?_
 refine t9<|rA<|P8 ?_
 refine rA<|c9 ?_
 refine tk Tryz.func192 (.tmp rfl .nil) ?_
 all_goals rfl
theorem wU:Pu Tryz.prog 153 [] [(0,some (.row none 3 true 1 f9 B8))] 1 (.c (.own 0)):=by
 refine S7 Tryz.func153 fun w S=>?_
 refine t9<|rA<|P8 ?_
 refine d9 (c7 0 (e:=3) (sz:=1) (zs:=[.int .i64 0]) f9 rfl rfl (by kernel_rfl) rfl) ?_
 refine rA<|c9<|k9<|p9 ?_
 refine J9 (fun m=>⟨[(0,some (.c (.t none (.v (.slice none 0 0))))),(1,some (.c (.own 0)))],[(0,some (.row none 3 true 1 f9 (List.replicate m 10)))],1⟩:Nat→St) (fun m=>m≤5) (fun m=>5 - m) 0 ⟨⟨rfl,⟨rfl,trivial⟩⟩,⟨rfl,trivial⟩,rfl⟩ (by omega) ?_
 rintro m hI ih0
 try dsimp only at hI ih0
 have i1:=hI;have rl:(List.replicate m (10:Int)).length=m:=List.length_replicate
 refine k9<|t9<|rM ?_
 refine d9 (A7 rfl rfl rfl rfl) ?_
 refine rB<|c9 ?_
 refine j9 rfl (fun h1=>?_) (fun h1=>?_)
 ·
  have h1':=a8 h1
  refine m9<|p9<|l9<|rM ?_
  refine d9 (n9 1 1 false (H9 Tryz.func192) (dZ) rfl .nil rfl rfl rfl) ?_
  refine d9 (w8 1 (e:=3) (sz:=1) (zs:=[.int .i64 0]) rfl rfl (by kernel_rfl) rfl rfl rfl rfl rfl) ?_
  refine d9 (W9 0 (e:=3) (sz:=1) (by':=8) 10 rfl (by kernel_rfl) rfl rfl rfl rfl rfl rfl (.cons .sc .nil) rfl (by omega) (by omega)) ?_
  refine rA<|c9<|i9 ?_
  refine Z9 ?_ (ih0 (m + 1) (by(try dsimp only);omega) (by(try dsimp only);omega))
  exact⟨⟨rfl,⟨rfl,trivial⟩⟩,⟨(Q8 (List.replicate_succ').symm),trivial⟩,rfl⟩
 ·
  have h1':=d8 h1
  refine N9 rfl<|t9<|rM ?_
  refine rA<|c9 ?_
  refine tk Tryz.func153 (.tmp rfl .nil) ?_ (hL:=⟨Q8 ?_,trivial⟩) <;>(try clear ih0)
  all_goals first | rfl | ((obtain rfl:m=5:=by omega);rfl)
theorem xS (b:List Int)(r:Int)(ts:List Int)(r2:Int)(vs:List Int)(hb:b.length=5)(ha:ts.length≤4611686018427387904)(ht:∀t∈ts, -10≤t∧t≤4)(hv:r=r2→ts.length=vs.length):Pu Tryz.prog 194 [.agg [.t none (.v (.int .i64 r)),.t none (.sl 1 f9 ts)],.agg [.t none (.v (.int .i64 r2)),.t none (.sl 1 f9 vs)],.c (.t none (.sl 1 f9 b))] [(0,some (.row none 3 true 1 f9 ((T5 (r,ts) (r2,vs) b).1)))] 1 (.tup [(false,[.own 0]),(false,[.t none (.v (.bool ((T5 (r,ts) (r2,vs) b).2)))])]):=by
 refine S7 Tryz.func194 fun w S=>?_
 refine t9 ?_
 refine d9 (m8 0 rfl rfl rfl rfl) ?_
 refine d9 (m8 1 rfl rfl rfl rfl) ?_
 refine rA ?_
 refine rA<|P8 ?_
 refine d9 (c7 2 (e:=3) (sz:=1) (zs:=[.int .i64 0]) f9 rfl rfl (by kernel_rfl) rfl) ?_
 refine rM ?_
 refine d9 (o7 2 (e:=3) (sz:=1) (by':=8) rfl (by kernel_rfl) rfl rfl rfl rfl (fun _ _=>⟨_,rfl⟩) (by(simp;omega)) (by(simp;omega))) ?_
 refine rA<|c9<|k9<|t9 ?_
 refine rF 0 ?_
 refine rL ?_
 refine rF 0 ?_
 refine rL ?_
 refine rB ?_
 refine rM ?_
 refine A9 (fun g1=>?_) (fun g1=>?_)
 ·
  have g1':=d8 g1
  refine rF 1 ?_
  refine A9 (fun _=>?_) (C9 g1)
  refine rL ?_
  refine A9 (fun _=>?_) (C9 g1)
  refine d9 (P9 rfl rfl rfl) ?_
  refine A9 (fun _=>?_) (C9 g1)
  refine rF 1 ?_
  refine A9 (fun _=>?_) (C9 g1)
  refine rL ?_
  refine A9 (fun _=>?_) (C9 g1)
  refine d9 (P9 rfl rfl rfl) ?_
  refine A9 (fun _=>?_) (C9 g1)
  refine rB ?_
  refine d9 (G9 rfl rfl g1 rfl) ?_
  refine c9 ?_
  refine j9 rfl (fun h2=>?_) (fun h2=>?_)
  ·
   have h2':=a8 h2
   refine t9<|rM ?_
   refine rA ?_
   refine rA<|c9 ?_
   refine N0 6 2 7 rfl rfl rfl rfl ?_
   refine tk Tryz.func194 (.tmp rfl (.tmp rfl .nil)) ?_ (hL:=⟨Q8 ?_,trivial⟩) <;>(try clear ih0)
   all_goals((exfalso;have e9:=hv (by omega);omega))
  ·
   have h2':=d8 h2
   refine m9<|k9<|t9<|rA<|c9<|p9 ?_
   refine J9 (fun(m,q)=>⟨[(3,some (.c (.ptr 0 0))),(4,some (.c (.ptr 1 0))),(8,some (.c (.own 2))),(9,some (.c (.t none (.v (.int .i64 ((m:Int)))))))],[(0,some (.box [.t none (.v (.int .i64 r)),.t none (.sl 1 f9 ts)])),(1,some (.box [.t none (.v (.int .i64 r2)),.t none (.sl 1 f9 vs)])),(2,some (.row none 3 true 1 f9 q))],3⟩:Nat × List Int→St) (fun(m,q)=>m≤ts.length∧q.length=5∧tZ b ((ts.zip vs).take m)=(q,true)) (fun(m,q)=>ts.length - m) (0,b) ⟨⟨rfl,⟨rfl,⟨rfl,⟨rfl,trivial⟩⟩⟩⟩,⟨rfl,⟨rfl,⟨(Q8 rfl),trivial⟩⟩⟩,rfl⟩ (by exact⟨Nat.zero_le _,hb,rfl⟩) ?_
   rintro⟨m,q⟩ hI ih0
   try dsimp only at hI ih0
   obtain⟨i1,i2,i3⟩:=hI
   refine k9<|t9<|rM ?_
   refine rF 1 ?_
   refine rL ?_
   refine d9 (P9 rfl rfl rfl) ?_
   refine rB<|c9 ?_
   refine j9 rfl (fun h3=>?_) (fun h3=>?_)
   ·
    have h3':=a8 h3
    refine m9<|k9<|p9<|t9<|rF 1 ?_
    refine rL ?_
    refine rM ?_
    obtain⟨z4,hz5,b6⟩:=v9 (xs:=ts) (n:=(m:Int)) (by omega) (by omega)
    refine d9 (Q9 rfl (by kernel_rfl) rfl rfl b6 hz5) ?_
    refine d9 (i8 rfl (by kernel_rfl) rfl rfl) ?_
    refine rA<|c9<|k9<|t9 ?_
    refine rM ?_
    refine rB<|c9 ?_
    refine j9 rfl (fun h7=>?_) (fun h7=>?_)
    ·
     have h7':=a8 h7
     refine k9<|t9<|rM ?_
     refine rB ?_
     refine rF 1 ?_
     refine rL ?_
     refine rM ?_
     obtain⟨z8,hz9,b10⟩:=v9 (xs:=vs) (n:=(m:Int)) (by omega) (by omega)
     refine d9 (Q9 rfl (by kernel_rfl) rfl rfl b10 hz9) ?_
     refine d9 (i8 rfl (by kernel_rfl) rfl rfl) ?_
     refine rB<|c9 ?_
     refine j9 rfl (fun h11=>?_) (fun h11=>?_)
     ·
      have h11':=a8 h11
      refine t9<|rM ?_
      refine rA ?_
      refine rA<|c9 ?_
      refine N0 6 2 7 rfl rfl rfl rfl ?_
      refine tk Tryz.func194 (.tmp rfl (.tmp rfl .nil)) ?_ (hL:=⟨Q8 ?_,trivial⟩) <;>(try clear ih0)
      all_goals(first | (exfalso;have e9:=hv (by omega);omega) | (have e:T5 (r,ts) (r2,vs) b=_:=(by exact iY (by omega) (NU i3 (RZ hz5 hz9 rfl rfl) (yT (by omega) (by(have o1:=ht _ (D8 hz5);have o2:IntKind.i64.wrap (-1 - z4)= -1 - z4:=n8 (by omega) (by omega);omega))))));(rw [e];done))
     ·
      have h11':=d8 h11
      refine m9<|N9 rfl<|l9<|rM ?_
      refine rB ?_
      refine rA<|c9 ?_
      refine Z9 ?_ (ih0 (m + 1,q) (by(try dsimp only);omega) (by(try dsimp only);exact⟨by omega,(by exact i2),by(exact VZ i3 (RZ hz5 hz9 rfl rfl) (bJ (by omega) (by(have o1:=ht _ (D8 hz5);have o2:IntKind.i64.wrap (-1 - z4)= -1 - z4:=n8 (by omega) (by omega);omega))))⟩))
      exact⟨⟨rfl,⟨rfl,⟨rfl,⟨(L7 (n8 (by omega) (by omega))),trivial⟩⟩⟩⟩,⟨rfl,⟨rfl,⟨rfl,trivial⟩⟩⟩,rfl⟩
    ·
     have h7':=d8 h7
     refine m9<|k9<|k9 ?_
     refine tY ?_
     refine dT 0 rfl pM ?_
     refine dT 1 rfl pM ?_
     obtain⟨z12,hz13,b14⟩:=v9 (xs:=q) (n:=z4) (by omega) (by(have o1:=ht _ (D8 (by assumption));omega))
     refine dT 2 rfl (V9 (by kernel_rfl) rfl rfl rfl b14 (f8 b14 hz13)) ?_
     refine dT 3 rfl (M8 (by kernel_rfl) rfl rfl rfl hz13) ?_
     refine dO 4 rfl (n9 3 3 false (H9 Tryz.func192) (dZ) rfl .nil rfl rfl rfl) ?_
     refine dT 5 rfl pB ?_
     refine dT 6 rfl pM ?_
     refine dH 7 rfl (fun _=>pM) (fun g15=>?_) (fun g15=>?_)
     ·
      have g15':=a8 g15
      refine dH 8 rfl (fun _=>pM) (fun _=>?_) (nc g15)
      refine dH 9 rfl (fun _=>V9 (by kernel_rfl) rfl rfl rfl b14 (f8 b14 hz13)) (fun _=>?_) (nc g15)
      refine dH 10 rfl (fun _=>M8 (by kernel_rfl) rfl rfl rfl hz13) (fun _=>?_) (nc g15)
      refine dH 11 rfl (fun _=>pF 1) (fun _=>?_) (nc g15)
      refine dH 12 rfl (fun _=>pL) (fun _=>?_) (nc g15)
      refine dH 13 rfl (fun _=>pM) (fun _=>?_) (nc g15)
      obtain⟨z16,hz17,b18⟩:=v9 (xs:=vs) (n:=(m:Int)) (by omega) (by omega)
      refine dH 14 rfl (fun _=>p8 (by kernel_rfl) rfl rfl b18 hz17) (fun _=>?_) (nc g15)
      refine dH 15 rfl (fun _=>Y8 (by kernel_rfl) rfl rfl) (fun _=>?_) (nc g15)
      refine dH 16 rfl (fun _=>pB) (fun _=>?_) (nc g15)
      refine dT 17 rfl (C8 rfl g15 rfl) ?_
      refine dE ?_
      refine j9 rfl (fun h19=>?_) (fun h19=>?_)
      ·
       have h19':=a8 h19
       refine t9<|rM ?_
       refine rA ?_
       refine rA<|c9 ?_
       refine N0 6 2 7 rfl rfl rfl rfl ?_
       refine tk Tryz.func194 (.tmp rfl (.tmp rfl .nil)) ?_ (hL:=⟨Q8 ?_,trivial⟩) <;>(try clear ih0)
       all_goals(first | (exfalso;have e9:=hv (by omega);omega) | (have e:T5 (r,ts) (r2,vs) b=_:=(by exact iY (by omega) (NU i3 (RZ hz5 hz17 rfl rfl) (FK (by omega) hz13 (by omega) (by omega)))));(rw [e];done))
      ·
       have h19':=d8 h19
       refine m9<|l9<|rM ?_
       refine rM ?_
       refine rF 1 ?_
       refine rL ?_
       refine rM ?_
       refine d9 (Q9 rfl (by kernel_rfl) rfl rfl b18 hz17) ?_
       refine d9 (i8 rfl (by kernel_rfl) rfl rfl) ?_
       refine d9 (o8 rfl (by kernel_rfl) rfl rfl rfl b14 (f8 b14 hz13)) ?_
       refine d9 (F8 z16 (n:=1) (by kernel_rfl) rfl rfl hz13 rfl rfl rfl rfl (.cons .sc .nil) rfl (fun j h1 h2=>by(simp at h1 h2;omega))) ?_
       refine c9<|i9<|l9<|rM ?_
       refine rB ?_
       refine rA<|c9 ?_
       refine Z9 ?_ (ih0 (m + 1,q.set z4.toNat z16) (by(try dsimp only);omega) (by(try dsimp only);exact⟨by omega,(by(rw [List.length_set];exact i2)),by(exact VZ i3 (RZ hz5 hz17 rfl rfl) (xR (by omega) hz13 (by omega)))⟩))
       exact⟨⟨rfl,⟨rfl,⟨rfl,⟨(L7 (n8 (by omega) (by omega))),trivial⟩⟩⟩⟩,⟨rfl,⟨rfl,⟨rfl,trivial⟩⟩⟩,rfl⟩
     ·
      have g15':=d8 g15
      refine dG 8 (C9 g15) (fun _=>?_)
      refine dG 9 (C9 g15) (fun _=>?_)
      refine dG 10 (C9 g15) (fun _=>?_)
      refine dG 11 (C9 g15) (fun _=>?_)
      refine dG 12 (C9 g15) (fun _=>?_)
      refine dG 13 (C9 g15) (fun _=>?_)
      refine dG 14 (C9 g15) (fun _=>?_)
      refine dG 15 (C9 g15) (fun _=>?_)
      refine dG 16 (C9 g15) (fun _=>?_)
      refine dT 17 rfl (r8 rfl g15 rfl) ?_
      refine dE ?_
      refine j9 rfl (C9 rfl) (fun _=>?_)
      refine m9<|l9<|rM ?_
      refine rM ?_
      refine rF 1 ?_
      refine rL ?_
      refine rM ?_
      obtain⟨z20,hz21,b22⟩:=v9 (xs:=vs) (n:=(m:Int)) (by omega) (by omega)
      refine d9 (Q9 rfl (by kernel_rfl) rfl rfl b22 hz21) ?_
      refine d9 (i8 rfl (by kernel_rfl) rfl rfl) ?_
      refine d9 (o8 rfl (by kernel_rfl) rfl rfl rfl b14 (f8 b14 hz13)) ?_
      refine d9 (F8 z20 (n:=1) (by kernel_rfl) rfl rfl hz13 rfl rfl rfl rfl (.cons .sc .nil) rfl (fun j h1 h2=>by(simp at h1 h2;omega))) ?_
      refine c9<|i9<|l9<|rM ?_
      refine rB ?_
      refine rA<|c9 ?_
      refine Z9 ?_ (ih0 (m + 1,q.set z4.toNat z20) (by(try dsimp only);omega) (by(try dsimp only);exact⟨by omega,(by(rw [List.length_set];exact i2)),by(exact VZ i3 (RZ hz5 hz21 rfl rfl) (xR (by omega) hz13 (by omega)))⟩))
      exact⟨⟨rfl,⟨rfl,⟨rfl,⟨(L7 (n8 (by omega) (by omega))),trivial⟩⟩⟩⟩,⟨rfl,⟨rfl,⟨rfl,trivial⟩⟩⟩,rfl⟩
   ·
    have h3':=d8 h3
    refine N9 rfl<|t9<|rM ?_
    refine rA ?_
    refine rA<|c9 ?_
    refine N0 6 2 7 rfl rfl rfl rfl ?_
    refine tk Tryz.func194 (.tmp rfl (.tmp rfl .nil)) ?_ (hL:=⟨Q8 ?_,trivial⟩) <;>(try clear ih0)
    all_goals(first | (exfalso;have e9:=hv (by omega);omega) | (have e:T5 (r,ts) (r2,vs) b=_:=(by exact iY (by omega) (ON i3 (by omega))));(rw [e];done))
 ·
  have g1':=a8 g1
  refine A9 (nc g1) (fun _=>?_)
  refine A9 (nc g1) (fun _=>?_)
  refine A9 (nc g1) (fun _=>?_)
  refine A9 (nc g1) (fun _=>?_)
  refine A9 (nc g1) (fun _=>?_)
  refine A9 (nc g1) (fun _=>?_)
  refine d9 (M9 rfl rfl g1 rfl) ?_
  refine c9 ?_
  refine j9 rfl (fun _=>?_) (nc rfl)
  refine t9<|rM ?_
  refine rA ?_
  refine rA<|c9 ?_
  refine N0 6 2 7 rfl rfl rfl rfl ?_
  refine tk Tryz.func194 (.tmp rfl (.tmp rfl .nil)) ?_ (hL:=⟨Q8 ?_,trivial⟩) <;>(try clear ih0)
  all_goals(first | (exfalso;have e9:=hv (by omega);omega) | (have e:T5 (r,ts) (r2,vs) b=_:=(by exact dN (by omega)));first | (rw [e];done) | (rw [e];rfl))
theorem NV:∀(n:Nat) (rs:T9) (fs l:w9) (k:Int) (b:List Int) (hf:fs.length≤30) (hl:l.length≤3) (hb:b.length=5) (hv:∀a∈l,∀f∈fs,a.1=f.1→a.2.length=f.2.length) (ht:∀a∈l,(∀t∈a.2, -10≤t∧t≤4)∧a.2.length≤4611686018427387904) (hk:0≤k∧k≤l.length) (hn:l.length - k.toNat=n),Pu Tryz.prog 152 [.agg [.t none (.sl 3 (j8 Y9 f9 U9) rs),.t none (.sl 2 (y9 f9 (x9 1 f9)) fs)],.c (.t none (.sl 2 (y9 f9 (x9 1 f9)) l)),.c (.t none (.v (.int .i64 k))),.c (.t none (.sl 1 f9 b))] [(0,some (.row none 31 true 1 (x9 1 f9) (S9 fs (l.drop k.toNat) b)))] 1 (.c (.own 0)):=by
 refine XK fun n ih=>?_
 intro rs fs l k b hf hl hb hv ht hk hn
 have rec_:∀(rs:T9) (fs l:w9) (k:Int) (b:List Int) (hdec:l.length - k.toNat < n) (hf:fs.length≤30) (hl:l.length≤3) (hb:b.length=5) (hv:∀a∈l,∀f∈fs,a.1=f.1→a.2.length=f.2.length) (ht:∀a∈l,(∀t∈a.2, -10≤t∧t≤4)∧a.2.length≤4611686018427387904) (hk:0≤k∧k≤l.length),Pu Tryz.prog 152 [.agg [.t none (.sl 3 (j8 Y9 f9 U9) rs),.t none (.sl 2 (y9 f9 (x9 1 f9)) fs)],.c (.t none (.sl 2 (y9 f9 (x9 1 f9)) l)),.c (.t none (.v (.int .i64 k))),.c (.t none (.sl 1 f9 b))] [(0,some (.row none 31 true 1 (x9 1 f9) (S9 fs (l.drop k.toNat) b)))] 1 (.c (.own 0)):=fun rs fs l k b hdec hf hl hb hv ht hk=>ih _ hdec rs fs l k b hf hl hb hv ht hk rfl
 refine S7 Tryz.func152 fun w S=>?_
 refine t9 ?_
 refine d9 (m8 0 rfl rfl rfl rfl) ?_
 refine rA<|c9<|k9<|t9 ?_
 refine rM ?_
 refine rM ?_
 refine d9 (P9 rfl rfl rfl) ?_
 refine rB<|c9 ?_
 refine j9 rfl (fun h1=>?_) (fun h1=>?_)
 ·
  have h1':=a8 h1
  refine t9 ?_
  refine d9 (c7 1 (e:=3) (sz:=1) (zs:=[.int .i64 0]) f9 rfl rfl (by kernel_rfl) rfl) ?_
  refine rM ?_
  refine d9 (o7 1 (e:=3) (sz:=1) (by':=8) rfl (by kernel_rfl) rfl rfl rfl rfl (fun _ _=>⟨_,rfl⟩) (by(simp;omega)) (by(simp;omega))) ?_
  refine d9 (iL 2 (e:=31) (sz:=1) (zs:=[.slice none 0 0]) (enc:=(x9 1 f9)) (([])++b) rfl rfl (by kernel_rfl) rfl rfl rfl rfl rfl rfl (.take (.own rfl) rfl .nil) rfl) ?_
  refine rA<|c9 ?_
  refine tX 8 2 rfl rfl ?_
  refine tk Tryz.func152 (.tmp rfl .nil) ?_ (hL:=⟨Q8 ?_,trivial⟩) <;>(try clear ih0)
  all_goals first | rfl | ((exact(MK (by assumption)).symm))
 ·
  have h1':=d8 h1
  refine m9<|t9 ?_
  refine d9 (c7 1 (e:=31) (sz:=1) (zs:=[.slice none 0 0]) (x9 1 f9) rfl rfl (by kernel_rfl) rfl) ?_
  refine rA<|c9<|k9<|t9 ?_
  refine rA<|c9<|p9 ?_
  refine J9 (fun m=>⟨[(1,some (.c (.t none (.sl 2 (y9 f9 (x9 1 f9)) l)))),(2,some (.c (.t none (.v (.int .i64 k))))),(3,some (.c (.t none (.sl 1 f9 b)))),(4,some (.c (.ptr 0 0))),(8,some (.c (.t none (.v (.slice none 0 0))))),(9,some (.c (.own 1))),(10,some (.c (.t none (.v (.int .i64 ((m:Int)))))))],[(0,some (.box [.t none (.sl 3 (j8 Y9 f9 U9) rs),.t none (.sl 2 (y9 f9 (x9 1 f9)) fs)])),(1,some (.row none 31 true 1 (x9 1 f9) (O6 fs (l.drop k.toNat) b m)))],2⟩:Nat→St) (fun m=>m≤fs.length) (fun m=>fs.length - m) 0 ⟨⟨rfl,⟨rfl,⟨rfl,⟨rfl,⟨rfl,⟨rfl,⟨rfl,trivial⟩⟩⟩⟩⟩⟩⟩,⟨rfl,⟨(Q8 (fH (by assumption) hk).symm),trivial⟩⟩,rfl⟩ (by exact Nat.zero_le _) ?_
  rintro m hI ih0
  try dsimp only at hI ih0
  have i1:=hI
  refine k9<|t9<|rM ?_
  refine rF 1 ?_
  refine rL ?_
  refine d9 (P9 rfl rfl rfl) ?_
  refine rB<|c9 ?_
  refine j9 rfl (fun h2=>?_) (fun h2=>?_)
  ·
   have h2':=a8 h2
   refine m9<|k9<|p9<|k9 ?_
   refine tY ?_
   refine dT 0 rfl pM ?_
   refine dT 1 rfl pM ?_
   obtain⟨z3,hz4,b5⟩:=v9 (xs:=l) (n:=k) (by omega) (by omega)
   refine dT 2 rfl (p8 (by kernel_rfl) rfl rfl b5 hz4) ?_
   refine dT 3 rfl (p6 (n:=2) (by kernel_rfl) (by kernel_rfl) rfl rfl) ?_
   refine dT 4 rfl (pF 1) ?_
   refine dT 5 rfl pL ?_
   refine dT 6 rfl pM ?_
   obtain⟨z6,hz7,b8⟩:=v9 (xs:=fs) (n:=(m:Int)) (by omega) (by omega)
   refine dT 7 rfl (p8 (by kernel_rfl) rfl rfl b8 hz7) ?_
   refine dT 8 rfl (p6 (n:=2) (by kernel_rfl) (by kernel_rfl) rfl rfl) ?_
   refine dT 9 rfl pM ?_
   refine dO 10 rfl (n9 2 3 false (H9 Tryz.func194) (xS b z3.1 z3.2 z6.1 z6.2 (by omega) (by exact(ht _ (D8 (by assumption))).2) (by exact(ht _ (D8 (by assumption))).1) (by exact hv _ (D8 (by assumption)) _ (D8 (by assumption)))) rfl (.cons rfl (.agg (.cons .t0 (.cons .t0 .nil))) (.cons rfl (.agg (.cons .t0 (.cons .t0 .nil))) (.cons rfl (.c .t0) .nil))) rfl rfl rfl) ?_
   refine dT 11 rfl pM ?_
   refine dT 12 rfl (j6 rfl rfl rfl) ?_
   refine dT 13 rfl (j6 rfl rfl rfl) ?_
   refine dT 14 rfl pA ?_
   refine dT 15 rfl pA ?_
   refine dE ?_
   refine t9<|rM<|c9 ?_
   refine j9 rfl (fun h9=>?_) (fun h9=>?_)
   ·
    have h9':=h9
    refine l9<|rM ?_
    refine rC 2 ?_
    refine rM ?_
    refine rM ?_
    refine rB ?_
    refine rM ?_
    refine d9 (n9 3 4 false (H9 Tryz.func152) (rec_ rs fs l (IntKind.i64.wrap (k + 1)) ((T5 (z3.1,z3.2) (z6.1,z6.2) b).1) (by(rw [n8 (by omega) (by omega)];omega)) (by omega) (by omega) (by exact(JT _ _ _).trans hb) (by omega) (by omega) (by(rw [n8 (by omega) (by omega)];omega))) rfl (.cons rfl (.agg (.cons .t0 (.cons .t0 .nil))) (.cons rfl (.c .t0) (.cons rfl (.c .t0) (.cons rfl (.c (.own rfl)) .nil)))) rfl rfl rfl) ?_
    refine d9 (sR 1 (e:=31) (sz:=1) (by':=24) rfl (by kernel_rfl) rfl rfl rfl rfl rfl rfl (by(refine Nat.le_trans (Nat.mul_le_mul_right _ (gL hf hl (by assumption) hk (by simp only [List.length_drop];omega))) (by decide))) (by exact Nat.le_trans (gL hf hl (by assumption) hk (by simp only [List.length_drop];omega)) (by decide))) ?_
    refine rA<|c9<|i9<|l9 ?_
    refine rM ?_
    refine rB ?_
    refine rA<|c9 ?_
    refine Z9 ?_ (ih0 (m + 1) (by(try dsimp only);omega) (by(try dsimp only);omega))
    exact⟨⟨rfl,⟨rfl,⟨rfl,⟨rfl,⟨rfl,⟨rfl,⟨(L7 (n8 (by omega) (by omega))),trivial⟩⟩⟩⟩⟩⟩⟩,⟨rfl,⟨(Q8 (by exact EL hz4 hz7 rfl (by assumption) (by rw [n8 (by omega) (by omega)];omega) rfl)),trivial⟩⟩,rfl⟩
   ·
    have h9':=h9
    refine m9<|i9<|l9<|rM ?_
    refine rB ?_
    refine rA<|c9 ?_
    refine Z9 ?_ (ih0 (m + 1) (by(try dsimp only);omega) (by(try dsimp only);omega))
    exact⟨⟨rfl,⟨rfl,⟨rfl,⟨rfl,⟨rfl,⟨rfl,⟨(L7 (n8 (by omega) (by omega))),trivial⟩⟩⟩⟩⟩⟩⟩,⟨rfl,⟨(Q8 (by exact uJ hz4 hz7 rfl (by assumption))),trivial⟩⟩,rfl⟩
  ·
   have h2':=d8 h2
   refine N9 rfl<|t9<|rM ?_
   refine rA<|c9 ?_
   refine tX 8 1 rfl rfl ?_
   refine tk Tryz.func152 (.tmp rfl .nil) ?_ (hL:=⟨Q8 ?_,trivial⟩) <;>(try clear ih0)
   all_goals first | rfl | ((exact NT (dQ (by assumption) hk) (by omega)))
theorem aX (rs:T9)(fs l:w9)(k:Int)(b:List Int)(hf:fs.length≤30)(hl:l.length≤3)(hb:b.length=5)(hv:∀a∈l,∀f∈fs,a.1=f.1→a.2.length=f.2.length)(ht:∀a∈l,(∀t∈a.2, -10≤t∧t≤4)∧a.2.length≤4611686018427387904)(hk:0≤k∧k≤l.length):Pu Tryz.prog 152 [.agg [.t none (.sl 3 (j8 Y9 f9 U9) rs),.t none (.sl 2 (y9 f9 (x9 1 f9)) fs)],.c (.t none (.sl 2 (y9 f9 (x9 1 f9)) l)),.c (.t none (.v (.int .i64 k))),.c (.t none (.sl 1 f9 b))] [(0,some (.row none 31 true 1 (x9 1 f9) (S9 fs (l.drop k.toNat) b)))] 1 (.c (.own 0)):=NV _ rs fs l k b hf hl hb hv ht hk rfl
theorem fZ (rs:T9)(fs l:w9)(hrs:rs.length≤4611686018427387904)(hfs:N8 (fun(x:Int ×(List Int))=>x.2.length) fs≤1048576)(hll:N8 (fun(x:Int ×(List Int))=>x.2.length) l≤1048576)(ho:∀z∈fs,∀x∈z.2,B7 x):Pu Tryz.prog 91 [.agg [.t none (.sl 3 (j8 Y9 f9 U9) rs),.t none (.sl 2 (y9 f9 (x9 1 f9)) fs)],.c (.t none (.sl 2 (y9 f9 (x9 1 f9)) l))] [(1,some (.row none 31 true 1 (x9 1 f9) (T7 rs fs l)))] 2 (.c (.own 1)):=by
 refine S7 Tryz.func91 fun w S=>?_
 refine t9 ?_
 refine d9 (m8 0 rfl rfl rfl rfl) ?_
 refine rA<|P8 ?_
 refine d9 (c7 1 (e:=31) (sz:=1) (zs:=[.slice none 0 0]) (x9 1 f9) rfl rfl (by kernel_rfl) rfl) ?_
 refine rA<|c9<|k9<|t9 ?_
 refine rC 2 ?_
 refine rM ?_
 refine d9 (n9 2 2 false (H9 Tryz.func151) (oV rs fs l (by omega) (by omega) (by omega) (by omega)) rfl (.cons rfl (.agg (.cons .t0 (.cons .t0 .nil))) (.cons rfl (.c .t0) .nil)) rfl rfl rfl) ?_
 refine d9 (E8 rfl rfl) ?_
 refine c9 ?_
 refine j9 rfl (fun h1=>?_) (fun h1=>?_)
 ·
  have h1':=(d4 h1)
  refine t9<|rM ?_
  refine rA<|c9 ?_
  refine tk Tryz.func91 (.tmp rfl .nil) ?_ (hL:=⟨Q8 ?_,trivial⟩) <;>(try clear ih0) <;>(try clear ih1)
  all_goals first | rfl | ((exact TQ (by simp_all;done)))
 ·
  have h1':=(Y5 h1)
  refine m9<|k9 ?_
  refine tY ?_
  refine dT 0 rfl (pC 2) ?_
  refine dT 1 rfl pM ?_
  refine dO 2 rfl (n9 2 3 false (H9 Tryz.func153) (wU) rfl .nil rfl rfl rfl) ?_
  refine dO 3 rfl (n9 3 4 false (H9 Tryz.func152) (aX rs fs l 0 B8 (by exact(V7 (by assumption)).1) (by exact(V7 (by assumption)).2.1) (by rfl) (by exact(V7 (by assumption)).2.2.1) (by exact(V7 (by assumption)).2.2.2) (by omega)) rfl (.cons rfl (.agg (.cons .t0 (.cons .t0 .nil))) (.cons rfl (.c .t0) (.cons rfl (.c .t0) (.cons rfl (.c (.own rfl)) .nil)))) rfl rfl rfl) ?_
  refine dT 4 rfl pA ?_
  refine dE ?_
  refine k9<|t9<|rA<|c9<|p9 ?_
  refine oX 3 rfl ?_
  refine J9 (fun(vs,m)=>⟨[(4,some (.c (.t none (.v (.slice none 0 0))))),(5,some (.c (.own 1))),(6,some (.c (.own 3))),(7,some (.c (.t none (.v (.int .i64 ((m:Int)))))))],[(0,some (.box [.t none (.sl 3 (j8 Y9 f9 U9) rs),.t none (.sl 2 (y9 f9 (x9 1 f9)) fs)])),(1,some (.row none 31 true 1 (x9 1 f9) (Q4 ((S9 fs l B8).take m)))),(2,some (.row none 3 true 1 f9 B8)),(3,some (.row none 31 true 1 (zU (x9 1 f9)) (EV vs (S9 fs l B8))))],4⟩:List Value × Nat→St) (fun(vs,m)=>vs.length=m∧m≤(S9 fs l B8).length) (fun(vs,m)=>(S9 fs l B8).length - m) ([],0) ⟨⟨rfl,⟨rfl,⟨rfl,⟨rfl,trivial⟩⟩⟩⟩,⟨rfl,⟨rfl,⟨rfl,⟨rfl,trivial⟩⟩⟩⟩,rfl⟩ (by exact⟨rfl,Nat.zero_le _⟩) ?_
  rintro⟨vs,m⟩ hI ih0
  try dsimp only at hI ih0
  obtain⟨i0,i1⟩:=hI;have mp:=V7 (rs:=rs) (fs:=fs) (l:=l) (by assumption);have dr:=XW (m:=m) mp.1 mp.2.1;have tl:=BZ (vs:=vs) (L:=S9 fs l B8) (by omega);have mm:=Q5 mp.1 mp.2.1 B8
  refine k9<|t9<|rM ?_
  refine rM ?_
  refine d9 (A7 rfl rfl rfl rfl) ?_
  refine rB<|c9 ?_
  refine j9 rfl (fun h2=>?_) (fun h2=>?_)
  ·
   have h2':=a8 h2
   refine m9<|k9<|p9<|k9 ?_
   obtain⟨z3,hz4,b5⟩:=v9 (xs:=S9 fs l B8) (n:=(m:Int)) (by omega) (by omega)
   refine G1 4 3 rfl rfl (uX (by omega) hz4) fun e6 v7=>?_
   refine l9<|rA<|c9<|k9<|t9 ?_
   refine rA<|c9<|p9 ?_
   refine J9 (fun n=>⟨[(4,some (.c (.t none (.v (.slice none 0 0))))),(5,some (.c (.own 1))),(6,some (.c (.own 3))),(7,some (.c (.t none (.v (.int .i64 ((m:Int))))))),(8,some (.c (.t none (.v (.bool (sY ((Q4 ((S9 fs l B8).take m)).take n) z3)))))),(9,some (.c (.t none (.v (.int .i64 ((n:Int)))))))],[(0,some (.box [.t none (.sl 3 (j8 Y9 f9 U9) rs),.t none (.sl 2 (y9 f9 (x9 1 f9)) fs)])),(1,some (.row none 31 true 1 (x9 1 f9) (Q4 ((S9 fs l B8).take m)))),(2,some (.row none 3 true 1 f9 B8)),(3,some (.row none 31 true 1 (zU (x9 1 f9)) ((EV vs (S9 fs l B8)).set (m:Int).toNat (.inl v7)))),(4,some (.row (some v7) e6 true 1 f9 z3))],5⟩:Nat→St) (fun n=>n≤(Q4 ((S9 fs l B8).take m)).length) (fun n=>(Q4 ((S9 fs l B8).take m)).length - n) 0 ⟨⟨rfl,⟨rfl,⟨rfl,⟨rfl,⟨(JI eM.symm),⟨rfl,trivial⟩⟩⟩⟩⟩⟩,⟨rfl,⟨rfl,⟨rfl,⟨rfl,⟨rfl,trivial⟩⟩⟩⟩⟩,rfl⟩ (by exact Nat.zero_le _) ?_
   rintro n hI ih1
   try dsimp only at hI ih1
   have j1:=hI
   refine k9<|t9<|rM ?_
   refine rM ?_
   refine d9 (A7 rfl rfl rfl rfl) ?_
   refine rB<|c9 ?_
   refine j9 rfl (fun h8=>?_) (fun h8=>?_)
   ·
    have h8':=a8 h8
    refine m9<|k9<|p9 ?_
    refine tY ?_
    refine dT 0 rfl pM ?_
    refine dT 1 rfl pM ?_
    refine dH 2 rfl (fun _=>pM) (fun g9=>?_) (fun g9=>?_)
    ·
     have g9':=g9
     refine dH 3 rfl (fun _=>pM) (fun _=>?_) (C9 g9)
     obtain⟨z10,hz11,b12⟩:=v9 (xs:=Q4 ((S9 fs l B8).take m)) (n:=(n:Int)) (by omega) (by omega)
     refine dH 4 rfl (fun _=>V9 (by kernel_rfl) rfl rfl rfl b12 (f8 b12 hz11)) (fun _=>?_) (C9 g9)
     refine dH 5 rfl (fun _=>M8 (by kernel_rfl) rfl rfl rfl hz11) (fun _=>?_) (C9 g9)
     refine dH 6 rfl (fun _=>pM) (fun _=>?_) (C9 g9)
     refine dH 7 rfl (fun _=>pM) (fun _=>?_) (C9 g9)
     obtain⟨z13,hz14,b15⟩:=v9 (xs:=(EV vs (S9 fs l B8)).set (m:Int).toNat (.inl v7)) (n:=(m:Int)) (by omega) (by(rw [List.length_set];omega))
     refine dH 8 rfl (fun _=>V9 (by kernel_rfl) rfl rfl rfl b15 (f8 b15 hz14)) (fun _=>?_) (C9 g9)
     refine dH 9 rfl (fun _=>TZ (k:=4) (o:=0) (by kernel_rfl) rfl rfl (OZ (by omega) (by omega)) rfl) (fun _=>?_) (C9 g9)
     refine C7 10 rfl rfl (by kernel_rfl) rfl rfl rfl (fun _=>(n9 5 5 false (H9 Tryz.func88) (mW z10 z3 (by(have e5:=eV (D8 (by assumption));omega)) (by(have e5:=IZ fs l B8 _ (D8 (by assumption));have e6:B8.length=5:=rfl;omega))) rfl (.cons rfl (.c .t1) (.cons rfl (.c (.own rfl)) .nil)) rfl rfl rfl)) (fun _=>?_) (C9 g9)
     refine dH 11 rfl (fun _=>pB) (fun _=>?_) (C9 g9)
     refine dT 12 rfl (r8 rfl g9 rfl) ?_
     refine dT 13 rfl pA ?_
     refine dE ?_
     refine i9<|l9<|rM ?_
     refine rB ?_
     refine rA<|c9 ?_
     refine Z9 ?_ (ih1 (n + 1) (by(try dsimp only);omega) (by(try dsimp only);omega))
     exact⟨⟨rfl,⟨rfl,⟨rfl,⟨rfl,⟨(JI (by exact VL (by assumption) hz11 rfl)),⟨(L7 (n8 (by omega) (by omega))),trivial⟩⟩⟩⟩⟩⟩,⟨rfl,⟨rfl,⟨rfl,⟨rfl,⟨rfl,trivial⟩⟩⟩⟩⟩,rfl⟩
    ·
     have g9':=g9
     refine dG 3 (nc g9) (fun _=>?_)
     refine dG 4 (nc g9) (fun _=>?_)
     refine dG 5 (nc g9) (fun _=>?_)
     refine dG 6 (nc g9) (fun _=>?_)
     refine dG 7 (nc g9) (fun _=>?_)
     refine dG 8 (nc g9) (fun _=>?_)
     refine dG 9 (nc g9) (fun _=>?_)
     refine dG 10 (nc g9) (fun _=>?_)
     refine dG 11 (nc g9) (fun _=>?_)
     refine dT 12 rfl (C8 rfl g9 rfl) ?_
     refine dT 13 rfl pA ?_
     refine dE ?_
     refine i9<|l9<|rM ?_
     refine rB ?_
     refine rA<|c9 ?_
     refine Z9 ?_ (ih1 (n + 1) (by(try dsimp only);omega) (by(try dsimp only);omega))
     exact⟨⟨rfl,⟨rfl,⟨rfl,⟨rfl,⟨(JI (by exact qM (by assumption))),⟨(L7 (n8 (by omega) (by omega))),trivial⟩⟩⟩⟩⟩⟩,⟨rfl,⟨rfl,⟨rfl,⟨rfl,⟨rfl,trivial⟩⟩⟩⟩⟩,rfl⟩
   ·
    have h8':=d8 h8
    refine N9 rfl<|t9<|rM ?_
    refine d9 (E8 rfl rfl) ?_
    refine c9 ?_
    refine j9 rfl (fun h16=>?_) (fun h16=>?_)
    ·
     have h16':=(d4 h16)
     refine l9<|rM ?_
     refine rM ?_
     refine rM ?_
     obtain⟨z17,hz18,b19⟩:=v9 (xs:=(EV vs (S9 fs l B8)).set (m:Int).toNat (.inl v7)) (n:=(m:Int)) (by omega) (by(rw [List.length_set];omega))
     refine d9 (o8 rfl (by kernel_rfl) rfl rfl rfl b19 (f8 b19 hz18)) ?_
     refine d9 (W0 rfl (k:=4) (o:=0) (by kernel_rfl) rfl rfl (OZ (by omega) (by omega)) rfl) ?_
     refine d9 (w8 5 (e:=31) (sz:=1) (zs:=[.slice none 0 0]) rfl rfl (by kernel_rfl) rfl rfl rfl rfl rfl) ?_
     refine d9 (W9 1 (e:=31) (sz:=1) (by':=24) z3 rfl (by kernel_rfl) rfl rfl rfl rfl rfl rfl (.take (.own rfl) rfl .nil) rfl (by omega) (by omega)) ?_
     refine rA<|c9<|i9<|l9 ?_
     refine rM ?_
     refine rB ?_
     refine rA<|c9 ?_
     have he:=rQ (q:=Q4 ((S9 fs l B8).take m)) (x:=z3) (k:=n) (by omega)
     refine Z9 ?_ (ih0 (vs++[v7],m + 1) (by(try dsimp only);omega) (by(try dsimp only);exact⟨by simp;omega,by omega⟩))
     exact⟨⟨rfl,⟨rfl,⟨rfl,⟨(L7 (n8 (by omega) (by omega))),trivial⟩⟩⟩⟩,⟨rfl,⟨(Q8 (by exact(ZW hz4 rfl (he.symm.trans (by assumption))).symm)),⟨rfl,⟨(Q8 (y3 i0 (by omega))),trivial⟩⟩⟩⟩,rfl⟩
    ·
     have h16':=(Y5 h16)
     refine m9<|i9<|l9<|rM ?_
     refine rB ?_
     refine rA<|c9 ?_
     have he:=rQ (q:=Q4 ((S9 fs l B8).take m)) (x:=z3) (k:=n) (by omega)
     refine Z9 ?_ (ih0 (vs++[v7],m + 1) (by(try dsimp only);omega) (by(try dsimp only);exact⟨by simp;omega,by omega⟩))
     exact⟨⟨rfl,⟨rfl,⟨rfl,⟨(L7 (n8 (by omega) (by omega))),trivial⟩⟩⟩⟩,⟨rfl,⟨(Q8 (by exact(VW hz4 rfl (he.symm.trans (by assumption))).symm)),⟨rfl,⟨(Q8 (y3 i0 (by omega))),trivial⟩⟩⟩⟩,rfl⟩
  ·
   have h2':=d8 h2
   refine N9 rfl<|t9<|rM ?_
   refine rA<|c9 ?_
   refine tk Tryz.func91 (.tmp rfl .nil) ?_ (hL:=⟨Q8 ?_,trivial⟩) <;>(try clear ih0) <;>(try clear ih1)
   all_goals first | rfl | ((exact KX (by assumption) (by omega)))
def WY:Option (List Int)→List (Nat × Option Ob)
 | none=>[]
 | some q=>[(3,some (.row none 3 true 1 f9 q))]
def FY (r:Int) (ts:List Int) (b:List Int):Option (List Int)→AV
 | none=> .tup [(true,[.t none (.v (.int .i64 0)),.t none (.v (.slice none 0 0))]),(false,[.t none (.v (.bool false))])]
 | some q=> .tup [(true,[.t none (.v (.int .i64 r)),.own 3]),(false,[.t none (.v (.bool true))])]
theorem U5 (r:Int)(ts:List Int)(b:List Int)(hl:ts.length≤1048576)(ho:∀x∈ts,B7 x)(hob:∀x∈b,B7 x)(mo:Option (List Int))(hm:w6 b ts=mo):Pu Tryz.prog 86 [.agg [.t none (.v (.int .i64 r)),.t none (.sl 1 f9 ts)],.c (.t none (.sl 1 f9 b))] (WY mo) 4 (FY r ts b mo):=by
 refine S7 Tryz.func86 fun w S=>?_
 refine t9 ?_
 refine d9 (m8 0 rfl rfl rfl rfl) ?_
 refine d9 (F9 1 (zs:=[.int .i64 0,.slice none 0 0]) rfl rfl (by kernel_rfl) rfl) ?_
 refine rA<|P8 ?_
 refine rF 0 ?_
 refine rL ?_
 refine d9 (oD [(0,1),(1,1)] [.int .i64 0,.slice none 0 0]) ?_
 refine d9 (F9 2 (zs:=[.int .i64 0,.slice none 0 0]) rfl rfl (by kernel_rfl) rfl) ?_
 refine rS 2<|c9<|k9<|t9 ?_
 refine rA<|c9<|p9 ?_
 refine A6 3 (b:=2) (o:=1) (et:=3) (sz:=1) true f9 rfl rfl rfl ?_
 refine J9 (fun(m,acc)=>⟨[(1,some (.c (.t none (.sl 1 f9 b)))),(2,some (.c (.ptr 0 0))),(4,some (.c (.ptr 1 0))),(6,some (.c (.ptr 2 0))),(7,some (.c (.t none (.v (.int .i64 ((m:Int)))))))],[(0,some (.box [.t none (.v (.int .i64 r)),.t none (.sl 1 f9 ts)])),(1,some (.box [.t none (.v (.int .i64 0)),.t none (.v (.slice none 0 0))])),(2,some (.box [.t none (.v (.int .i64 r)),.own 3])),(3,some (.row none 3 true 1 f9 acc))],4⟩:Nat × List Int→St) (fun(m,acc)=>m≤ts.length∧w6 b (ts.take m)=some acc) (fun(m,acc)=>ts.length - m) (0,[]) ⟨⟨rfl,⟨rfl,⟨rfl,⟨rfl,⟨rfl,trivial⟩⟩⟩⟩⟩,⟨rfl,⟨rfl,⟨rfl,⟨rfl,trivial⟩⟩⟩⟩,rfl⟩ (by exact⟨Nat.zero_le _,rfl⟩) ?_
 rintro⟨m,acc⟩ hI ih0
 try dsimp only at hI ih0
 obtain⟨i1,i2⟩:=hI
 refine k9<|t9<|rM ?_
 refine rF 1 ?_
 refine rL ?_
 refine d9 (P9 rfl rfl rfl) ?_
 refine rB<|c9 ?_
 refine j9 rfl (fun h1=>?_) (fun h1=>?_)
 ·
  have h1':=a8 h1
  refine m9<|k9<|p9<|t9<|rF 1 ?_
  refine rL ?_
  refine rM ?_
  obtain⟨z2,hz3,b4⟩:=v9 (xs:=ts) (n:=(m:Int)) (by omega) (by omega)
  refine d9 (Q9 rfl (by kernel_rfl) rfl rfl b4 hz3) ?_
  refine d9 (i8 rfl (by kernel_rfl) rfl rfl) ?_
  refine rB ?_
  refine rA<|c9<|k9<|t9 ?_
  refine rF 1 ?_
  refine rL ?_
  refine rM ?_
  refine d9 (Q9 rfl (by kernel_rfl) rfl rfl b4 hz3) ?_
  refine d9 (i8 rfl (by kernel_rfl) rfl rfl) ?_
  refine rB<|c9 ?_
  refine j9 rfl (fun h5=>?_) (fun h5=>?_)
  ·
   have h5':=a8 h5
   refine k9<|t9<|rF 1 ?_
   refine rL ?_
   refine rM ?_
   refine d9 (Q9 rfl (by kernel_rfl) rfl rfl b4 hz3) ?_
   refine d9 (i8 rfl (by kernel_rfl) rfl rfl) ?_
   refine rM ?_
   refine d9 (P9 rfl rfl rfl) ?_
   refine rB<|c9 ?_
   refine j9 rfl (fun h6=>?_) (fun h6=>?_)
   ·
    have h6':=a8 h6
    refine t9 ?_
    refine d9 (oD [(0,1),(1,1)] [.int .i64 0,.slice none 0 0]) ?_
    refine rS 2 ?_
    refine rA<|c9 ?_
    refine I5 Tryz.func86 (X9 2 (.tmp rfl .nil)) rfl fun E S w u hI hd=>?_
    obtain rfl:mo=none:=by rw [← hm];exact V0 i2 (by assumption) rfl (PQ (by assumption) (by assumption))
    refine M7 hI hd ?_ trivial rfl rfl rfl <;> clear hI hd <;>(try clear ih0)
    all_goals rfl
   ·
    have h6':=d8 h6
    refine m9<|l9<|rM ?_
    refine rF 1 ?_
    refine rL ?_
    refine rM ?_
    refine d9 (Q9 rfl (by kernel_rfl) rfl rfl b4 hz3) ?_
    refine d9 (i8 rfl (by kernel_rfl) rfl rfl) ?_
    obtain⟨z7,hz8,b9⟩:=v9 (xs:=b) (n:=z2) (by omega) (by omega)
    refine d9 (Q9 rfl (by kernel_rfl) rfl rfl b9 hz8) ?_
    refine d9 (i8 rfl (by kernel_rfl) rfl rfl) ?_
    refine rA<|c9<|k9<|t9 ?_
    refine rM ?_
    refine d9 (n9 4 4 false (H9 Tryz.func149) (E6 z7 (by exact(hob _ (D8 (by assumption))).1) (by exact(hob _ (D8 (by assumption))).2)) rfl (.cons rfl (.c .t0) .nil) rfl rfl rfl) ?_
    refine d9 (E8 rfl rfl) ?_
    refine rM ?_
    refine A9 (fun g10=>?_) (fun g10=>?_)
    ·
     have g10':=a8 (Y5 g10)
     refine rF 1 ?_
     refine A9 (fun _=>?_) (C9 g10)
     refine rL ?_
     refine A9 (fun _=>?_) (C9 g10)
     refine rM ?_
     refine A9 (fun _=>?_) (C9 g10)
     refine d9 (Q9 rfl (by kernel_rfl) rfl rfl b4 hz3) ?_
     refine A9 (fun _=>?_) (C9 g10)
     refine d9 (i8 rfl (by kernel_rfl) rfl rfl) ?_
     refine A9 (fun _=>?_) (C9 g10)
     refine rB ?_
     refine A9 (fun _=>?_) (C9 g10)
     refine rM ?_
     refine A9 (fun g11=>?_) (fun g11=>?_)
     ·
      have g11':=a8 g11
      refine rM ?_
      refine A9 (fun _=>?_) (nc g11)
      refine rB ?_
      refine A9 (fun _=>?_) (C9 g10)
      refine d9 (M9 rfl rfl g11 rfl) ?_
      refine d9 (G9 rfl rfl g10 rfl) ?_
      refine c9 ?_
      refine j9 rfl (fun h12=>?_) (fun h12=>?_)
      ·
       have h12':=a8 h12
       refine t9 ?_
       refine d9 (oD [(0,1),(1,1)] [.int .i64 0,.slice none 0 0]) ?_
       refine rS 2 ?_
       refine rA<|c9 ?_
       refine I5 Tryz.func86 (X9 2 (.tmp rfl .nil)) rfl fun E S w u hI hd=>?_
       obtain rfl:mo=none:=by exfalso;have e:=ho _ (List.mem_of_getElem? (l:=ts) (by assumption));unfold B7 at e;simp only [IntKind.wrap_i64] at *;omega
       refine M7 hI hd ?_ trivial rfl rfl rfl <;> clear hI hd <;>(try clear ih0)
       all_goals rfl
      ·
       have h12':=d8 h12
       refine m9<|l9<|rF 1 ?_
       refine rL ?_
       refine rM ?_
       refine d9 (w8 4 (e:=3) (sz:=1) (zs:=[.int .i64 0]) rfl rfl (by kernel_rfl) rfl rfl rfl rfl rfl) ?_
       refine d9 (W9 3 (e:=3) (sz:=1) (by':=8) z7 rfl (by kernel_rfl) rfl rfl rfl rfl rfl rfl (.cons .sc .nil) rfl (by omega) (by omega)) ?_
       refine rF 1 ?_
       refine rS 1<|c9<|i9<|l9 ?_
       refine rM ?_
       refine rB ?_
       refine rA<|c9 ?_
       refine Z9 ?_ (ih0 (m + 1,acc++[z7]) (by(try dsimp only);omega) (by(try dsimp only);exact⟨by omega,by exfalso;omega⟩))
       exact⟨⟨rfl,⟨rfl,⟨rfl,⟨rfl,⟨(L7 (rH (by omega))),trivial⟩⟩⟩⟩⟩,⟨rfl,⟨rfl,⟨rfl,⟨rfl,trivial⟩⟩⟩⟩,rfl⟩
     ·
      have g11':=d8 g11
      refine A9 (C9 g11) (fun _=>?_)
      refine A9 (fun _=>?_) (C9 g10)
      refine d9 (G9 rfl rfl g11 rfl) ?_
      refine d9 (G9 rfl rfl g10 rfl) ?_
      refine c9 ?_
      refine j9 rfl (C9 rfl) (fun _=>?_)
      refine m9<|l9<|rF 1 ?_
      refine rL ?_
      refine rM ?_
      refine d9 (w8 4 (e:=3) (sz:=1) (zs:=[.int .i64 0]) rfl rfl (by kernel_rfl) rfl rfl rfl rfl rfl) ?_
      refine d9 (W9 3 (e:=3) (sz:=1) (by':=8) z7 rfl (by kernel_rfl) rfl rfl rfl rfl rfl rfl (.cons .sc .nil) rfl (by(have:=d5 i2;simp at this;omega)) (by(have:=d5 i2;simp at this;omega))) ?_
      refine rF 1 ?_
      refine rS 1<|c9<|i9<|l9 ?_
      refine rM ?_
      refine rB ?_
      refine rA<|c9 ?_
      refine Z9 ?_ (ih0 (m + 1,acc++[z7]) (by(try dsimp only);omega) (by(try dsimp only);exact⟨by omega,WX i2 (by assumption) rfl (tR (by assumption) (by assumption) (by assumption))⟩))
      exact⟨⟨rfl,⟨rfl,⟨rfl,⟨rfl,⟨(L7 (rH (by omega))),trivial⟩⟩⟩⟩⟩,⟨rfl,⟨rfl,⟨rfl,⟨rfl,trivial⟩⟩⟩⟩,rfl⟩
    ·
     have g10':=d8 (d4 g10)
     refine A9 (nc g10) (fun _=>?_)
     refine A9 (nc g10) (fun _=>?_)
     refine A9 (nc g10) (fun _=>?_)
     refine A9 (nc g10) (fun _=>?_)
     refine A9 (nc g10) (fun _=>?_)
     refine A9 (nc g10) (fun _=>?_)
     refine X4 rfl rfl rfl ?_
     refine X4 rfl rfl rfl ?_
     refine A9 (nc g10) (fun _=>?_)
     refine d9 (M9 rfl rfl g10 rfl) ?_
     refine c9 ?_
     refine j9 rfl (fun _=>?_) (nc rfl)
     refine t9 ?_
     refine d9 (oD [(0,1),(1,1)] [.int .i64 0,.slice none 0 0]) ?_
     refine rS 2 ?_
     refine rA<|c9 ?_
     refine I5 Tryz.func86 (X9 2 (.tmp rfl .nil)) rfl fun E S w u hI hd=>?_
     obtain rfl:mo=none:=by rw [← hm];exact V0 i2 (by assumption) rfl (xP (by assumption) (by assumption) (by assumption))
     refine M7 hI hd ?_ trivial rfl rfl rfl <;> clear hI hd <;>(try clear ih0)
     all_goals rfl
  ·
   have h5':=d8 h5
   refine m9<|k9<|t9<|rM ?_
   refine d9 (n9 4 4 false (H9 Tryz.func149) (E6 (IntKind.i64.wrap ((-1) - z2)) (by exact j5 _) (by exact f5 _)) rfl (.cons rfl (.c .t0) .nil) rfl rfl rfl) ?_
   refine d9 (E8 rfl rfl) ?_
   refine rM ?_
   refine A9 (fun g13=>?_) (fun g13=>?_)
   ·
    have g13':=a8 (Y5 g13)
    refine rF 1 ?_
    refine A9 (fun _=>?_) (C9 g13)
    refine rL ?_
    refine A9 (fun _=>?_) (C9 g13)
    refine rM ?_
    refine A9 (fun _=>?_) (C9 g13)
    refine d9 (Q9 rfl (by kernel_rfl) rfl rfl b4 hz3) ?_
    refine A9 (fun _=>?_) (C9 g13)
    refine d9 (i8 rfl (by kernel_rfl) rfl rfl) ?_
    refine A9 (fun _=>?_) (C9 g13)
    refine rB ?_
    refine A9 (fun _=>?_) (C9 g13)
    refine rM ?_
    refine A9 (fun g14=>?_) (fun g14=>?_)
    ·
     have g14':=a8 g14
     refine rM ?_
     refine A9 (fun _=>?_) (nc g14)
     refine rB ?_
     refine A9 (fun _=>?_) (C9 g13)
     refine d9 (M9 rfl rfl g14 rfl) ?_
     refine d9 (G9 rfl rfl g13 rfl) ?_
     refine c9 ?_
     refine j9 rfl (fun h15=>?_) (fun h15=>?_)
     ·
      have h15':=a8 h15
      refine t9 ?_
      refine d9 (oD [(0,1),(1,1)] [.int .i64 0,.slice none 0 0]) ?_
      refine rS 2 ?_
      refine rA<|c9 ?_
      refine I5 Tryz.func86 (X9 2 (.tmp rfl .nil)) rfl fun E S w u hI hd=>?_
      obtain rfl:mo=none:=by exfalso;have e:=ho _ (List.mem_of_getElem? (l:=ts) (by assumption));unfold B7 at e;simp only [IntKind.wrap_i64] at *;omega
      refine M7 hI hd ?_ trivial rfl rfl rfl <;> clear hI hd <;>(try clear ih0)
      all_goals rfl
     ·
      have h15':=d8 h15
      refine m9<|l9<|rF 1 ?_
      refine rL ?_
      refine rM ?_
      refine d9 (w8 4 (e:=3) (sz:=1) (zs:=[.int .i64 0]) rfl rfl (by kernel_rfl) rfl rfl rfl rfl rfl) ?_
      refine d9 (W9 3 (e:=3) (sz:=1) (by':=8) (IntKind.i64.wrap ((-1) - z2)) rfl (by kernel_rfl) rfl rfl rfl rfl rfl rfl (.cons .sc .nil) rfl (by(have:=d5 i2;simp at this;omega)) (by(have:=d5 i2;simp at this;omega))) ?_
      refine rF 1 ?_
      refine rS 1<|c9<|i9<|l9 ?_
      refine rM ?_
      refine rB ?_
      refine rA<|c9 ?_
      refine Z9 ?_ (ih0 (m + 1,acc++[IntKind.i64.wrap ((-1) - z2)]) (by(try dsimp only);omega) (by(try dsimp only);exact⟨by omega,WX i2 (by assumption) rfl (iT (by omega) (ho _ (D8 (by assumption))).1 (by assumption))⟩))
      exact⟨⟨rfl,⟨rfl,⟨rfl,⟨rfl,⟨(L7 (rH (by omega))),trivial⟩⟩⟩⟩⟩,⟨rfl,⟨rfl,⟨rfl,⟨rfl,trivial⟩⟩⟩⟩,rfl⟩
    ·
     have g14':=d8 g14
     refine A9 (C9 g14) (fun _=>?_)
     refine A9 (fun _=>?_) (C9 g13)
     refine d9 (G9 rfl rfl g14 rfl) ?_
     refine d9 (G9 rfl rfl g13 rfl) ?_
     refine c9 ?_
     refine j9 rfl (C9 rfl) (fun _=>?_)
     refine m9<|l9<|rF 1 ?_
     refine rL ?_
     refine rM ?_
     refine d9 (w8 4 (e:=3) (sz:=1) (zs:=[.int .i64 0]) rfl rfl (by kernel_rfl) rfl rfl rfl rfl rfl) ?_
     refine d9 (W9 3 (e:=3) (sz:=1) (by':=8) (IntKind.i64.wrap ((-1) - z2)) rfl (by kernel_rfl) rfl rfl rfl rfl rfl rfl (.cons .sc .nil) rfl (by omega) (by omega)) ?_
     refine rF 1 ?_
     refine rS 1<|c9<|i9<|l9 ?_
     refine rM ?_
     refine rB ?_
     refine rA<|c9 ?_
     refine Z9 ?_ (ih0 (m + 1,acc++[IntKind.i64.wrap ((-1) - z2)]) (by(try dsimp only);omega) (by(try dsimp only);exact⟨by omega,by exfalso;omega⟩))
     exact⟨⟨rfl,⟨rfl,⟨rfl,⟨rfl,⟨(L7 (rH (by omega))),trivial⟩⟩⟩⟩⟩,⟨rfl,⟨rfl,⟨rfl,⟨rfl,trivial⟩⟩⟩⟩,rfl⟩
   ·
    have g13':=d8 (d4 g13)
    refine A9 (nc g13) (fun _=>?_)
    refine A9 (nc g13) (fun _=>?_)
    refine A9 (nc g13) (fun _=>?_)
    refine A9 (nc g13) (fun _=>?_)
    refine A9 (nc g13) (fun _=>?_)
    refine A9 (nc g13) (fun _=>?_)
    refine X4 rfl rfl rfl ?_
    refine X4 rfl rfl rfl ?_
    refine A9 (nc g13) (fun _=>?_)
    refine d9 (M9 rfl rfl g13 rfl) ?_
    refine c9 ?_
    refine j9 rfl (fun _=>?_) (nc rfl)
    refine t9 ?_
    refine d9 (oD [(0,1),(1,1)] [.int .i64 0,.slice none 0 0]) ?_
    refine rS 2 ?_
    refine rA<|c9 ?_
    refine I5 Tryz.func86 (X9 2 (.tmp rfl .nil)) rfl fun E S w u hI hd=>?_
    obtain rfl:mo=none:=by rw [← hm];exact V0 i2 (by assumption) rfl (HS (by omega) (ho _ (D8 (by assumption))).1 (by assumption))
    refine M7 hI hd ?_ trivial rfl rfl rfl <;> clear hI hd <;>(try clear ih0)
    all_goals rfl
 ·
  have h1':=d8 h1
  refine N9 rfl<|t9<|rC 2 ?_
  refine rS 2 ?_
  refine rA<|c9 ?_
  refine I5 Tryz.func86 (X9 2 (.tmp rfl .nil)) rfl fun E S w u hI hd=>?_
  obtain rfl:mo=some acc:=by rw [← hm];rw [List.take_of_length_le (by omega)] at i2;exact i2
  refine M7 hI hd ?_ ⟨Q8 ?_,trivial⟩ rfl rfl rfl <;> clear hI hd <;>(try clear ih0)
  all_goals rfl
end Go.Eng
