/- What the functions that FnFirstStep reaches answer. -/
import Derived.Test.YthcggkagkihamaaGreatDoorEngZO
import Derived.Test.YthcggkagkihamaaGreatDoorChecked
set_option linter.unusedVariables false
set_option linter.unusedSimpArgs false
namespace Go.Eng
open Go Go.RowKit Go.Proofs
set_option maxHeartbeats 1000000
set_option maxRecDepth 10000
theorem sO (code:List Int):Pu Tryz.prog 5 [.c (.t none (.sl 1 u7 code))] [] 0 (.c (.t none (.v (.bool (decide ((1048576:Int) < (code.length:Int))))))):=by
 refine S7 Tryz.func5 fun w S=>?_
 refine t9<|rA<|P8 ?_
 refine rM ?_
 refine d9 (P9 rfl rfl rfl) ?_
 refine rB ?_
 refine rA<|c9 ?_
 refine tk Tryz.func5 (.tmp rfl .nil) ?_
 all_goals rfl
theorem M3 (code:List Int)(hc:code.length≤1048576):wK Tryz.prog 39 [.c (.t none (.sl 1 u7 code))] (fun(h:Int)=>True) (fun(h:Int)=>[(0,some (.box [.t none (.sl 1 u7 code),.t none (.v (.int .i64 0)),.t none (.v (.int .i64 h))]))]) 1 (fun(h:Int)=> .c (.ptr 0 0)):=by
 refine P4 Tryz.func39 rfl (Nat.le_of_ble_eq_true rfl) fun w S=>?_
 refine t9<|rA<|P8 ?_
 refine rM ?_
 refine d9 (P9 rfl rfl rfl) ?_
 refine rB ?_
 refine rA<|c9<|k9<|t9 ?_
 refine rA<|c9<|p9 ?_
 refine J9 (fun(m,h)=>⟨[(0,some (.c (.t none (.sl 1 u7 code)))),(2,some (.c (.t none (.v (.pointer none))))),(3,some (.c (.t none (.v (.int .i64 h))))),(4,some (.c (.t none (.v (.int .i64 ((m:Int)))))))],[],0⟩:Nat × Int→St) (fun(m,h)=>m≤code.length) (fun(m,h)=>code.length - m) (0,IntKind.i64.wrap (10101 +(code.length:Int))) ⟨⟨rfl,⟨rfl,⟨rfl,⟨rfl,trivial⟩⟩⟩⟩,trivial,rfl⟩ (by exact Nat.zero_le _) ?_
 rintro⟨m,h⟩ hI ih0
 try dsimp only at hI ih0
 have i1:=hI;(try dsimp only at i1)
 refine k9<|t9<|rM ?_
 refine rM ?_
 refine d9 (P9 rfl rfl rfl) ?_
 refine rB ?_
 refine rM ?_
 refine A9 (fun g1=>?_) (fun g1=>?_)
 ·
  have g1':=a8 g1
  refine rM ?_
  refine A9 (fun _=>?_) (nc g1)
  refine rB ?_
  refine d9 (M9 rfl rfl g1 rfl) ?_
  refine c9 ?_
  refine j9 rfl (fun h2=>?_) (fun h2=>?_)
  ·
   have h2':=a8 h2
   refine m9<|k9<|p9<|l9<|rM ?_
   refine rB ?_
   refine rM ?_
   refine rM ?_
   obtain⟨z3,hz4,b5⟩:=v9 (xs:=code) (n:=(m:Int)) (by omega) (by omega)
   refine d9 (Q9 rfl (by kernel_rfl) rfl rfl b5 hz4) ?_
   refine d9 (i8 rfl (by kernel_rfl) rfl rfl) ?_
   refine d9 (sW rfl Tryz.underlying5 Tryz.underlying3 rfl) ?_
   refine rB ?_
   refine rB ?_
   refine d9 (U1 rfl rfl rfl vK) ?_
   refine rA<|c9<|i9<|l9 ?_
   refine rM ?_
   refine rB ?_
   refine rA<|c9 ?_
   refine Z9 ?_ (ih0 (m + 1,SQ (IntKind.i64.wrap ((IntKind.i64.wrap ((IntKind.i64.wrap (h * 131)) +(IntKind.i64.wrap z3))) + 7)) 1073741823) (by(try dsimp only);omega) (by(try dsimp only);omega))
   exact⟨⟨rfl,⟨rfl,⟨rfl,⟨(L7 (n8 (by omega) (by omega))),trivial⟩⟩⟩⟩,trivial,rfl⟩
  ·
   have h2':=d8 h2
   refine N9 rfl<|t9<|rM ?_
   refine rM ?_
   refine d9 (oD [(0,1),(1,1),(2,1)] [.slice none 0 0,.int .i64 0,.int .i64 0]) ?_
   refine d9 (m8 0 rfl rfl rfl rfl) ?_
   refine rA<|c9 ?_
   refine S8 Tryz.func39 (.tmp rfl .nil) h ?_ ?_ (hL:=⟨rfl,trivial⟩) <;>(try clear ih0)
   ·(try dsimp only) <;> trivial
   ·rfl
 ·
  have g1':=d8 g1
  refine A9 (C9 g1) (fun _=>?_)
  refine d9 (G9 rfl rfl g1 rfl) ?_
  refine c9 ?_
  refine j9 rfl (C9 rfl) (fun _=>?_)
  refine N9 rfl<|t9<|rM ?_
  refine rM ?_
  refine d9 (oD [(0,1),(1,1),(2,1)] [.slice none 0 0,.int .i64 0,.int .i64 0]) ?_
  refine d9 (m8 0 rfl rfl rfl rfl) ?_
  refine rA<|c9 ?_
  refine S8 Tryz.func39 (.tmp rfl .nil) h ?_ ?_ (hL:=⟨rfl,trivial⟩) <;>(try clear ih0)
  ·(try dsimp only) <;> trivial
  ·rfl
theorem V2:Pu Tryz.prog 109 [] [(0,some (.row none 95 true 3 (j8 Y9 f9 U9) X8))] 1 (.c (.own 0)):=by
 refine S7 Tryz.func109 fun w S=>?_
 refine t9<|rA<|P8 ?_
 refine d9 (oD [(0,1),(1,1),(2,1)] [.string (U6 ([])),.int .i64 0,.bool false]) ?_
 refine d9 (oD [(0,1),(1,1),(2,1)] [.string (U6 ([])),.int .i64 0,.bool false]) ?_
 refine d9 (oD [(0,1),(1,1),(2,1)] [.string (U6 ([])),.int .i64 0,.bool false]) ?_
 refine d9 (oD [(0,1),(1,1),(2,1)] [.string (U6 ([])),.int .i64 0,.bool false]) ?_
 refine d9 (oD [(0,1),(1,1),(2,1)] [.string (U6 ([])),.int .i64 0,.bool false]) ?_
 refine d9 (m7 0 (e:=95) (sz:=3) (zs:=[.string (U6 ([])),.int .i64 0,.bool false]) (enc:=(j8 Y9 f9 U9)) [(([97]:List UInt8),2,true),(([98]:List UInt8),1,true),(([112]:List UInt8),2,false),(([113]:List UInt8),2,false),(([114]:List UInt8),1,false)] rfl rfl (by kernel_rfl) rfl rfl rfl rfl rfl rfl rfl rfl (.cons .sc (.cons .sc (.cons .sc (.cons .sc (.cons .sc (.cons .sc (.cons .sc (.cons .sc (.cons .sc (.cons .sc (.cons .sc (.cons .sc (.cons .sc (.cons .sc (.cons .sc .nil))))))))))))))) rfl) ?_
 refine rA<|c9 ?_
 refine tk Tryz.func109 (.tmp rfl .nil) ?_ (hL:=⟨Q8 ?_,trivial⟩)
 all_goals rfl
theorem lS (code:List Int)(i h:Int)(hc:code.length≤1048576)(hi0:0≤i)(hi1:i≤code.length):vS Tryz.prog 94 [.c (.ptr 0 0)] [.t none (.sl 1 u7 code),.t none (.v (.int .i64 i)),.t none (.v (.int .i64 h))] (fun(⟨x,i2,h2⟩:Int × Int × Int)=>(0≤x∧x≤255)∧0≤i2∧i2≤code.length) (fun(⟨x,i2,h2⟩:Int × Int × Int)=>[.t none (.sl 1 u7 code),.t none (.v (.int .i64 i2)),.t none (.v (.int .i64 h2))]) (fun(⟨x,i2,h2⟩:Int × Int × Int)=>[]) 1 (fun(⟨x,i2,h2⟩:Int × Int × Int)=> .c (.t none (.v (.int .i64 x)))):=by
 refine D7 Tryz.func94 rfl (Nat.le_of_ble_eq_true rfl) fun v0 w S M hM=>?_
 refine t9<|rA<|P8 ?_
 refine rM ?_
 refine rM ?_
 refine d9 (IR rfl rfl) ?_
 refine rF 2 ?_
 refine d9 (EI rfl (i:=0) rfl pL) ?_
 refine rB ?_
 refine rB ?_
 refine d9 (IR rfl rfl) ?_
 refine rF 2 ?_
 refine d9 (FP (n:=1) (by kernel_rfl) rfl rfl rfl rfl rfl rfl) ?_
 refine c9<|k9 ?_
 refine tY ?_
 refine dT 0 rfl pM ?_
 refine dT 1 rfl (nW rfl) ?_
 refine dT 2 rfl (pF 2) ?_
 refine dT 3 rfl (aT (i:=0) rfl pL) ?_
 refine dT 4 rfl (OI rfl rfl rfl) ?_
 refine dT 5 rfl pM ?_
 refine dT 6 rfl (nW rfl) ?_
 refine dT 7 rfl (pF 2) ?_
 refine dT 8 rfl (aT (i:=0) rfl pL) ?_
 refine dT 9 rfl (OI rfl rfl rfl) ?_
 refine dT 10 rfl (zR rfl rfl uH) ?_
 refine dT 11 rfl (zR rfl rfl vK) ?_
 refine dT 12 rfl pA ?_
 refine dE ?_
 refine k9<|k9 ?_
 refine tY ?_
 refine dT 0 rfl pM ?_
 refine dT 1 rfl (nW rfl) ?_
 refine dT 2 rfl (pF 1) ?_
 refine dT 3 rfl (aT (i:=0) rfl pL) ?_
 refine dT 4 rfl pM ?_
 refine dT 5 rfl (nW rfl) ?_
 refine dT 6 rfl (pF 0) ?_
 refine dT 7 rfl (aT (i:=0) rfl pL) ?_
 refine dT 8 rfl (X6 rfl rfl) ?_
 refine dT 9 rfl pB ?_
 refine dE ?_
 refine j9 rfl (fun h1=>?_) (fun h1=>?_)
 ·
  have h1':=a8 h1
  refine k9 ?_
  refine tY ?_
  refine dT 0 rfl pM ?_
  refine dT 1 rfl pM ?_
  refine dT 2 rfl (nW rfl) ?_
  refine dT 3 rfl (pF 0) ?_
  refine dT 4 rfl (aT (i:=0) rfl pL) ?_
  refine dT 5 rfl pM ?_
  refine dT 6 rfl (nW rfl) ?_
  refine dT 7 rfl (pF 1) ?_
  refine dT 8 rfl (aT (i:=0) rfl pL) ?_
  obtain⟨z2,hz3,b4⟩:=v9 (xs:=code) (n:=i) (by omega) (by omega)
  refine dT 9 rfl (p8 (by kernel_rfl) rfl rfl b4 hz3) ?_
  refine dT 10 rfl (Y8 (by kernel_rfl) rfl rfl) ?_
  refine dT 11 rfl (KK Tryz.underlying5 Tryz.underlying3 rfl) ?_
  refine dT 12 rfl pB ?_
  refine dT 13 rfl (zR rfl rfl vK) ?_
  refine dT 14 rfl pA ?_
  refine dE ?_
  refine l9<|rM ?_
  refine rM ?_
  refine d9 (IR rfl rfl) ?_
  refine rF 1 ?_
  refine d9 (EI rfl (i:=0) rfl pL) ?_
  refine rB ?_
  refine d9 (IR rfl rfl) ?_
  refine rF 1 ?_
  refine d9 (FP (n:=1) (by kernel_rfl) rfl rfl rfl rfl rfl rfl) ?_
  refine P8<|rM ?_
  refine rA<|c9 ?_
  refine S8 Tryz.func94 (.tmp rfl .nil) (⟨SQ (IntKind.i64.wrap ((SQ (RI (Int.fdiv (IntKind.i64.wrap ((IntKind.i64.wrap (h * 6364136223846793005)) + 1442695040888963407)) (2 ^ 33)) (Int.fdiv (IntKind.i64.wrap ((IntKind.i64.wrap (h * 6364136223846793005)) + 1442695040888963407)) (2 ^ 45))) 255) +(IntKind.i64.wrap z2))) 255,IntKind.i64.wrap (i + 1),IntKind.i64.wrap ((IntKind.i64.wrap (h * 6364136223846793005)) + 1442695040888963407)⟩) ?_ ?_ (hL:=⟨rfl,trivial⟩)
  ·(try dsimp only) <;>(exact⟨AL _,by(have:=n8 (x:=i + 1) (by omega) (by omega);omega)⟩)
  ·rfl
 ·
  have h1':=d8 h1
  refine m9<|t9<|rM ?_
  refine rA<|c9 ?_
  refine S8 Tryz.func94 (.tmp rfl .nil) (⟨SQ (RI (Int.fdiv (IntKind.i64.wrap ((IntKind.i64.wrap (h * 6364136223846793005)) + 1442695040888963407)) (2 ^ 33)) (Int.fdiv (IntKind.i64.wrap ((IntKind.i64.wrap (h * 6364136223846793005)) + 1442695040888963407)) (2 ^ 45))) 255,i,IntKind.i64.wrap ((IntKind.i64.wrap (h * 6364136223846793005)) + 1442695040888963407)⟩) ?_ ?_ (hL:=⟨rfl,trivial⟩)
  ·(try dsimp only) <;>(exact⟨AL _,by omega⟩)
  ·rfl
theorem r9 (code:List Int)(i h n:Int)(hc:code.length≤1048576)(hi0:0≤i)(hi1:i≤code.length)(hn:1≤n)(hn2:n≤256):vS Tryz.prog 41 [.c (.ptr 0 0),.c (.t none (.v (.int .i64 n)))] [.t none (.sl 1 u7 code),.t none (.v (.int .i64 i)),.t none (.v (.int .i64 h))] (fun(⟨x,i2,h2⟩:Int × Int × Int)=>(0≤x∧x≤n - 1)∧0≤i2∧i2≤code.length) (fun(⟨x,i2,h2⟩:Int × Int × Int)=>[.t none (.sl 1 u7 code),.t none (.v (.int .i64 i2)),.t none (.v (.int .i64 h2))]) (fun(⟨x,i2,h2⟩:Int × Int × Int)=>[]) 1 (fun(⟨x,i2,h2⟩:Int × Int × Int)=> .c (.t none (.v (.int .i64 x)))):=by
 refine D7 Tryz.func41 rfl (Nat.le_of_ble_eq_true rfl) fun v0 w S M hM=>?_
 refine t9<|rA<|c9<|k9<|t9 ?_
 refine rM ?_
 refine rB<|c9 ?_
 refine j9 rfl (fun h1=>?_) (fun h1=>?_)
 ·
  have h1':=a8 h1
  exfalso;omega
 ·
  have h1':=d8 h1
  refine m9<|k9<|t9<|rM ?_
  refine rB<|c9 ?_
  refine j9 rfl (fun h2=>?_) (fun h2=>?_)
  ·
   have h2':=a8 h2
   refine t9<|rM ?_
   refine K8 (o9 0 1 2 (pv:=some v0) (H9 Tryz.func94) (lS code i h (by omega) (by omega) (by omega)) rfl rfl (.cur rfl .nil) rfl (fun⟨_,_,_⟩=>rfl) (fun _=>rfl) (fun⟨_,_,_⟩=>rfl) rfl rfl) ?_
   rintro⟨⟨x3,i24,h25⟩,hq6⟩
   try dsimp only at hq6
   try dsimp only
   obtain⟨q7,q8⟩:=hq6
   refine rM ?_
   refine d9 (U1 rfl rfl rfl (CH (by omega))) ?_
   refine rA<|c9 ?_
   refine S8 Tryz.func41 (.tmp rfl .nil) (⟨Int.tmod x3 n,i24,h25⟩) ?_ ?_ (hL:=⟨rfl,trivial⟩)
   ·(try dsimp only) <;>(exact⟨TK (by omega) (by omega),by omega⟩)
   ·rfl
  ·
   have h2':=d8 h2
   exfalso;omega
theorem K6 (code:List Int)(i h n:Int)(hc:code.length≤1048576)(hi0:0≤i)(hi1:i≤code.length)(hn:1≤n)(hn2:n≤256):vS Tryz.prog 57 [.c (.ptr 0 0),.c (.t none (.v (.int .i64 n)))] [.t none (.sl 1 u7 code),.t none (.v (.int .i64 i)),.t none (.v (.int .i64 h))] (fun(⟨b,i2,h2⟩:Bool × Int × Int)=>0≤i2∧i2≤code.length) (fun(⟨b,i2,h2⟩:Bool × Int × Int)=>[.t none (.sl 1 u7 code),.t none (.v (.int .i64 i2)),.t none (.v (.int .i64 h2))]) (fun(⟨b,i2,h2⟩:Bool × Int × Int)=>[]) 1 (fun(⟨b,i2,h2⟩:Bool × Int × Int)=> .c (.t none (.v (.bool b)))):=by
 refine D7 Tryz.func57 rfl (Nat.le_of_ble_eq_true rfl) fun v0 w S M hM=>?_
 refine t9<|rA<|P8 ?_
 refine rM ?_
 refine rM ?_
 refine K8 (o9 0 1 2 (pv:=some v0) (H9 Tryz.func41) (r9 code i h n (by omega) (by omega) (by omega) (by omega) (by omega)) rfl rfl (.cur rfl (.cons rfl .nil)) rfl (fun⟨_,_,_⟩=>rfl) (fun _=>rfl) (fun⟨_,_,_⟩=>rfl) rfl rfl) ?_
 rintro⟨⟨x1,i22,h23⟩,hq4⟩
 try dsimp only at hq4
 try dsimp only
 obtain⟨q5,q6⟩:=hq4
 refine rB ?_
 refine rA<|c9 ?_
 refine S8 Tryz.func57 (.tmp rfl .nil) (⟨decide (x1=0),i22,h23⟩) ?_ ?_ (hL:=⟨rfl,trivial⟩)
 ·(try dsimp only) <;> omega
 ·rfl
theorem K2 (k:Int)(hk: -4611686018427387904≤k∧k≤4611686018427387904):Pu Tryz.prog 85 [.c (.t none (.v (.int .i64 k)))] [] 0 (.c (.t none (.v (.int .i64 (-1 - k))))):=by
 refine S7 Tryz.func85 fun w S=>?_
 refine t9<|rA<|P8 ?_
 refine rM ?_
 refine rB ?_
 refine rA<|c9 ?_
 refine tk Tryz.func85 (.tmp rfl .nil) ?_
 all_goals(refine XX ?_;exact n8 (by omega) (by omega))
theorem eX (code:List Int)(i h n:Int)(hc:code.length≤1048576)(hi0:0≤i)(hi1:i≤code.length)(hn:0≤n)(hn2:n≤256):vS Tryz.prog 196 [.c (.ptr 0 0),.c (.t none (.v (.int .i64 n)))] [.t none (.sl 1 u7 code),.t none (.v (.int .i64 i)),.t none (.v (.int .i64 h))] (fun(⟨x,i2,h2⟩:Int × Int × Int)=>(-256≤x∧x≤2)∧0≤i2∧i2≤code.length) (fun(⟨x,i2,h2⟩:Int × Int × Int)=>[.t none (.sl 1 u7 code),.t none (.v (.int .i64 i2)),.t none (.v (.int .i64 h2))]) (fun(⟨x,i2,h2⟩:Int × Int × Int)=>[]) 1 (fun(⟨x,i2,h2⟩:Int × Int × Int)=> .c (.t none (.v (.int .i64 x)))):=by
 refine D7 Tryz.func196 rfl (Nat.le_of_ble_eq_true rfl) fun v0 w S M hM=>?_
 refine t9<|rA<|c9<|k9<|t9 ?_
 refine rM ?_
 refine rB ?_
 refine rM ?_
 refine A9 (fun g1=>?_) (fun g1=>?_)
 ·
  have g1':=a8 g1
  refine rM ?_
  refine A9 (fun _=>?_) (nc g1)
  refine K8 (o9 0 1 2 (pv:=some v0) (H9 Tryz.func57) (K6 code i h 2 (by omega) (by omega) (by omega) (by omega) (by omega)) rfl rfl (.cur rfl (.cons rfl .nil)) rfl (fun⟨_,_,_⟩=>rfl) (fun _=>rfl) (fun⟨_,_,_⟩=>rfl) rfl rfl) ?_
  rintro⟨⟨b2,i23,h24⟩,hq5⟩
  try dsimp only at hq5
  try dsimp only
  refine d9 (M9 rfl rfl g1 rfl) ?_
  refine c9 ?_
  refine j9 rfl (fun h7=>?_) (fun h7=>?_)
  ·
   have h7':=h7
   refine t9<|rM ?_
   refine rM ?_
   refine K8 (o9 0 2 3 (pv:=some v0) (H9 Tryz.func41) (r9 code i23 h24 n (by omega) (by omega) (by omega) (by omega) (by omega)) rfl rfl (.cur rfl (.cons rfl .nil)) rfl (fun⟨_,_,_⟩=>rfl) (fun _=>rfl) (fun⟨_,_,_⟩=>rfl) rfl rfl) ?_
   rintro⟨⟨x8,i29,h210⟩,hq11⟩
   try dsimp only at hq11
   try dsimp only
   obtain⟨q12,q13⟩:=hq11
   refine d9 (n9 3 3 false (H9 Tryz.func85) (K2 x8 (by omega)) rfl (.cons rfl (.c .t0) .nil) rfl rfl rfl) ?_
   refine rA<|c9 ?_
   refine S8 Tryz.func196 (.tmp rfl .nil) (⟨-1 - x8,i29,h210⟩) ?_ ?_ (hL:=⟨rfl,trivial⟩)
   ·(try dsimp only) <;>(((try simp only [IntKind.wrap_i64] at *);omega))
   ·rfl
  ·
   have h7':=h7
   refine m9<|t9<|rM ?_
   refine K8 (o9 0 2 3 (pv:=some v0) (H9 Tryz.func41) (r9 code i23 h24 3 (by omega) (by omega) (by omega) (by omega) (by omega)) rfl rfl (.cur rfl (.cons rfl .nil)) rfl (fun⟨_,_,_⟩=>rfl) (fun _=>rfl) (fun⟨_,_,_⟩=>rfl) rfl rfl) ?_
   rintro⟨⟨x14,i215,h216⟩,hq17⟩
   try dsimp only at hq17
   try dsimp only
   obtain⟨q18,q19⟩:=hq17
   refine rA<|c9 ?_
   refine S8 Tryz.func196 (.tmp rfl .nil) (⟨x14,i215,h216⟩) ?_ ?_ (hL:=⟨rfl,trivial⟩)
   ·(try dsimp only) <;>(((try simp only [IntKind.wrap_i64] at *);omega))
   ·rfl
 ·
  have g1':=d8 g1
  refine A9 (C9 g1) (fun _=>?_)
  refine d9 (G9 rfl rfl g1 rfl) ?_
  refine c9 ?_
  refine j9 rfl (C9 rfl) (fun _=>?_)
  refine m9<|t9<|rM ?_
  refine K8 (o9 0 1 2 (pv:=some v0) (H9 Tryz.func41) (r9 code i h 3 (by omega) (by omega) (by omega) (by omega) (by omega)) rfl rfl (.cur rfl (.cons rfl .nil)) rfl (fun⟨_,_,_⟩=>rfl) (fun _=>rfl) (fun⟨_,_,_⟩=>rfl) rfl rfl) ?_
  rintro⟨⟨x20,i221,h222⟩,hq23⟩
  try dsimp only at hq23
  try dsimp only
  obtain⟨q24,q25⟩:=hq23
  refine rA<|c9 ?_
  refine S8 Tryz.func196 (.tmp rfl .nil) (⟨x20,i221,h222⟩) ?_ ?_ (hL:=⟨rfl,trivial⟩)
  ·(try dsimp only) <;>(((try simp only [IntKind.wrap_i64] at *);omega))
  ·rfl
theorem w5 (code:List Int)(i h r n:Int)(hc:code.length≤1048576)(hi0:0≤i)(hi1:i≤code.length)(hr:0≤r∧r≤4)(hn:0≤n∧n≤256):vS Tryz.prog 156 [.c (.ptr 0 0),.c (.t none (.v (.int .i64 r))),.c (.t none (.v (.int .i64 n)))] [.t none (.sl 1 u7 code),.t none (.v (.int .i64 i)),.t none (.v (.int .i64 h))] (fun(⟨ts,i2,h2⟩:(List Int) × Int × Int)=>(1≤ts.length∧ts.length≤2)∧(∀x∈ts, -256≤x∧x≤2)∧0≤i2∧i2≤code.length) (fun(⟨ts,i2,h2⟩:(List Int) × Int × Int)=>[.t none (.sl 1 u7 code),.t none (.v (.int .i64 i2)),.t none (.v (.int .i64 h2))]) (fun(⟨ts,i2,h2⟩:(List Int) × Int × Int)=>[(4,some (.row none 3 true 1 f9 ts))]) 5 (fun(⟨ts,i2,h2⟩:(List Int) × Int × Int)=> .agg [.t none (.v (.int .i64 r)),.own 4]):=by
 refine D7 Tryz.func156 rfl (Nat.le_of_ble_eq_true rfl) fun v0 w S M hM=>?_
 have ar:=mK hr
 refine t9 ?_
 refine d9 (F9 1 (zs:=[.int .i64 0,.slice none 0 0]) rfl rfl (by kernel_rfl) rfl) ?_
 refine P8 ?_
 refine d9 (n9 2 3 false (H9 Tryz.func109) (V2) rfl .nil rfl rfl rfl) ?_
 refine rA<|P8 ?_
 refine rM ?_
 refine d9 (oD [(0,1),(1,1)] [.int .i64 0,.slice none 0 0]) ?_
 refine d9 (F9 3 (zs:=[.int .i64 0,.slice none 0 0]) rfl rfl (by kernel_rfl) rfl) ?_
 refine rS 2<|c9<|k9<|p9 ?_
 refine A6 4 (b:=3) (o:=1) (et:=3) (sz:=1) true f9 rfl rfl rfl ?_
 refine J9 (fun(ts,i3,h3)=>⟨[(0,some (.c (.ptr 0 0))),(1,some (.c (.t none (.v (.int .i64 r))))),(2,some (.c (.t none (.v (.int .i64 n))))),(6,some (.c (.ptr 1 0))),(7,some (.c (.own 2))),(8,some (.c (.ptr 3 0)))],[(0,some (.pbox v0 [.t none (.sl 1 u7 code),.t none (.v (.int .i64 i3)),.t none (.v (.int .i64 h3))])),(1,some (.box [.t none (.v (.int .i64 0)),.t none (.v (.slice none 0 0))])),(2,some (.row none 95 true 3 (j8 Y9 f9 U9) X8)),(3,some (.box [.t none (.v (.int .i64 r)),.own 4])),(4,some (.row none 3 true 1 f9 ts))],5⟩:List Int × Int × Int→St) (fun(ts,i3,h3)=>((ts.length:Int)≤aH r)∧(∀x∈ts, -256≤x∧x≤2)∧(0≤i3∧i3≤code.length)) (fun(ts,i3,h3)=>2 - ts.length) ([],i,h) ⟨⟨rfl,⟨rfl,⟨rfl,⟨rfl,⟨rfl,⟨rfl,trivial⟩⟩⟩⟩⟩⟩,⟨rfl,⟨rfl,⟨rfl,⟨rfl,⟨rfl,trivial⟩⟩⟩⟩⟩,rfl⟩ (by exact⟨by simp;omega,fun x hx=>by simp at hx,by omega⟩) ?_
 rintro⟨ts,i3,h3⟩ hI ih0
 try dsimp only at hI ih0
 obtain⟨j1,j2,j3⟩:=hI
 refine k9<|k9 ?_
 refine tY ?_
 refine dT 0 rfl (pF 1) ?_
 refine dT 1 rfl pL ?_
 refine dT 2 rfl (LZ rfl rfl rfl) ?_
 refine dT 3 rfl pM ?_
 refine dT 4 rfl pM ?_
 obtain⟨z1,hz2,b3⟩:=v9 (xs:=X8) (n:=r) (by omega) (by(rw [t7];omega))
 refine dT 5 rfl (V9 (by kernel_rfl) rfl rfl rfl b3 (f8 b3 hz2)) ?_
 refine dT 6 rfl (I4 (off:=1) (by kernel_rfl) rfl) ?_
 refine dT 7 rfl (M8 (by kernel_rfl) rfl rfl rfl hz2) ?_
 refine dT 8 rfl pB ?_
 refine dE ?_
 refine j9 rfl (fun h4=>?_) (fun h4=>?_)
 ·
  have h4':=a8 h4
  refine m9<|p9 ?_
  refine tD (fun i=>!(Nat.beq i 4||Nat.beq i 6||Nat.beq i 8)) ?_
  refine V8 0 rfl rfl (by kernel_rfl) (by kernel_rfl) (by kernel_rfl) (I7 (off:=1) (by kernel_rfl) rfl) ?_
  refine dT 2 rfl pM ?_
  refine dT 3 rfl pM ?_
  refine G8 1 4 rfl rfl (by kernel_rfl) rfl rfl (N4 oL) (o9 0 5 6 (pv:=some v0) (H9 Tryz.func196) (eX code i3 h3 n (by omega) (by omega) (by omega) (by omega) (by omega)) rfl rfl (.cur rfl (.cons rfl .nil)) rfl (fun⟨_,_,_⟩=>rfl) (fun _=>rfl) (fun⟨_,_,_⟩=>rfl) rfl rfl) ?_ ?_
  ·
   rintro⟨⟩
   refine J0 4 rfl (o9 0 5 6 (pv:=some v0) (H9 Tryz.func196) (eX code i3 h3 n (by omega) (by omega) (by omega) (by omega) (by omega)) rfl rfl (.cur rfl (.cons rfl .nil)) rfl (fun⟨_,_,_⟩=>rfl) (fun _=>rfl) (fun⟨_,_,_⟩=>rfl) rfl rfl) ?_
   rintro⟨⟨x11,i212,h213⟩,hq14⟩
   try dsimp only at hq14
   try dsimp only
   obtain⟨q15,q16⟩:=hq14
   refine dO 5 rfl (w8 6 (e:=3) (sz:=1) (zs:=[.int .i64 0]) rfl rfl (by kernel_rfl) rfl rfl rfl rfl rfl) ?_
   refine dO 6 rfl (W9 4 (e:=3) (sz:=1) (by':=8) x11 rfl (by kernel_rfl) rfl rfl rfl rfl rfl rfl (.cons .sc .nil) rfl (by omega) (by omega)) ?_
   refine dT 7 rfl (pF 1) ?_
   refine dO 8 rfl (oS 1) ?_
   refine dE ?_
   refine i9 ?_
   have sg:=AY hz2
   refine Z9 ?_ (ih0 (ts++[x11],i212,h213) (by(try dsimp only);(simp;omega)) (by(try dsimp only);exact⟨by(simp only [List.length_append,List.length_singleton];omega),d7 j2 (by assumption),by omega⟩))
   exact⟨⟨rfl,⟨rfl,⟨rfl,⟨rfl,⟨rfl,⟨rfl,trivial⟩⟩⟩⟩⟩⟩,⟨rfl,⟨rfl,⟨rfl,⟨rfl,⟨rfl,trivial⟩⟩⟩⟩⟩,rfl⟩
  ·
   rintro⟨⟨x5,i26,h27⟩,hq8⟩
   try dsimp only at hq8
   try dsimp only
   obtain⟨q9,q10⟩:=hq8
   refine dT 1 rfl pL ?_
   refine dO 5 rfl (w8 6 (e:=3) (sz:=1) (zs:=[.int .i64 0]) rfl rfl (by kernel_rfl) rfl rfl rfl rfl rfl) ?_
   refine dO 6 rfl (W9 4 (e:=3) (sz:=1) (by':=8) x5 rfl (by kernel_rfl) rfl rfl rfl rfl rfl rfl (.cons .sc .nil) rfl (by omega) (by omega)) ?_
   refine dT 7 rfl (pF 1) ?_
   refine dO 8 rfl (oS 1) ?_
   refine dE ?_
   refine i9 ?_
   have sg:=AY hz2
   refine Z9 ?_ (ih0 (ts++[x5],i26,h27) (by(try dsimp only);(simp;omega)) (by(try dsimp only);exact⟨by(simp only [List.length_append,List.length_singleton];omega),d7 j2 (by assumption),by omega⟩))
   exact⟨⟨rfl,⟨rfl,⟨rfl,⟨rfl,⟨rfl,⟨rfl,trivial⟩⟩⟩⟩⟩⟩,⟨rfl,⟨rfl,⟨rfl,⟨rfl,⟨rfl,trivial⟩⟩⟩⟩⟩,rfl⟩
 ·
  have h4':=d8 h4
  refine N9 rfl<|t9<|rC 2 ?_
  refine rS 2<|c9 ?_
  refine S8 Tryz.func156 (X9 2 .nil) (⟨ts,i3,h3⟩) ?_ ?_ (hL:=⟨rfl,⟨rfl,trivial⟩⟩) <;>(try clear ih0)
  ·(try dsimp only) <;>((have sg:=AY hz2);exact⟨by omega,j2,by omega⟩)
  ·rfl
theorem mW (a b:List Int)(ha:a.length≤4611686018427387904)(hb:b.length≤4611686018427387904):Pu Tryz.prog 88 [.c (.t none (.sl 1 f9 a)),.c (.t none (.sl 1 f9 b))] [] 0 (.c (.t none (.v (.int .i64 (Q6 a b))))):=by
 refine S7 Tryz.func88 fun w S=>?_
 refine t9<|rA<|c9<|k9<|t9 ?_
 refine rA<|c9<|p9 ?_
 refine J9 (fun m=>⟨[(0,some (.c (.t none (.sl 1 f9 a)))),(1,some (.c (.t none (.sl 1 f9 b)))),(5,some (.c (.t none (.v (.int .i64 ((m:Int)))))))],[],0⟩:Nat→St) (fun m=>m≤a.length∧m≤b.length∧a.take m=b.take m) (fun m=>a.length - m) 0 ⟨⟨rfl,⟨rfl,⟨rfl,trivial⟩⟩⟩,trivial,rfl⟩ (by exact⟨Nat.zero_le _,Nat.zero_le _,rfl⟩) ?_
 rintro m hI ih0
 try dsimp only at hI ih0
 obtain⟨i1,i2,i3⟩:=hI
 refine k9<|t9<|rM ?_
 refine rM ?_
 refine d9 (P9 rfl rfl rfl) ?_
 refine rB ?_
 refine rM ?_
 refine A9 (fun g1=>?_) (fun g1=>?_)
 ·
  have g1':=a8 g1
  refine rM ?_
  refine A9 (fun _=>?_) (nc g1)
  refine rM ?_
  refine A9 (fun _=>?_) (nc g1)
  refine d9 (P9 rfl rfl rfl) ?_
  refine A9 (fun _=>?_) (nc g1)
  refine rB ?_
  refine d9 (M9 rfl rfl g1 rfl) ?_
  refine c9 ?_
  refine j9 rfl (fun h2=>?_) (fun h2=>?_)
  ·
   have h2':=a8 h2
   refine m9<|k9<|p9<|k9<|k9 ?_
   refine tY ?_
   refine dT 0 rfl pM ?_
   refine dT 1 rfl pM ?_
   obtain⟨z3,hz4,b5⟩:=v9 (xs:=a) (n:=(m:Int)) (by omega) (by omega)
   refine dT 2 rfl (p8 (by kernel_rfl) rfl rfl b5 hz4) ?_
   refine dT 3 rfl (Y8 (by kernel_rfl) rfl rfl) ?_
   refine dT 4 rfl pM ?_
   refine dT 5 rfl pM ?_
   obtain⟨z6,hz7,b8⟩:=v9 (xs:=b) (n:=(m:Int)) (by omega) (by omega)
   refine dT 6 rfl (p8 (by kernel_rfl) rfl rfl b8 hz7) ?_
   refine dT 7 rfl (Y8 (by kernel_rfl) rfl rfl) ?_
   refine dT 8 rfl pB ?_
   refine dE ?_
   refine j9 rfl (fun h9=>?_) (fun h9=>?_)
   ·
    have h9':=a8 h9
    refine t9<|rA<|c9 ?_
    refine tk Tryz.func88 (.tmp rfl .nil) ?_ <;>(try clear ih0)
    all_goals(refine XX ?_;(rw [(PU i3 (by assumption) (by assumption)).1 (by omega)];done))
   ·
    have h9':=d8 h9
    refine m9<|k9 ?_
    refine tY ?_
    refine dT 0 rfl pM ?_
    refine dT 1 rfl pM ?_
    refine dT 2 rfl (p8 (by kernel_rfl) rfl rfl b5 hz4) ?_
    refine dT 3 rfl (Y8 (by kernel_rfl) rfl rfl) ?_
    refine dT 4 rfl pM ?_
    refine dT 5 rfl pM ?_
    refine dT 6 rfl (p8 (by kernel_rfl) rfl rfl b8 hz7) ?_
    refine dT 7 rfl (Y8 (by kernel_rfl) rfl rfl) ?_
    refine dT 8 rfl pB ?_
    refine dE ?_
    refine j9 rfl (fun h10=>?_) (fun h10=>?_)
    ·
     have h10':=a8 h10
     refine t9<|rA<|c9 ?_
     refine tk Tryz.func88 (.tmp rfl .nil) ?_ <;>(try clear ih0)
     all_goals(refine XX ?_;(rw [(PU i3 (by assumption) (by assumption)).2 (by omega)];done))
    ·
     have h10':=d8 h10
     refine m9<|i9<|l9<|rM ?_
     refine rB ?_
     refine rA<|c9 ?_
     refine Z9 ?_ (ih0 (m + 1) (by(try dsimp only);omega) (by(try dsimp only);exact⟨by omega,by omega,U0 i3 (YX (by assumption) (by assumption) (by omega))⟩))
     exact⟨⟨rfl,⟨rfl,⟨(L7 (n8 (by omega) (by omega))),trivial⟩⟩⟩,trivial,rfl⟩
  ·
   have h2':=d8 h2
   refine N9 rfl<|k9<|t9<|rM ?_
   refine d9 (P9 rfl rfl rfl) ?_
   refine rM ?_
   refine d9 (P9 rfl rfl rfl) ?_
   refine rB<|c9 ?_
   refine j9 rfl (fun h11=>?_) (fun h11=>?_)
   ·
    have h11':=a8 h11
    refine t9<|rA<|c9 ?_
    refine tk Tryz.func88 (.tmp rfl .nil) ?_ <;>(try clear ih0)
    all_goals(refine XX ?_;(rw [(c4 i3 i1 i2).1 (by omega) (by omega)];done))
   ·
    have h11':=d8 h11
    refine m9<|k9<|t9<|rM ?_
    refine d9 (P9 rfl rfl rfl) ?_
    refine rM ?_
    refine d9 (P9 rfl rfl rfl) ?_
    refine rB<|c9 ?_
    refine j9 rfl (fun h12=>?_) (fun h12=>?_)
    ·
     have h12':=a8 h12
     refine t9<|rA<|c9 ?_
     refine tk Tryz.func88 (.tmp rfl .nil) ?_ <;>(try clear ih0)
     all_goals(refine XX ?_;(rw [(c4 i3 i1 i2).2.1 (by omega) (by omega)];done))
    ·
     have h12':=d8 h12
     refine m9<|t9<|rA<|c9 ?_
     refine tk Tryz.func88 (.tmp rfl .nil) ?_ <;>(try clear ih0)
     all_goals(refine XX ?_;(rw [(c4 i3 i1 i2).2.2 (by omega) (by omega)];done))
 ·
  have g1':=d8 g1
  refine A9 (C9 g1) (fun _=>?_)
  refine A9 (C9 g1) (fun _=>?_)
  refine A9 (C9 g1) (fun _=>?_)
  refine d9 (G9 rfl rfl g1 rfl) ?_
  refine c9 ?_
  refine j9 rfl (C9 rfl) (fun _=>?_)
  refine N9 rfl<|k9<|t9<|rM ?_
  refine d9 (P9 rfl rfl rfl) ?_
  refine rM ?_
  refine d9 (P9 rfl rfl rfl) ?_
  refine rB<|c9 ?_
  refine j9 rfl (fun h13=>?_) (fun h13=>?_)
  ·
   have h13':=a8 h13
   refine t9<|rA<|c9 ?_
   refine tk Tryz.func88 (.tmp rfl .nil) ?_ <;>(try clear ih0)
   all_goals(refine XX ?_;(rw [(c4 i3 i1 i2).1 (by omega) (by omega)];done))
  ·
   have h13':=d8 h13
   refine m9<|k9<|t9<|rM ?_
   refine d9 (P9 rfl rfl rfl) ?_
   refine rM ?_
   refine d9 (P9 rfl rfl rfl) ?_
   refine rB<|c9 ?_
   refine j9 rfl (fun h14=>?_) (fun h14=>?_)
   ·
    have h14':=a8 h14
    refine t9<|rA<|c9 ?_
    refine tk Tryz.func88 (.tmp rfl .nil) ?_ <;>(try clear ih0)
    all_goals(refine XX ?_;(rw [(c4 i3 i1 i2).2.1 (by omega) (by omega)];done))
   ·
    have h14':=d8 h14
    refine m9<|t9<|rA<|c9 ?_
    refine tk Tryz.func88 (.tmp rfl .nil) ?_ <;>(try clear ih0)
    all_goals(refine XX ?_;(rw [(c4 i3 i1 i2).2.2 (by omega) (by omega)];done))
theorem H5 (r:Int)(l:List Int)(r2:Int)(l2:List Int)(hl:l.length≤1048576)(hl2:l2.length≤1048576):Pu Tryz.prog 36 [.agg [.t none (.v (.int .i64 r)),.t none (.sl 1 f9 l)],.agg [.t none (.v (.int .i64 r2)),.t none (.sl 1 f9 l2)]] [] 0 (.c (.t none (.v (.int .i64 (W8 (r,l) (r2,l2)))))):=by
 refine S7 Tryz.func36 fun w S=>?_
 refine t9 ?_
 refine d9 (m8 0 rfl rfl rfl rfl) ?_
 refine d9 (m8 1 rfl rfl rfl rfl) ?_
 refine rA<|c9<|k9<|t9 ?_
 refine rF 0 ?_
 refine rL ?_
 refine rF 0 ?_
 refine rL ?_
 refine rB<|c9 ?_
 refine j9 rfl (fun h1=>?_) (fun h1=>?_)
 ·
  have h1':=a8 h1
  refine t9<|rA<|c9 ?_
  refine tk Tryz.func36 (.tmp rfl .nil) ?_
  all_goals(refine XX ?_;unfold W8;(rw [if_pos (by assumption)];done))
 ·
  have h1':=d8 h1
  refine m9<|k9<|t9<|rF 0 ?_
  refine rL ?_
  refine rF 0 ?_
  refine rL ?_
  refine rB<|c9 ?_
  refine j9 rfl (fun h2=>?_) (fun h2=>?_)
  ·
   have h2':=a8 h2
   refine t9<|rA<|c9 ?_
   refine tk Tryz.func36 (.tmp rfl .nil) ?_
   all_goals(refine XX ?_;unfold W8;(rw [if_neg (by assumption),if_pos (by assumption)];done))
  ·
   have h2':=d8 h2
   refine m9<|t9<|rF 1 ?_
   refine rL ?_
   refine rF 1 ?_
   refine rL ?_
   refine d9 (n9 2 2 false (H9 Tryz.func88) (mW l l2 (by omega) (by omega)) rfl (.cons rfl (.c .t0) (.cons rfl (.c .t0) .nil)) rfl rfl rfl) ?_
   refine rA<|c9 ?_
   refine tk Tryz.func36 (.tmp rfl .nil) ?_
   all_goals(refine XX ?_;unfold W8;(rw [if_neg (by assumption),if_neg (by assumption)];done))
theorem gX (rs:T9)(fs:w9)(r:Int)(ts:List Int)(hfs:N8 (fun(x:Int ×(List Int))=>x.2.length) fs≤1048576)(hts:ts.length≤1048576):Pu Tryz.prog 150 [.agg [.t none (.sl 3 (j8 Y9 f9 U9) rs),.t none (.sl 2 (y9 f9 (x9 1 f9)) fs)],.agg [.t none (.v (.int .i64 r)),.t none (.sl 1 f9 ts)]] [] 0 (.c (.t none (.v (.int .i64 (Y4 (fun x=>decide (W8 x (r,ts)=0)) fs))))):=by
 refine S7 Tryz.func150 fun w S=>?_
 have gl:=I8 (f:=(fun(x:Int ×(List Int))=>x.2.length)) (l:=fs)
 refine t9 ?_
 refine d9 (m8 0 rfl rfl rfl rfl) ?_
 refine d9 (m8 1 rfl rfl rfl rfl) ?_
 refine rA<|c9<|k9<|t9 ?_
 refine rA<|c9<|p9 ?_
 refine J9 (fun m=>⟨[(2,some (.c (.ptr 0 0))),(3,some (.c (.ptr 1 0))),(5,some (.c (.t none (.v (.int .i64 ((m:Int)))))))],[(0,some (.box [.t none (.sl 3 (j8 Y9 f9 U9) rs),.t none (.sl 2 (y9 f9 (x9 1 f9)) fs)])),(1,some (.box [.t none (.v (.int .i64 r)),.t none (.sl 1 f9 ts)]))],2⟩:Nat→St) (fun m=>m≤fs.length∧∀j z,j < m→fs[j]? =some z→(fun x=>decide (W8 x (r,ts)=0)) z=false) (fun m=>fs.length - m) 0 ⟨⟨rfl,⟨rfl,⟨rfl,trivial⟩⟩⟩,⟨rfl,⟨rfl,trivial⟩⟩,rfl⟩ (by exact⟨Nat.zero_le _,fun j z h=>by omega⟩) ?_
 rintro m hI ih0
 try dsimp only at hI ih0
 obtain⟨i1,i2⟩:=hI
 refine k9<|t9<|rM ?_
 refine rF 1 ?_
 refine rL ?_
 refine d9 (P9 rfl rfl rfl) ?_
 refine rB<|c9 ?_
 refine j9 rfl (fun h1=>?_) (fun h1=>?_)
 ·
  have h1':=a8 h1
  refine m9<|k9<|p9<|k9 ?_
  refine tY ?_
  refine dT 0 rfl (pF 1) ?_
  refine dT 1 rfl pL ?_
  refine dT 2 rfl pM ?_
  obtain⟨z2,hz3,b4⟩:=v9 (xs:=fs) (n:=(m:Int)) (by omega) (by omega)
  refine dT 3 rfl (p8 (by kernel_rfl) rfl rfl b4 hz3) ?_
  refine dT 4 rfl (p6 (n:=2) (by kernel_rfl) (by kernel_rfl) rfl rfl) ?_
  refine dT 5 rfl (pC 2) ?_
  refine dO 6 rfl (n9 2 2 false (H9 Tryz.func36) (H5 z2.1 z2.2 r ts (by(have e1:=X7 (f:=(fun(x:Int ×(List Int))=>x.2.length)) (l:=fs) (m:=m) (by assumption);(try dsimp only at e1);omega)) (by omega)) rfl (.cons rfl (.agg (.cons .t0 (.cons .t0 .nil))) (.cons rfl (.agg (.cons .t0 (.cons .t0 .nil))) .nil)) rfl rfl rfl) ?_
  refine dT 7 rfl pB ?_
  refine dE ?_
  refine j9 rfl (fun h5=>?_) (fun h5=>?_)
  ·
   have h5':=a8 h5
   refine t9<|rM ?_
   refine rA<|c9 ?_
   refine tk Tryz.func150 (.tmp rfl .nil) ?_ <;>(try clear ih0)
   all_goals(rw [W2 i2 (by assumption) (by assumption)])
  ·
   have h5':=d8 h5
   refine m9<|i9<|l9<|rM ?_
   refine rB ?_
   refine rA<|c9 ?_
   refine Z9 ?_ (ih0 (m + 1) (by(try dsimp only);omega) (by(try dsimp only);exact⟨by omega,p5 i2 (by assumption) rfl (by assumption)⟩))
   exact⟨⟨rfl,⟨rfl,⟨(L7 (n8 (by omega) (by omega))),trivial⟩⟩⟩,⟨rfl,⟨rfl,trivial⟩⟩,rfl⟩
 ·
  have h1':=d8 h1
  refine N9 rfl<|t9<|rA<|c9 ?_
  refine tk Tryz.func150 (.tmp rfl .nil) ?_ <;>(try clear ih0)
  all_goals(rw [I3 i2 (by omega)])
theorem NZ (r:Int)(ts:List Int)(hl:ts.length≤1048576):Pu Tryz.prog 80 [.agg [.t none (.v (.int .i64 r)),.t none (.sl 1 f9 ts)]] [(2,some (.row none 3 true 1 f9 ts))] 3 (.agg [.t none (.v (.int .i64 r)),.own 2]):=by
 refine S7 Tryz.func80 fun w S=>?_
 refine t9 ?_
 refine d9 (m8 0 rfl rfl rfl rfl) ?_
 refine d9 (F9 1 (zs:=[.int .i64 0,.slice none 0 0]) rfl rfl (by kernel_rfl) rfl) ?_
 refine c9<|k9 ?_
 refine tD (fun i=>!(Nat.beq i 5||Nat.beq i 7)) ?_
 refine dT 3 rfl (pF 1) ?_
 refine dT 4 rfl pL ?_
 refine H8 0 2 rfl rfl (by kernel_rfl) rfl rfl (oF 0) (c7 2 (e:=3) (sz:=1) (zs:=[.int .i64 0]) f9 rfl rfl (by kernel_rfl) rfl) ?_ ?_
 ·
  refine H8 1 2 rfl rfl (by kernel_rfl) rfl rfl oL (c7 2 (e:=3) (sz:=1) (zs:=[.int .i64 0]) f9 rfl rfl (by kernel_rfl) rfl) ?_ ?_
  ·
   refine dO 2 rfl (c7 2 (e:=3) (sz:=1) (zs:=[.int .i64 0]) f9 rfl rfl (by kernel_rfl) rfl) ?_
   refine dO 5 rfl (o7 2 (e:=3) (sz:=1) (by':=8) rfl (by kernel_rfl) rfl rfl rfl rfl (fun _ _=>⟨_,rfl⟩) (by(simp;omega)) (by(simp;omega))) ?_
   refine dT 6 rfl (pX [(0,1),(1,1)] [.int .i64 0,.slice none 0 0]) ?_
   refine dO 7 rfl (oS 2) ?_
   refine dE ?_
   refine tk Tryz.func80 (X9 2 .nil) ?_ (hL:=⟨Q8 ?_,trivial⟩)
   all_goals rfl
  ·
   refine H8 1 5 rfl rfl (by kernel_rfl) rfl rfl oL (o7 2 (e:=3) (sz:=1) (by':=8) rfl (by kernel_rfl) rfl rfl rfl rfl (fun _ _=>⟨_,rfl⟩) (by(simp;omega)) (by(simp;omega))) ?_ ?_
   ·
    refine dO 5 rfl (o7 2 (e:=3) (sz:=1) (by':=8) rfl (by kernel_rfl) rfl rfl rfl rfl (fun _ _=>⟨_,rfl⟩) (by(simp;omega)) (by(simp;omega))) ?_
    refine dT 6 rfl (pX [(0,1),(1,1)] [.int .i64 0,.slice none 0 0]) ?_
    refine dO 7 rfl (oS 2) ?_
    refine dE ?_
    refine tk Tryz.func80 (X9 2 .nil) ?_ (hL:=⟨Q8 ?_,trivial⟩)
    all_goals rfl
   ·
    refine dT 1 rfl pL ?_
    refine dT 6 rfl (pX [(0,1),(1,1)] [.int .i64 0,.slice none 0 0]) ?_
    refine dO 7 rfl (oS 2) ?_
    refine dE ?_
    refine tk Tryz.func80 (X9 2 .nil) ?_ (hL:=⟨Q8 ?_,trivial⟩)
    all_goals rfl
 ·
  refine H8 0 5 rfl rfl (by kernel_rfl) rfl rfl (oF 0) (o7 2 (e:=3) (sz:=1) (by':=8) rfl (by kernel_rfl) rfl rfl rfl rfl (fun _ _=>⟨_,rfl⟩) (by(simp;omega)) (by(simp;omega))) ?_ ?_
  ·
   refine H8 1 5 rfl rfl (by kernel_rfl) rfl rfl oL (o7 2 (e:=3) (sz:=1) (by':=8) rfl (by kernel_rfl) rfl rfl rfl rfl (fun _ _=>⟨_,rfl⟩) (by(simp;omega)) (by(simp;omega))) ?_ ?_
   ·
    refine dO 5 rfl (o7 2 (e:=3) (sz:=1) (by':=8) rfl (by kernel_rfl) rfl rfl rfl rfl (fun _ _=>⟨_,rfl⟩) (by(simp;omega)) (by(simp;omega))) ?_
    refine dT 6 rfl (pX [(0,1),(1,1)] [.int .i64 0,.slice none 0 0]) ?_
    refine dO 7 rfl (oS 2) ?_
    refine dE ?_
    refine tk Tryz.func80 (X9 2 .nil) ?_ (hL:=⟨Q8 ?_,trivial⟩)
    all_goals rfl
   ·
    refine dT 1 rfl pL ?_
    refine dT 6 rfl (pX [(0,1),(1,1)] [.int .i64 0,.slice none 0 0]) ?_
    refine dO 7 rfl (oS 2) ?_
    refine dE ?_
    refine tk Tryz.func80 (X9 2 .nil) ?_ (hL:=⟨Q8 ?_,trivial⟩)
    all_goals rfl
  ·
   refine dT 0 rfl (pF 0) ?_
   refine dT 1 rfl pL ?_
   refine dT 6 rfl (pX [(0,1),(1,1)] [.int .i64 0,.slice none 0 0]) ?_
   refine dO 7 rfl (oS 2) ?_
   refine dE ?_
   refine tk Tryz.func80 (X9 2 .nil) ?_ (hL:=⟨Q8 ?_,trivial⟩)
   all_goals rfl
theorem Y7 (rs:T9)(fs:w9)(r:Int)(ts:List Int)(hfs:N8 (fun(x:Int ×(List Int))=>x.2.length) fs≤1048576)(hts:ts.length≤1048576):Pu Tryz.prog 87 [.agg [.t none (.sl 3 (j8 Y9 f9 U9) rs),.t none (.sl 2 (y9 f9 (x9 1 f9)) fs)],.agg [.t none (.v (.int .i64 r)),.t none (.sl 1 f9 ts)]] [] 0 (.agg [.t none (.sl 3 (j8 Y9 f9 U9) rs),.t none (.sl 2 (y9 f9 (x9 1 f9)) (G4 fs (r,ts)))]):=by
 refine S7 Tryz.func87 fun w S=>?_
 have gl:=I8 (f:=(fun(x:Int ×(List Int))=>x.2.length)) (l:=fs)
 refine t9 ?_
 refine d9 (m8 0 rfl rfl rfl rfl) ?_
 refine d9 (m8 1 rfl rfl rfl rfl) ?_
 refine d9 (F9 2 (zs:=[.slice none 0 0,.slice none 0 0]) rfl rfl (by kernel_rfl) rfl) ?_
 refine c9<|k9<|t9<|rC 2 ?_
 refine rC 2 ?_
 refine d9 (n9 3 3 false (H9 Tryz.func150) (gX rs fs r ts (by omega) (by omega)) rfl (.cons rfl (.agg (.cons .t0 (.cons .t0 .nil))) (.cons rfl (.agg (.cons .t0 (.cons .t0 .nil))) .nil)) rfl rfl rfl) ?_
 refine rB<|c9 ?_
 refine j9 rfl (fun h1=>?_) (fun h1=>?_)
 ·
  have h1':=a8 h1
  refine t9<|rC 2 ?_
  refine rS 2<|c9 ?_
  refine tk Tryz.func87 (X9 2 .nil) ?_ <;>(try clear ih0)
  all_goals(refine rV ?_ ?_ <;> first | rfl | exact(CO (by assumption)).symm)
 ·
  have h1':=d8 h1
  refine m9<|t9<|rA<|c9<|k9<|p9 ?_
  refine J9 (fun m=>⟨[(2,some (.c (.ptr 0 0))),(3,some (.c (.ptr 1 0))),(4,some (.c (.ptr 2 0))),(5,some (.c (.t none (.v (.int .i64 ((m:Int)))))))],[(0,some (.box [.t none (.sl 3 (j8 Y9 f9 U9) rs),.t none (.sl 2 (y9 f9 (x9 1 f9)) fs)])),(1,some (.box [.t none (.v (.int .i64 r)),.t none (.sl 1 f9 ts)])),(2,some (.box [.t none (.v (.slice none 0 0)),.t none (.v (.slice none 0 0))]))],3⟩:Nat→St) (fun m=>m≤fs.length∧∀j y,j < m→fs[j]? =some y→W8 y (r,ts) < 0) (fun m=>fs.length - m) 0 ⟨⟨rfl,⟨rfl,⟨rfl,⟨rfl,trivial⟩⟩⟩⟩,⟨rfl,⟨rfl,⟨rfl,trivial⟩⟩⟩,rfl⟩ (by exact⟨Nat.zero_le _,fun j y h=>by omega⟩) ?_
  rintro m hI ih0
  try dsimp only at hI ih0
  obtain⟨i1,i2⟩:=hI
  refine k9<|k9 ?_
  refine tY ?_
  refine dT 0 rfl pM ?_
  refine dT 1 rfl (pF 1) ?_
  refine dT 2 rfl pL ?_
  refine dT 3 rfl (X6 rfl rfl) ?_
  refine dT 4 rfl pB ?_
  refine dT 5 rfl pM ?_
  refine dH 6 rfl (fun _=>pF 1) (fun g2=>?_) (fun g2=>?_)
  ·
   have g2':=a8 g2
   refine dH 7 rfl (fun _=>pL) (fun _=>?_) (nc g2)
   refine dH 8 rfl (fun _=>pM) (fun _=>?_) (nc g2)
   obtain⟨z3,hz4,b5⟩:=v9 (xs:=fs) (n:=(m:Int)) (by omega) (by omega)
   refine dH 9 rfl (fun _=>p8 (by kernel_rfl) rfl rfl b5 hz4) (fun _=>?_) (nc g2)
   refine dH 10 rfl (fun _=>p6 (n:=2) (by kernel_rfl) (by kernel_rfl) rfl rfl) (fun _=>?_) (nc g2)
   refine dH 11 rfl (fun _=>pC 2) (fun _=>?_) (nc g2)
   refine C7 12 rfl rfl (by kernel_rfl) rfl rfl rfl (fun _=>(n9 3 3 false (H9 Tryz.func36) (H5 z3.1 z3.2 r ts (by(have e1:=X7 (f:=(fun(x:Int ×(List Int))=>x.2.length)) (l:=fs) (m:=m) (by assumption);(try dsimp only at e1);omega)) (by omega)) rfl (.cons rfl (.agg (.cons .t0 (.cons .t0 .nil))) (.cons rfl (.agg (.cons .t0 (.cons .t0 .nil))) .nil)) rfl rfl rfl)) (fun _=>?_) (nc g2)
   refine dH 13 rfl (fun _=>pB) (fun _=>?_) (nc g2)
   refine dT 14 rfl (C8 rfl g2 rfl) ?_
   refine dE ?_
   refine j9 rfl (fun h6=>?_) (fun h6=>?_)
   ·
    have h6':=a8 h6
    refine m9<|p9<|l9<|rM ?_
    refine rB ?_
    refine rA<|c9<|i9 ?_
    refine Z9 ?_ (ih0 (m + 1) (by(try dsimp only);omega) (by(try dsimp only);exact⟨by omega,gK i2 hz4 rfl (by assumption)⟩))
    exact⟨⟨rfl,⟨rfl,⟨rfl,⟨(L7 (n8 (by omega) (by omega))),trivial⟩⟩⟩⟩,⟨rfl,⟨rfl,⟨rfl,trivial⟩⟩⟩,rfl⟩
   ·
    have h6':=d8 h6
    refine N9 rfl<|k9 ?_
    refine tD (fun i=>!(Nat.beq i 7)) ?_
    refine dT 0 rfl (pC 2) ?_
    refine dT 3 rfl (pF 1) ?_
    refine dT 4 rfl pL ?_
    refine dT 5 rfl pM ?_
    refine dT 6 rfl (SP (by kernel_rfl) rfl (.l rfl (by omega) (by omega))) ?_
    refine dO 1 rfl (n9 3 6 false (H9 Tryz.func80) (NZ r ts (by omega)) rfl (.cons rfl (.agg (.cons .t0 (.cons .t0 .nil))) .nil) rfl rfl rfl) ?_
    refine dO 2 rfl (m7 6 (e:=64) (sz:=2) (zs:=[.int .i64 0,.slice none 0 0]) (enc:=(y9 f9 (x9 1 f9))) [(r,ts)] rfl rfl (by kernel_rfl) rfl rfl rfl rfl rfl rfl rfl rfl (.cons .sc (.take (.own rfl) rfl .nil)) rfl) ?_
    refine KV 6 rfl (K9 rfl) ?_
    refine dO 7 rfl (Z7 6 (e:=64) (sz:=2) (by':=32) rfl (by kernel_rfl) rfl rfl rfl rfl (by(simp only [List.length_append,List.length_take,List.length_drop,List.length_cons,List.length_nil];omega)) (by(simp only [List.length_append,List.length_take,List.length_drop,List.length_cons,List.length_nil];omega))) ?_
    refine dT 8 rfl pA ?_
    refine dE ?_
    refine k9 ?_
    refine tD (fun i=>!(Nat.beq i 7||Nat.beq i 9||Nat.beq i 11)) ?_
    refine V8 0 rfl rfl (by kernel_rfl) (by kernel_rfl) (by kernel_rfl) (I7 (off:=0) (by kernel_rfl) rfl) ?_
    refine dT 3 rfl (pF 1) ?_
    refine dT 4 rfl pL ?_
    refine dT 5 rfl pM ?_
    refine dT 6 rfl (SP (by kernel_rfl) rfl (.h rfl (by omega) (by omega))) ?_
    refine V8 8 rfl rfl (by kernel_rfl) (by kernel_rfl) (by kernel_rfl) (G5 rfl) ?_
    refine H8 1 2 rfl rfl (by kernel_rfl) rfl rfl oL (c7 7 (e:=64) (sz:=2) (zs:=[.int .i64 0,.slice none 0 0]) (y9 f9 (x9 1 f9)) rfl rfl (by kernel_rfl) rfl) ?_ ?_
    ·
     refine dO 2 rfl (c7 7 (e:=64) (sz:=2) (zs:=[.int .i64 0,.slice none 0 0]) (y9 f9 (x9 1 f9)) rfl rfl (by kernel_rfl) rfl) ?_
     refine KV 7 rfl (K9 rfl) ?_
     refine dO 7 rfl (Z7 7 (e:=64) (sz:=2) (by':=32) rfl (by kernel_rfl) rfl rfl rfl rfl (by(simp only [List.length_append,List.length_take,List.length_drop,List.length_cons,List.length_nil];omega)) (by(simp only [List.length_append,List.length_take,List.length_drop,List.length_cons,List.length_nil];omega))) ?_
     refine W7 6 rfl (K9 rfl) ?_
     refine dO 9 rfl (Z7 7 (e:=64) (sz:=2) (by':=32) rfl (by kernel_rfl) rfl rfl rfl rfl (by(simp only [List.length_append,List.length_take,List.length_drop,List.length_cons,List.length_nil];omega)) (by(simp only [List.length_append,List.length_take,List.length_drop,List.length_cons,List.length_nil];omega))) ?_
     refine dT 10 rfl (pX [(0,1),(1,1)] [.slice none 0 0,.slice none 0 0]) ?_
     refine dO 11 rfl (oS 2) ?_
     refine dE ?_
     refine s9 7 rfl (K9 rfl) ?_
     refine tk Tryz.func87 (X9 2 .nil) ?_ <;>(try clear ih0)
     all_goals(refine rV ?_ ?_ <;> first | rfl | (rw [K1 (m:=m) (by assumption) i2 i1 (fun y hy=>by(have e7:=Option.some.inj (hy.symm.trans hz4);subst e7;assumption))];simp))
    ·
     refine KV 7 rfl (K9 rfl) ?_
     refine H8 1 7 rfl rfl (by kernel_rfl) rfl rfl oL (Z7 7 (e:=64) (sz:=2) (by':=32) rfl (by kernel_rfl) rfl rfl rfl rfl (by(simp only [List.length_append,List.length_take,List.length_drop,List.length_cons,List.length_nil];omega)) (by(simp only [List.length_append,List.length_take,List.length_drop,List.length_cons,List.length_nil];omega))) ?_ ?_
     ·
      refine dO 7 rfl (Z7 7 (e:=64) (sz:=2) (by':=32) rfl (by kernel_rfl) rfl rfl rfl rfl (by(simp only [List.length_append,List.length_take,List.length_drop,List.length_cons,List.length_nil];omega)) (by(simp only [List.length_append,List.length_take,List.length_drop,List.length_cons,List.length_nil];omega))) ?_
      refine W7 6 rfl (K9 rfl) ?_
      refine dO 9 rfl (Z7 7 (e:=64) (sz:=2) (by':=32) rfl (by kernel_rfl) rfl rfl rfl rfl (by(simp only [List.length_append,List.length_take,List.length_drop,List.length_cons,List.length_nil];omega)) (by(simp only [List.length_append,List.length_take,List.length_drop,List.length_cons,List.length_nil];omega))) ?_
      refine dT 10 rfl (pX [(0,1),(1,1)] [.slice none 0 0,.slice none 0 0]) ?_
      refine dO 11 rfl (oS 2) ?_
      refine dE ?_
      refine s9 7 rfl (K9 rfl) ?_
      refine tk Tryz.func87 (X9 2 .nil) ?_ <;>(try clear ih0)
      all_goals(refine rV ?_ ?_ <;> first | rfl | (rw [K1 (m:=m) (by assumption) i2 i1 (fun y hy=>by(have e7:=Option.some.inj (hy.symm.trans hz4);subst e7;assumption))];simp))
     ·
      refine W7 6 rfl (K9 rfl) ?_
      refine H8 1 9 rfl rfl (by kernel_rfl) rfl rfl oL (Z7 7 (e:=64) (sz:=2) (by':=32) rfl (by kernel_rfl) rfl rfl rfl rfl (by(simp only [List.length_append,List.length_take,List.length_drop,List.length_cons,List.length_nil];omega)) (by(simp only [List.length_append,List.length_take,List.length_drop,List.length_cons,List.length_nil];omega))) ?_ ?_
      ·
       refine dO 9 rfl (Z7 7 (e:=64) (sz:=2) (by':=32) rfl (by kernel_rfl) rfl rfl rfl rfl (by(simp only [List.length_append,List.length_take,List.length_drop,List.length_cons,List.length_nil];omega)) (by(simp only [List.length_append,List.length_take,List.length_drop,List.length_cons,List.length_nil];omega))) ?_
       refine dT 10 rfl (pX [(0,1),(1,1)] [.slice none 0 0,.slice none 0 0]) ?_
       refine dO 11 rfl (oS 2) ?_
       refine dE ?_
       refine s9 7 rfl (K9 rfl) ?_
       refine tk Tryz.func87 (X9 2 .nil) ?_ <;>(try clear ih0)
       all_goals(refine rV ?_ ?_ <;> first | rfl | (rw [K1 (m:=m) (by assumption) i2 i1 (fun y hy=>by(have e7:=Option.some.inj (hy.symm.trans hz4);subst e7;assumption))];simp))
      ·
       refine dT 1 rfl pL ?_
       refine dT 10 rfl (pX [(0,1),(1,1)] [.slice none 0 0,.slice none 0 0]) ?_
       refine dO 11 rfl (oS 2) ?_
       refine dE ?_
       refine s9 7 rfl (K9 rfl) ?_
       refine tk Tryz.func87 (X9 2 .nil) ?_ <;>(try clear ih0)
       all_goals(refine rV ?_ ?_ <;> first | rfl | (rw [K1 (m:=m) (by assumption) i2 i1 (fun y hy=>by(have e7:=Option.some.inj (hy.symm.trans hz4);subst e7;assumption))];simp))
  ·
   have g2':=d8 g2
   refine dG 7 (C9 g2) (fun _=>?_)
   refine dG 8 (C9 g2) (fun _=>?_)
   refine dG 9 (C9 g2) (fun _=>?_)
   refine dG 10 (C9 g2) (fun _=>?_)
   refine dG 11 (C9 g2) (fun _=>?_)
   refine dG 12 (C9 g2) (fun _=>?_)
   refine dG 13 (C9 g2) (fun _=>?_)
   refine dT 14 rfl (r8 rfl g2 rfl) ?_
   refine dE ?_
   refine j9 rfl (C9 rfl) (fun _=>?_)
   refine N9 rfl<|k9 ?_
   refine tD (fun i=>!(Nat.beq i 7)) ?_
   refine dT 0 rfl (pC 2) ?_
   refine dT 3 rfl (pF 1) ?_
   refine dT 4 rfl pL ?_
   refine dT 5 rfl pM ?_
   refine dT 6 rfl (SP (by kernel_rfl) rfl (.l rfl (by omega) (by omega))) ?_
   refine dO 1 rfl (n9 3 6 false (H9 Tryz.func80) (NZ r ts (by omega)) rfl (.cons rfl (.agg (.cons .t0 (.cons .t0 .nil))) .nil) rfl rfl rfl) ?_
   refine dO 2 rfl (m7 6 (e:=64) (sz:=2) (zs:=[.int .i64 0,.slice none 0 0]) (enc:=(y9 f9 (x9 1 f9))) [(r,ts)] rfl rfl (by kernel_rfl) rfl rfl rfl rfl rfl rfl rfl rfl (.cons .sc (.take (.own rfl) rfl .nil)) rfl) ?_
   refine KV 6 rfl (K9 rfl) ?_
   refine dO 7 rfl (Z7 6 (e:=64) (sz:=2) (by':=32) rfl (by kernel_rfl) rfl rfl rfl rfl (by(simp only [List.length_append,List.length_take,List.length_drop,List.length_cons,List.length_nil];omega)) (by(simp only [List.length_append,List.length_take,List.length_drop,List.length_cons,List.length_nil];omega))) ?_
   refine dT 8 rfl pA ?_
   refine dE ?_
   refine k9 ?_
   refine tD (fun i=>!(Nat.beq i 7||Nat.beq i 9||Nat.beq i 11)) ?_
   refine V8 0 rfl rfl (by kernel_rfl) (by kernel_rfl) (by kernel_rfl) (I7 (off:=0) (by kernel_rfl) rfl) ?_
   refine dT 3 rfl (pF 1) ?_
   refine dT 4 rfl pL ?_
   refine dT 5 rfl pM ?_
   refine dT 6 rfl (SP (by kernel_rfl) rfl (.h rfl (by omega) (by omega))) ?_
   refine V8 8 rfl rfl (by kernel_rfl) (by kernel_rfl) (by kernel_rfl) (G5 rfl) ?_
   refine H8 1 2 rfl rfl (by kernel_rfl) rfl rfl oL (c7 7 (e:=64) (sz:=2) (zs:=[.int .i64 0,.slice none 0 0]) (y9 f9 (x9 1 f9)) rfl rfl (by kernel_rfl) rfl) ?_ ?_
   ·
    refine dO 2 rfl (c7 7 (e:=64) (sz:=2) (zs:=[.int .i64 0,.slice none 0 0]) (y9 f9 (x9 1 f9)) rfl rfl (by kernel_rfl) rfl) ?_
    refine KV 7 rfl (K9 rfl) ?_
    refine dO 7 rfl (Z7 7 (e:=64) (sz:=2) (by':=32) rfl (by kernel_rfl) rfl rfl rfl rfl (by(simp only [List.length_append,List.length_take,List.length_drop,List.length_cons,List.length_nil];omega)) (by(simp only [List.length_append,List.length_take,List.length_drop,List.length_cons,List.length_nil];omega))) ?_
    refine W7 6 rfl (K9 rfl) ?_
    refine dO 9 rfl (Z7 7 (e:=64) (sz:=2) (by':=32) rfl (by kernel_rfl) rfl rfl rfl rfl (by(simp only [List.length_append,List.length_take,List.length_drop,List.length_cons,List.length_nil];omega)) (by(simp only [List.length_append,List.length_take,List.length_drop,List.length_cons,List.length_nil];omega))) ?_
    refine dT 10 rfl (pX [(0,1),(1,1)] [.slice none 0 0,.slice none 0 0]) ?_
    refine dO 11 rfl (oS 2) ?_
    refine dE ?_
    refine s9 7 rfl (K9 rfl) ?_
    refine tk Tryz.func87 (X9 2 .nil) ?_ <;>(try clear ih0)
    all_goals(refine rV ?_ ?_ <;> first | rfl | (rw [K1 (m:=m) (by assumption) i2 i1 (fun y hy=>by(have e7:=(List.getElem?_eq_some_iff.1 hy).1;omega))];simp))
   ·
    refine KV 7 rfl (K9 rfl) ?_
    refine H8 1 7 rfl rfl (by kernel_rfl) rfl rfl oL (Z7 7 (e:=64) (sz:=2) (by':=32) rfl (by kernel_rfl) rfl rfl rfl rfl (by(simp only [List.length_append,List.length_take,List.length_drop,List.length_cons,List.length_nil];omega)) (by(simp only [List.length_append,List.length_take,List.length_drop,List.length_cons,List.length_nil];omega))) ?_ ?_
    ·
     refine dO 7 rfl (Z7 7 (e:=64) (sz:=2) (by':=32) rfl (by kernel_rfl) rfl rfl rfl rfl (by(simp only [List.length_append,List.length_take,List.length_drop,List.length_cons,List.length_nil];omega)) (by(simp only [List.length_append,List.length_take,List.length_drop,List.length_cons,List.length_nil];omega))) ?_
     refine W7 6 rfl (K9 rfl) ?_
     refine dO 9 rfl (Z7 7 (e:=64) (sz:=2) (by':=32) rfl (by kernel_rfl) rfl rfl rfl rfl (by(simp only [List.length_append,List.length_take,List.length_drop,List.length_cons,List.length_nil];omega)) (by(simp only [List.length_append,List.length_take,List.length_drop,List.length_cons,List.length_nil];omega))) ?_
     refine dT 10 rfl (pX [(0,1),(1,1)] [.slice none 0 0,.slice none 0 0]) ?_
     refine dO 11 rfl (oS 2) ?_
     refine dE ?_
     refine s9 7 rfl (K9 rfl) ?_
     refine tk Tryz.func87 (X9 2 .nil) ?_ <;>(try clear ih0)
     all_goals(refine rV ?_ ?_ <;> first | rfl | (rw [K1 (m:=m) (by assumption) i2 i1 (fun y hy=>by(have e7:=(List.getElem?_eq_some_iff.1 hy).1;omega))];simp))
    ·
     refine W7 6 rfl (K9 rfl) ?_
     refine H8 1 9 rfl rfl (by kernel_rfl) rfl rfl oL (Z7 7 (e:=64) (sz:=2) (by':=32) rfl (by kernel_rfl) rfl rfl rfl rfl (by(simp only [List.length_append,List.length_take,List.length_drop,List.length_cons,List.length_nil];omega)) (by(simp only [List.length_append,List.length_take,List.length_drop,List.length_cons,List.length_nil];omega))) ?_ ?_
     ·
      refine dO 9 rfl (Z7 7 (e:=64) (sz:=2) (by':=32) rfl (by kernel_rfl) rfl rfl rfl rfl (by(simp only [List.length_append,List.length_take,List.length_drop,List.length_cons,List.length_nil];omega)) (by(simp only [List.length_append,List.length_take,List.length_drop,List.length_cons,List.length_nil];omega))) ?_
      refine dT 10 rfl (pX [(0,1),(1,1)] [.slice none 0 0,.slice none 0 0]) ?_
      refine dO 11 rfl (oS 2) ?_
      refine dE ?_
      refine s9 7 rfl (K9 rfl) ?_
      refine tk Tryz.func87 (X9 2 .nil) ?_ <;>(try clear ih0)
      all_goals(refine rV ?_ ?_ <;> first | rfl | (rw [K1 (m:=m) (by assumption) i2 i1 (fun y hy=>by(have e7:=(List.getElem?_eq_some_iff.1 hy).1;omega))];simp))
     ·
      refine dT 1 rfl pL ?_
      refine dT 10 rfl (pX [(0,1),(1,1)] [.slice none 0 0,.slice none 0 0]) ?_
      refine dO 11 rfl (oS 2) ?_
      refine dE ?_
      refine s9 7 rfl (K9 rfl) ?_
      refine tk Tryz.func87 (X9 2 .nil) ?_ <;>(try clear ih0)
      all_goals(refine rV ?_ ?_ <;> first | rfl | (rw [K1 (m:=m) (by assumption) i2 i1 (fun y hy=>by(have e7:=(List.getElem?_eq_some_iff.1 hy).1;omega))];simp))
theorem M6 (rs:T9)(fs:w9)(hrs:rs.length≤1048576)(hfs:N8 (fun(x:Int ×(List Int))=>x.2.length) fs≤1048576):Pu Tryz.prog 33 [.agg [.t none (.sl 3 (j8 Y9 f9 U9) rs),.t none (.sl 2 (y9 f9 (x9 1 f9)) fs)]] [(2,some (.row none 95 true 3 (j8 Y9 f9 U9) rs)),(4,some (.row none 64 true 2 (y9 f9 (x9 1 f9)) fs))] 5 (.agg [.own 2,.own 4]):=by
 refine S7 Tryz.func33 fun w S=>?_
 have gl:=I8 (f:=(fun(x:Int ×(List Int))=>x.2.length)) (l:=fs)
 refine t9 ?_
 refine d9 (m8 0 rfl rfl rfl rfl) ?_
 refine d9 (F9 1 (zs:=[.slice none 0 0,.slice none 0 0]) rfl rfl (by kernel_rfl) rfl) ?_
 refine P8 ?_
 refine d9 (c7 2 (e:=95) (sz:=3) (zs:=[.string (U6 ([])),.int .i64 0,.bool false]) (j8 Y9 f9 U9) rfl rfl (by kernel_rfl) rfl) ?_
 refine rF 0 ?_
 refine rL ?_
 refine d9 (o7 2 (e:=95) (sz:=3) (by':=32) rfl (by kernel_rfl) rfl rfl rfl rfl (fun _ j=>by rcases j with _ | _ | j <;> exact⟨_,rfl⟩) (by(simp;omega)) (by(simp;omega))) ?_
 refine d9 (oD [(0,1),(1,1)] [.slice none 0 0,.slice none 0 0]) ?_
 refine d9 (F9 3 (zs:=[.slice none 0 0,.slice none 0 0]) rfl rfl (by kernel_rfl) rfl) ?_
 refine rS 2<|c9<|k9<|t9 ?_
 refine rA<|c9<|p9 ?_
 refine A6 4 (b:=3) (o:=1) (et:=64) (sz:=2) true (y9 f9 (x9 1 f9)) rfl rfl rfl ?_
 refine J9 (fun m=>⟨[(1,some (.c (.ptr 0 0))),(2,some (.c (.ptr 1 0))),(3,some (.c (.ptr 3 0))),(4,some (.c (.t none (.v (.int .i64 ((m:Int)))))))],[(0,some (.box [.t none (.sl 3 (j8 Y9 f9 U9) rs),.t none (.sl 2 (y9 f9 (x9 1 f9)) fs)])),(1,some (.box [.t none (.v (.slice none 0 0)),.t none (.v (.slice none 0 0))])),(2,some (.row none 95 true 3 (j8 Y9 f9 U9) ([]++rs))),(3,some (.box [.own 2,.own 4])),(4,some (.row none 64 true 2 (y9 f9 (x9 1 f9)) (fs.take m)))],5⟩:Nat→St) (fun m=>m≤fs.length) (fun m=>fs.length - m) 0 ⟨⟨rfl,⟨rfl,⟨rfl,⟨rfl,trivial⟩⟩⟩⟩,⟨rfl,⟨rfl,⟨rfl,⟨rfl,⟨rfl,trivial⟩⟩⟩⟩⟩,rfl⟩ (by exact Nat.zero_le _) ?_
 rintro m hI ih0
 try dsimp only at hI ih0
 have i1:=hI
 refine k9<|t9<|rM ?_
 refine rF 1 ?_
 refine rL ?_
 refine d9 (P9 rfl rfl rfl) ?_
 refine rB<|c9 ?_
 refine j9 rfl (fun h1=>?_) (fun h1=>?_)
 ·
  have h1':=a8 h1
  refine m9<|k9<|p9 ?_
  refine tD (fun i=>!(Nat.beq i 9||Nat.beq i 11)) ?_
  refine dT 0 rfl (pF 1) ?_
  refine dT 1 rfl pL ?_
  refine dT 2 rfl (pF 1) ?_
  refine dT 3 rfl pL ?_
  refine dT 4 rfl pM ?_
  obtain⟨z2,hz3,b4⟩:=v9 (xs:=fs) (n:=(m:Int)) (by omega) (by omega)
  refine dT 5 rfl (p8 (by kernel_rfl) rfl rfl b4 hz3) ?_
  refine dT 6 rfl (p6 (n:=2) (by kernel_rfl) (by kernel_rfl) rfl rfl) ?_
  refine dO 7 rfl (n9 5 8 false (H9 Tryz.func80) (NZ z2.1 z2.2 (by(have e1:=X7 (f:=(fun(x:Int ×(List Int))=>x.2.length)) (l:=fs) (m:=m) (by assumption);(try dsimp only at e1);omega))) rfl (.cons rfl (.agg (.cons .t0 (.cons .t0 .nil))) .nil) rfl rfl rfl) ?_
  refine dO 8 rfl (w8 8 (e:=64) (sz:=2) (zs:=[.int .i64 0,.slice none 0 0]) rfl rfl (by kernel_rfl) rfl rfl rfl rfl rfl) ?_
  refine dO 9 rfl (W9 4 (e:=64) (sz:=2) (by':=32) ((z2.1,z2.2)) rfl (by kernel_rfl) rfl rfl rfl rfl rfl rfl (.cons .sc (.take (.own rfl) rfl .nil)) rfl (by(simp;omega)) (by(simp;omega))) ?_
  refine dT 10 rfl (pF 1) ?_
  refine dO 11 rfl (oS 1) ?_
  refine dE ?_
  refine i9<|l9<|rM ?_
  refine rB ?_
  refine rA<|c9 ?_
  refine Z9 ?_ (ih0 (m + 1) (by(try dsimp only);omega) (by(try dsimp only);omega))
  exact⟨⟨rfl,⟨rfl,⟨rfl,⟨(L7 (n8 (by omega) (by omega))),trivial⟩⟩⟩⟩,⟨rfl,⟨rfl,⟨rfl,⟨rfl,⟨(Q8 (rR hz3)),trivial⟩⟩⟩⟩⟩,rfl⟩
 ·
  have h1':=d8 h1
  refine N9 rfl<|t9<|rC 2 ?_
  refine rS 2<|c9 ?_
  refine tk Tryz.func33 (X9 2 .nil) ?_ (hL:=⟨Q8 ?_,⟨Q8 ?_,trivial⟩⟩) <;>(try clear ih0)
  all_goals first | rfl | ((rw [List.take_of_length_le (by omega)]))
theorem KY (code:List Int)(i h most:Int)(hc:code.length≤1048576)(hi0:0≤i)(hi1:i≤code.length)(hm:0≤most∧most≤5):vS Tryz.prog 96 [.c (.ptr 0 0),.c (.t none (.v (.int .i64 most)))] [.t none (.sl 1 u7 code),.t none (.v (.int .i64 i)),.t none (.v (.int .i64 h))] (fun(⟨fs,i2,h2⟩:w9 × Int × Int)=>fs.length≤5∧(∀a∈fs,PY a)∧0≤i2∧i2≤code.length) (fun(⟨fs,i2,h2⟩:w9 × Int × Int)=>[.t none (.sl 1 u7 code),.t none (.v (.int .i64 i2)),.t none (.v (.int .i64 h2))]) (fun(⟨fs,i2,h2⟩:w9 × Int × Int)=>[(3,some (.row none 95 true 3 (j8 Y9 f9 U9) X8)),(4,some (.row none 64 true 2 (y9 f9 (x9 1 f9)) fs))]) 5 (fun(⟨fs,i2,h2⟩:w9 × Int × Int)=> .agg [.own 3,.own 4]):=by
 refine D7 Tryz.func96 rfl (Nat.le_of_ble_eq_true rfl) fun v0 w S M hM=>?_
 refine t9 ?_
 refine d9 (F9 1 (zs:=[.slice none 0 0,.slice none 0 0]) rfl rfl (by kernel_rfl) rfl) ?_
 refine P8 ?_
 refine d9 (n9 2 3 false (H9 Tryz.func109) (V2) rfl .nil rfl rfl rfl) ?_
 refine d9 (oD [(0,1),(1,1)] [.slice none 0 0,.slice none 0 0]) ?_
 refine d9 (F9 3 (zs:=[.slice none 0 0,.slice none 0 0]) rfl rfl (by kernel_rfl) rfl) ?_
 refine rS 2<|c9<|k9<|t9 ?_
 refine rM ?_
 refine rM ?_
 refine rB ?_
 refine K8 (o9 0 4 5 (pv:=some v0) (H9 Tryz.func41) (r9 code i h (IntKind.i64.wrap (most + 1)) (by omega) (by omega) (by omega) (by(simp only [IntKind.wrap_i64] at *;omega)) (by(simp only [IntKind.wrap_i64] at *;omega))) rfl rfl (.cur rfl (.cons rfl .nil)) rfl (fun⟨_,_,_⟩=>rfl) (fun _=>rfl) (fun⟨_,_,_⟩=>rfl) rfl rfl) ?_
 rintro⟨⟨x1,i22,h23⟩,hq4⟩
 try dsimp only at hq4
 try dsimp only
 obtain⟨q5,q6⟩:=hq4
 refine rA<|c9<|p9 ?_
 refine s9 2 rfl (c8 (i:=2) hM rfl rfl rfl) ?_
 refine eQ 3 1 (sz:=2) (y9 f9 (x9 1 f9)) rfl rfl ?_
 refine J9 (fun(kk,fs,i3,h3)=>⟨[(0,some (.c (.ptr 0 0))),(4,some (.c (.ptr 1 0))),(5,some (.c (.ptr 3 0))),(6,some (.c (.t none (.v (.int .i64 kk)))))],[(0,some (.pbox v0 [.t none (.sl 1 u7 code),.t none (.v (.int .i64 i3)),.t none (.v (.int .i64 h3))])),(1,some (.box [.t none (.v (.slice none 0 0)),.t none (.v (.slice none 0 0))])),(3,some (.box [.t none (.sl 3 (j8 Y9 f9 U9) X8),.t none (.sl 2 (y9 f9 (x9 1 f9)) fs)]))],5⟩:Int × w9 × Int × Int→St) (fun(kk,fs,i3,h3)=>(0≤kk∧kk≤5)∧((fs.length:Int) + kk≤5)∧(fs.length≤5)∧(∀a∈fs,PY a)∧(0≤i3∧i3≤code.length)) (fun(kk,fs,i3,h3)=>kk.toNat) (x1,[],i22,h23) ⟨⟨rfl,⟨rfl,⟨rfl,⟨rfl,trivial⟩⟩⟩⟩,⟨rfl,⟨rfl,⟨rfl,trivial⟩⟩⟩,rfl⟩ (by exact⟨(by(try dsimp only);((try simp only [IntKind.wrap_i64] at *);omega)),(by(try dsimp only);(try simp only [List.length_nil]);((try simp only [IntKind.wrap_i64] at *);omega)),(by simp),(fun a ha=>by simp at ha),(by(try dsimp only);omega)⟩) ?_
 rintro⟨kk,fs,i3,h3⟩ hI ih0
 try dsimp only at hI ih0
 obtain⟨b1,b2,b3,b4,b5⟩:=hI
 refine k9<|t9<|rM ?_
 refine rB<|c9 ?_
 refine j9 rfl (fun h7=>?_) (fun h7=>?_)
 ·
  have h7':=a8 h7
  refine m9<|k9<|p9 ?_
  refine tD (fun i=>!(Nat.beq i 3||Nat.beq i 4||Nat.beq i 6)) ?_
  refine V8 1 rfl rfl (by kernel_rfl) (by kernel_rfl) (by kernel_rfl) (G5 rfl) ?_
  refine dT 2 rfl pM ?_
  refine G8 0 3 rfl rfl (by kernel_rfl) rfl rfl (N4 (oC 2)) (o9 0 5 6 (pv:=some v0) (H9 Tryz.func41) (r9 code i3 h3 2 (by omega) (by omega) (by omega) (by omega) (by omega)) rfl rfl (.cur rfl (.cons rfl .nil)) rfl (fun⟨_,_,_⟩=>rfl) (fun _=>rfl) (fun⟨_,_,_⟩=>rfl) rfl rfl) ?_ ?_
  ·
   rintro⟨⟩
   refine J0 3 rfl (o9 0 5 6 (pv:=some v0) (H9 Tryz.func41) (r9 code i3 h3 2 (by omega) (by omega) (by omega) (by omega) (by omega)) rfl rfl (.cur rfl (.cons rfl .nil)) rfl (fun⟨_,_,_⟩=>rfl) (fun _=>rfl) (fun⟨_,_,_⟩=>rfl) rfl rfl) ?_
   rintro⟨⟨x14,i215,h216⟩,hq17⟩
   try dsimp only at hq17
   try dsimp only
   obtain⟨q18,q19⟩:=hq17
   refine J0 4 rfl (o9 0 6 11 (pv:=some v0) (H9 Tryz.func156) (w5 code i215 h216 x14 0 (by omega) (by omega) (by omega) (by omega) (by omega)) rfl rfl (.cur rfl (.cons rfl (.cons rfl .nil))) rfl (fun⟨_,_,_⟩=>rfl) (fun _=>rfl) (fun⟨_,_,_⟩=>rfl) rfl rfl) ?_
   rintro⟨⟨ts20,i221,h222⟩,hq23⟩
   try dsimp only at hq23
   try dsimp only
   obtain⟨q24,q25,q26⟩:=hq23
   have t1:1≤ts20.length∧ts20.length≤2:=(by assumption);have t2:∀x∈ts20, -256≤x∧x≤2:=(by assumption);have t3:∀x∈ts20, -256≤x∧x≤256:=fun x hx=>by have:=t2 x hx;omega
   refine W7 10 rfl (c8 (i:=10) hM rfl rfl rfl) ?_
   refine dO 5 rfl (n9 11 11 true (H9 Tryz.func87) (Y7 X8 fs x14 ts20 (by(have e7:=s0 b4;omega)) (by omega)) rfl (.cons rfl (.agg (.cons .t0 (.cons .t0 .nil))) (.cons rfl (.agg (.cons .t0 (.cons .t0 .nil))) .nil)) rfl rfl rfl) ?_
   refine dO 6 rfl (oS 2) ?_
   refine dE ?_
   refine i9<|l9<|rM ?_
   refine rB ?_
   refine rA<|c9 ?_
   refine Z9 ?_ (ih0 (IntKind.i64.wrap (kk - 1),G4 fs (x14,ts20),i221,h222) (by(try dsimp only);((try simp only [IntKind.wrap_i64] at *);omega)) (by(try dsimp only);exact⟨(by((try simp only [IntKind.wrap_i64] at *);omega)),SX b2 (by((try simp only [IntKind.wrap_i64] at *);omega)),ZV b2 (by omega),y1 b4 ⟨by(try dsimp only);((try simp only [IntKind.wrap_i64] at *);omega),by(try dsimp only);omega,t3⟩,by omega⟩))
   exact⟨⟨rfl,⟨rfl,⟨rfl,⟨rfl,trivial⟩⟩⟩⟩,⟨rfl,⟨rfl,⟨rfl,trivial⟩⟩⟩,rfl⟩
  ·
   rintro⟨⟨x8,i29,h210⟩,hq11⟩
   try dsimp only at hq11
   try dsimp only
   obtain⟨q12,q13⟩:=hq11
   refine G8 0 4 rfl rfl (by kernel_rfl) rfl rfl (N4 (oC 2)) (o9 0 6 11 (pv:=some v0) (H9 Tryz.func156) (w5 code i29 h210 x8 0 (by omega) (by omega) (by omega) (by omega) (by omega)) rfl rfl (.cur rfl (.cons rfl (.cons rfl .nil))) rfl (fun⟨_,_,_⟩=>rfl) (fun _=>rfl) (fun⟨_,_,_⟩=>rfl) rfl rfl) ?_ ?_
   ·
    rintro⟨⟩
    refine J0 4 rfl (o9 0 6 11 (pv:=some v0) (H9 Tryz.func156) (w5 code i29 h210 x8 0 (by omega) (by omega) (by omega) (by omega) (by omega)) rfl rfl (.cur rfl (.cons rfl (.cons rfl .nil))) rfl (fun⟨_,_,_⟩=>rfl) (fun _=>rfl) (fun⟨_,_,_⟩=>rfl) rfl rfl) ?_
    rintro⟨⟨ts34,i235,h236⟩,hq37⟩
    try dsimp only at hq37
    try dsimp only
    obtain⟨q38,q39,q40⟩:=hq37
    have t1:1≤ts34.length∧ts34.length≤2:=(by assumption);have t2:∀x∈ts34, -256≤x∧x≤2:=(by assumption);have t3:∀x∈ts34, -256≤x∧x≤256:=fun x hx=>by have:=t2 x hx;omega
    refine W7 10 rfl (c8 (i:=10) hM rfl rfl rfl) ?_
    refine dO 5 rfl (n9 11 11 true (H9 Tryz.func87) (Y7 X8 fs x8 ts34 (by(have e7:=s0 b4;omega)) (by omega)) rfl (.cons rfl (.agg (.cons .t0 (.cons .t0 .nil))) (.cons rfl (.agg (.cons .t0 (.cons .t0 .nil))) .nil)) rfl rfl rfl) ?_
    refine dO 6 rfl (oS 2) ?_
    refine dE ?_
    refine i9<|l9<|rM ?_
    refine rB ?_
    refine rA<|c9 ?_
    refine Z9 ?_ (ih0 (IntKind.i64.wrap (kk - 1),G4 fs (x8,ts34),i235,h236) (by(try dsimp only);((try simp only [IntKind.wrap_i64] at *);omega)) (by(try dsimp only);exact⟨(by((try simp only [IntKind.wrap_i64] at *);omega)),SX b2 (by((try simp only [IntKind.wrap_i64] at *);omega)),ZV b2 (by omega),y1 b4 ⟨by(try dsimp only);((try simp only [IntKind.wrap_i64] at *);omega),by(try dsimp only);omega,t3⟩,by omega⟩))
    exact⟨⟨rfl,⟨rfl,⟨rfl,⟨rfl,trivial⟩⟩⟩⟩,⟨rfl,⟨rfl,⟨rfl,trivial⟩⟩⟩,rfl⟩
   ·
    rintro⟨⟨ts27,i228,h229⟩,hq30⟩
    try dsimp only at hq30
    try dsimp only
    obtain⟨q31,q32,q33⟩:=hq30
    have t1:1≤ts27.length∧ts27.length≤2:=(by assumption);have t2:∀x∈ts27, -256≤x∧x≤2:=(by assumption);have t3:∀x∈ts27, -256≤x∧x≤256:=fun x hx=>by have:=t2 x hx;omega
    refine dT 0 rfl (pC 2) ?_
    refine W7 10 rfl (c8 (i:=10) hM rfl rfl rfl) ?_
    refine dO 5 rfl (n9 11 11 true (H9 Tryz.func87) (Y7 X8 fs x8 ts27 (by(have e7:=s0 b4;omega)) (by omega)) rfl (.cons rfl (.agg (.cons .t0 (.cons .t0 .nil))) (.cons rfl (.agg (.cons .t0 (.cons .t0 .nil))) .nil)) rfl rfl rfl) ?_
    refine dO 6 rfl (oS 2) ?_
    refine dE ?_
    refine i9<|l9<|rM ?_
    refine rB ?_
    refine rA<|c9 ?_
    refine Z9 ?_ (ih0 (IntKind.i64.wrap (kk - 1),G4 fs (x8,ts27),i228,h229) (by(try dsimp only);((try simp only [IntKind.wrap_i64] at *);omega)) (by(try dsimp only);exact⟨(by((try simp only [IntKind.wrap_i64] at *);omega)),SX b2 (by((try simp only [IntKind.wrap_i64] at *);omega)),ZV b2 (by omega),y1 b4 ⟨by(try dsimp only);((try simp only [IntKind.wrap_i64] at *);omega),by(try dsimp only);omega,t3⟩,by omega⟩))
    exact⟨⟨rfl,⟨rfl,⟨rfl,⟨rfl,trivial⟩⟩⟩⟩,⟨rfl,⟨rfl,⟨rfl,trivial⟩⟩⟩,rfl⟩
 ·
  have h7':=d8 h7
  refine N9 rfl<|t9<|rC 2 ?_
  refine d9 (n9 5 10 false (H9 Tryz.func33) (M6 X8 fs (by(rw [t7];omega)) (by(have e7:=s0 b4;omega))) rfl (.cons rfl (.agg (.cons .t0 (.cons .t0 .nil))) .nil) rfl rfl rfl) ?_
  refine rS 2<|c9 ?_
  refine n7 3 7 rfl rfl rfl ?_
  refine n7 4 9 rfl rfl rfl ?_
  refine S8 Tryz.func96 (X9 2 .nil) (⟨fs,i3,h3⟩) ?_ ?_ (hL:=⟨rfl,⟨rfl,⟨rfl,trivial⟩⟩⟩) <;>(try clear ih0)
  ·(try dsimp only) <;>(exact⟨by omega,b4,by omega⟩)
  ·rfl
theorem LY (code:List Int)(i h most n:Int)(hc:code.length≤1048576)(hi0:0≤i)(hi1:i≤code.length)(hm:0≤most∧most≤5)(hn:0≤n∧n≤256):vS Tryz.prog 95 [.c (.ptr 0 0),.c (.t none (.v (.int .i64 most))),.c (.t none (.v (.int .i64 n)))] [.t none (.sl 1 u7 code),.t none (.v (.int .i64 i)),.t none (.v (.int .i64 h))] (fun(⟨fs,i2,h2⟩:w9 × Int × Int)=>fs.length≤5∧(∀a∈fs,PY a)∧0≤i2∧i2≤code.length) (fun(⟨fs,i2,h2⟩:w9 × Int × Int)=>[.t none (.sl 1 u7 code),.t none (.v (.int .i64 i2)),.t none (.v (.int .i64 h2))]) (fun(⟨fs,i2,h2⟩:w9 × Int × Int)=>[(3,some (.row none 95 true 3 (j8 Y9 f9 U9) X8)),(4,some (.row none 64 true 2 (y9 f9 (x9 1 f9)) fs))]) 5 (fun(⟨fs,i2,h2⟩:w9 × Int × Int)=> .agg [.own 3,.own 4]):=by
 refine D7 Tryz.func95 rfl (Nat.le_of_ble_eq_true rfl) fun v0 w S M hM=>?_
 refine t9 ?_
 refine d9 (F9 1 (zs:=[.slice none 0 0,.slice none 0 0]) rfl rfl (by kernel_rfl) rfl) ?_
 refine P8 ?_
 refine d9 (n9 2 3 false (H9 Tryz.func109) (V2) rfl .nil rfl rfl rfl) ?_
 refine d9 (oD [(0,1),(1,1)] [.slice none 0 0,.slice none 0 0]) ?_
 refine d9 (F9 3 (zs:=[.slice none 0 0,.slice none 0 0]) rfl rfl (by kernel_rfl) rfl) ?_
 refine rS 2<|c9<|k9<|t9 ?_
 refine rM ?_
 refine rM ?_
 refine rB ?_
 refine K8 (o9 0 4 5 (pv:=some v0) (H9 Tryz.func41) (r9 code i h (IntKind.i64.wrap (most + 1)) (by omega) (by omega) (by omega) (by(simp only [IntKind.wrap_i64] at *;omega)) (by(simp only [IntKind.wrap_i64] at *;omega))) rfl rfl (.cur rfl (.cons rfl .nil)) rfl (fun⟨_,_,_⟩=>rfl) (fun _=>rfl) (fun⟨_,_,_⟩=>rfl) rfl rfl) ?_
 rintro⟨⟨x1,i22,h23⟩,hq4⟩
 try dsimp only at hq4
 try dsimp only
 obtain⟨q5,q6⟩:=hq4
 refine rA<|c9<|p9 ?_
 refine s9 2 rfl (c8 (i:=2) hM rfl rfl rfl) ?_
 refine eQ 3 1 (sz:=2) (y9 f9 (x9 1 f9)) rfl rfl ?_
 refine J9 (fun(kk,fs,i3,h3)=>⟨[(0,some (.c (.ptr 0 0))),(2,some (.c (.t none (.v (.int .i64 n))))),(6,some (.c (.ptr 1 0))),(7,some (.c (.ptr 3 0))),(8,some (.c (.t none (.v (.int .i64 kk)))))],[(0,some (.pbox v0 [.t none (.sl 1 u7 code),.t none (.v (.int .i64 i3)),.t none (.v (.int .i64 h3))])),(1,some (.box [.t none (.v (.slice none 0 0)),.t none (.v (.slice none 0 0))])),(3,some (.box [.t none (.sl 3 (j8 Y9 f9 U9) X8),.t none (.sl 2 (y9 f9 (x9 1 f9)) fs)]))],5⟩:Int × w9 × Int × Int→St) (fun(kk,fs,i3,h3)=>(0≤kk∧kk≤5)∧((fs.length:Int) + kk≤5)∧(fs.length≤5)∧(∀a∈fs,PY a)∧(0≤i3∧i3≤code.length)) (fun(kk,fs,i3,h3)=>kk.toNat) (x1,[],i22,h23) ⟨⟨rfl,⟨rfl,⟨rfl,⟨rfl,⟨rfl,trivial⟩⟩⟩⟩⟩,⟨rfl,⟨rfl,⟨rfl,trivial⟩⟩⟩,rfl⟩ (by exact⟨(by(try dsimp only);((try simp only [IntKind.wrap_i64] at *);omega)),(by(try dsimp only);(try simp only [List.length_nil]);((try simp only [IntKind.wrap_i64] at *);omega)),(by simp),(fun a ha=>by simp at ha),(by(try dsimp only);omega)⟩) ?_
 rintro⟨kk,fs,i3,h3⟩ hI ih0
 try dsimp only at hI ih0
 obtain⟨b1,b2,b3,b4,b5⟩:=hI
 refine k9<|t9<|rM ?_
 refine rB<|c9 ?_
 refine j9 rfl (fun h7=>?_) (fun h7=>?_)
 ·
  have h7':=a8 h7
  refine m9<|k9<|p9 ?_
  refine tD (fun i=>!(Nat.beq i 3||Nat.beq i 6||Nat.beq i 8)) ?_
  refine V8 1 rfl rfl (by kernel_rfl) (by kernel_rfl) (by kernel_rfl) (G5 rfl) ?_
  refine dT 2 rfl pM ?_
  refine V8 5 rfl rfl (by kernel_rfl) (by kernel_rfl) (by kernel_rfl) (G5 rfl) ?_
  refine G8 0 3 rfl rfl (by kernel_rfl) rfl rfl (N4 (oC 2)) (o9 0 5 6 (pv:=some v0) (H9 Tryz.func41) (r9 code i3 h3 3 (by omega) (by omega) (by omega) (by omega) (by omega)) rfl rfl (.cur rfl (.cons rfl .nil)) rfl (fun⟨_,_,_⟩=>rfl) (fun _=>rfl) (fun⟨_,_,_⟩=>rfl) rfl rfl) ?_ ?_
  ·
   rintro⟨⟩
   refine J0 3 rfl (o9 0 5 6 (pv:=some v0) (H9 Tryz.func41) (r9 code i3 h3 3 (by omega) (by omega) (by omega) (by omega) (by omega)) rfl rfl (.cur rfl (.cons rfl .nil)) rfl (fun⟨_,_,_⟩=>rfl) (fun _=>rfl) (fun⟨_,_,_⟩=>rfl) rfl rfl) ?_
   rintro⟨⟨x14,i215,h216⟩,hq17⟩
   try dsimp only at hq17
   try dsimp only
   obtain⟨q18,q19⟩:=hq17
   refine dT 4 rfl pB ?_
   refine J0 6 rfl (o9 0 6 11 (pv:=some v0) (H9 Tryz.func156) (w5 code i215 h216 (IntKind.i64.wrap (2 + x14)) n (by omega) (by omega) (by omega) (by(simp only [IntKind.wrap_i64] at *;omega)) (by omega)) rfl rfl (.cur rfl (.cons rfl (.cons rfl .nil))) rfl (fun⟨_,_,_⟩=>rfl) (fun _=>rfl) (fun⟨_,_,_⟩=>rfl) rfl rfl) ?_
   rintro⟨⟨ts20,i221,h222⟩,hq23⟩
   try dsimp only at hq23
   try dsimp only
   obtain⟨q24,q25,q26⟩:=hq23
   have t1:1≤ts20.length∧ts20.length≤2:=(by assumption);have t2:∀x∈ts20, -256≤x∧x≤2:=(by assumption);have t3:∀x∈ts20, -256≤x∧x≤256:=fun x hx=>by have:=t2 x hx;omega
   refine W7 10 rfl (c8 (i:=10) hM rfl rfl rfl) ?_
   refine dO 7 rfl (n9 11 11 true (H9 Tryz.func87) (Y7 X8 fs ((IntKind.i64.wrap (2 + x14))) ts20 (by(have e7:=s0 b4;omega)) (by omega)) rfl (.cons rfl (.agg (.cons .t0 (.cons .t0 .nil))) (.cons rfl (.agg (.cons .t0 (.cons .t0 .nil))) .nil)) rfl rfl rfl) ?_
   refine dO 8 rfl (oS 2) ?_
   refine dE ?_
   refine i9<|l9<|rM ?_
   refine rB ?_
   refine rA<|c9 ?_
   refine Z9 ?_ (ih0 (IntKind.i64.wrap (kk - 1),G4 fs (((IntKind.i64.wrap (2 + x14))),ts20),i221,h222) (by(try dsimp only);((try simp only [IntKind.wrap_i64] at *);omega)) (by(try dsimp only);exact⟨(by((try simp only [IntKind.wrap_i64] at *);omega)),SX b2 (by((try simp only [IntKind.wrap_i64] at *);omega)),ZV b2 (by omega),y1 b4 ⟨by(try dsimp only);((try simp only [IntKind.wrap_i64] at *);omega),by(try dsimp only);omega,t3⟩,by omega⟩))
   exact⟨⟨rfl,⟨rfl,⟨rfl,⟨rfl,⟨rfl,trivial⟩⟩⟩⟩⟩,⟨rfl,⟨rfl,⟨rfl,trivial⟩⟩⟩,rfl⟩
  ·
   rintro⟨⟨x8,i29,h210⟩,hq11⟩
   try dsimp only at hq11
   try dsimp only
   obtain⟨q12,q13⟩:=hq11
   refine dT 4 rfl pB ?_
   refine G8 0 6 rfl rfl (by kernel_rfl) rfl rfl (N4 (oC 2)) (o9 0 6 11 (pv:=some v0) (H9 Tryz.func156) (w5 code i29 h210 (IntKind.i64.wrap (2 + x8)) n (by omega) (by omega) (by omega) (by(simp only [IntKind.wrap_i64] at *;omega)) (by omega)) rfl rfl (.cur rfl (.cons rfl (.cons rfl .nil))) rfl (fun⟨_,_,_⟩=>rfl) (fun _=>rfl) (fun⟨_,_,_⟩=>rfl) rfl rfl) ?_ ?_
   ·
    rintro⟨⟩
    refine J0 6 rfl (o9 0 6 11 (pv:=some v0) (H9 Tryz.func156) (w5 code i29 h210 (IntKind.i64.wrap (2 + x8)) n (by omega) (by omega) (by omega) (by(simp only [IntKind.wrap_i64] at *;omega)) (by omega)) rfl rfl (.cur rfl (.cons rfl (.cons rfl .nil))) rfl (fun⟨_,_,_⟩=>rfl) (fun _=>rfl) (fun⟨_,_,_⟩=>rfl) rfl rfl) ?_
    rintro⟨⟨ts34,i235,h236⟩,hq37⟩
    try dsimp only at hq37
    try dsimp only
    obtain⟨q38,q39,q40⟩:=hq37
    have t1:1≤ts34.length∧ts34.length≤2:=(by assumption);have t2:∀x∈ts34, -256≤x∧x≤2:=(by assumption);have t3:∀x∈ts34, -256≤x∧x≤256:=fun x hx=>by have:=t2 x hx;omega
    refine W7 10 rfl (c8 (i:=10) hM rfl rfl rfl) ?_
    refine dO 7 rfl (n9 11 11 true (H9 Tryz.func87) (Y7 X8 fs ((IntKind.i64.wrap (2 + x8))) ts34 (by(have e7:=s0 b4;omega)) (by omega)) rfl (.cons rfl (.agg (.cons .t0 (.cons .t0 .nil))) (.cons rfl (.agg (.cons .t0 (.cons .t0 .nil))) .nil)) rfl rfl rfl) ?_
    refine dO 8 rfl (oS 2) ?_
    refine dE ?_
    refine i9<|l9<|rM ?_
    refine rB ?_
    refine rA<|c9 ?_
    refine Z9 ?_ (ih0 (IntKind.i64.wrap (kk - 1),G4 fs (((IntKind.i64.wrap (2 + x8))),ts34),i235,h236) (by(try dsimp only);((try simp only [IntKind.wrap_i64] at *);omega)) (by(try dsimp only);exact⟨(by((try simp only [IntKind.wrap_i64] at *);omega)),SX b2 (by((try simp only [IntKind.wrap_i64] at *);omega)),ZV b2 (by omega),y1 b4 ⟨by(try dsimp only);((try simp only [IntKind.wrap_i64] at *);omega),by(try dsimp only);omega,t3⟩,by omega⟩))
    exact⟨⟨rfl,⟨rfl,⟨rfl,⟨rfl,⟨rfl,trivial⟩⟩⟩⟩⟩,⟨rfl,⟨rfl,⟨rfl,trivial⟩⟩⟩,rfl⟩
   ·
    rintro⟨⟨ts27,i228,h229⟩,hq30⟩
    try dsimp only at hq30
    try dsimp only
    obtain⟨q31,q32,q33⟩:=hq30
    have t1:1≤ts27.length∧ts27.length≤2:=(by assumption);have t2:∀x∈ts27, -256≤x∧x≤2:=(by assumption);have t3:∀x∈ts27, -256≤x∧x≤256:=fun x hx=>by have:=t2 x hx;omega
    refine dT 0 rfl (pC 2) ?_
    refine W7 10 rfl (c8 (i:=10) hM rfl rfl rfl) ?_
    refine dO 7 rfl (n9 11 11 true (H9 Tryz.func87) (Y7 X8 fs ((IntKind.i64.wrap (2 + x8))) ts27 (by(have e7:=s0 b4;omega)) (by omega)) rfl (.cons rfl (.agg (.cons .t0 (.cons .t0 .nil))) (.cons rfl (.agg (.cons .t0 (.cons .t0 .nil))) .nil)) rfl rfl rfl) ?_
    refine dO 8 rfl (oS 2) ?_
    refine dE ?_
    refine i9<|l9<|rM ?_
    refine rB ?_
    refine rA<|c9 ?_
    refine Z9 ?_ (ih0 (IntKind.i64.wrap (kk - 1),G4 fs (((IntKind.i64.wrap (2 + x8))),ts27),i228,h229) (by(try dsimp only);((try simp only [IntKind.wrap_i64] at *);omega)) (by(try dsimp only);exact⟨(by((try simp only [IntKind.wrap_i64] at *);omega)),SX b2 (by((try simp only [IntKind.wrap_i64] at *);omega)),ZV b2 (by omega),y1 b4 ⟨by(try dsimp only);((try simp only [IntKind.wrap_i64] at *);omega),by(try dsimp only);omega,t3⟩,by omega⟩))
    exact⟨⟨rfl,⟨rfl,⟨rfl,⟨rfl,⟨rfl,trivial⟩⟩⟩⟩⟩,⟨rfl,⟨rfl,⟨rfl,trivial⟩⟩⟩,rfl⟩
 ·
  have h7':=d8 h7
  refine N9 rfl<|t9<|rC 2 ?_
  refine d9 (n9 5 10 false (H9 Tryz.func33) (M6 X8 fs (by(rw [t7];omega)) (by(have e7:=s0 b4;omega))) rfl (.cons rfl (.agg (.cons .t0 (.cons .t0 .nil))) .nil) rfl rfl rfl) ?_
  refine rS 2<|c9 ?_
  refine n7 3 7 rfl rfl rfl ?_
  refine n7 4 9 rfl rfl rfl ?_
  refine S8 Tryz.func95 (X9 2 .nil) (⟨fs,i3,h3⟩) ?_ ?_ (hL:=⟨rfl,⟨rfl,⟨rfl,trivial⟩⟩⟩) <;>(try clear ih0)
  ·(try dsimp only) <;>(exact⟨by omega,b4,by omega⟩)
  ·rfl
theorem DX (code:List Int)(i h:Int)(hc:code.length≤1048576)(hi0:0≤i)(hi1:i≤code.length):vS Tryz.prog 131 [.c (.ptr 0 0)] [.t none (.sl 1 u7 code),.t none (.v (.int .i64 i)),.t none (.v (.int .i64 h))] (fun(⟨rs,fs,i2,h2⟩:T9 × w9 × Int × Int)=>NY rs fs∧0≤i2∧i2≤code.length) (fun(⟨rs,fs,i2,h2⟩:T9 × w9 × Int × Int)=>[.t none (.sl 1 u7 code),.t none (.v (.int .i64 i2)),.t none (.v (.int .i64 h2))]) (fun(⟨rs,fs,i2,h2⟩:T9 × w9 × Int × Int)=>[]) 1 (fun(⟨rs,fs,i2,h2⟩:T9 × w9 × Int × Int)=> .agg [.t none (.sl 3 (j8 Y9 f9 U9) rs),.t none (.sl 2 (y9 f9 (x9 1 f9)) fs)]):=by
 refine D7 Tryz.func131 rfl (Nat.le_of_ble_eq_true rfl) fun v0 w S M hM=>?_
 refine t9 ?_
 refine d9 (F9 1 (zs:=[.slice none 0 0,.slice none 0 0]) rfl rfl (by kernel_rfl) rfl) ?_
 refine P8<|rM ?_
 refine K8 (o9 0 2 7 (pv:=some v0) (H9 Tryz.func96) (KY code i h 3 (by omega) (by omega) (by omega) (by omega)) rfl rfl (.cur rfl (.cons rfl .nil)) rfl (fun⟨_,_,_⟩=>rfl) (fun _=>rfl) (fun⟨_,_,_⟩=>rfl) rfl rfl) ?_
 rintro⟨⟨fs1,i22,h23⟩,hq4⟩
 try dsimp only at hq4
 try dsimp only
 obtain⟨q5,q6,q7⟩:=hq4
 refine d9 (F9 7 (zs:=[.slice none 0 0,.slice none 0 0]) rfl rfl (by kernel_rfl) rfl) ?_
 refine rS 2<|P8 ?_
 refine rM ?_
 refine K8 (o9 0 8 13 (pv:=some v0) (H9 Tryz.func95) (LY code i22 h23 4 3 (by omega) (by omega) (by omega) (by omega) (by omega)) rfl rfl (.cur rfl (.cons rfl (.cons rfl .nil))) rfl (fun⟨_,_,_⟩=>rfl) (fun _=>rfl) (fun⟨_,_,_⟩=>rfl) rfl rfl) ?_
 rintro⟨⟨fs8,i29,h210⟩,hq11⟩
 try dsimp only at hq11
 try dsimp only
 obtain⟨q12,q13,q14⟩:=hq11
 have b4f:∀a∈fs8,PY a:=(by assumption)
 refine d9 (F9 13 (zs:=[.slice none 0 0,.slice none 0 0]) rfl rfl (by kernel_rfl) rfl) ?_
 refine rS 2<|c9<|k9<|t9 ?_
 refine rA<|c9<|p9 ?_
 refine s9 5 rfl (c8 (i:=5) hM rfl rfl rfl) ?_
 refine s9 6 rfl (c8 (i:=6) hM rfl rfl rfl) ?_
 refine s9 11 rfl (c8 (i:=11) hM rfl rfl rfl) ?_
 refine s9 12 rfl (c8 (i:=12) hM rfl rfl rfl) ?_
 refine J9 (fun(m,xs)=>⟨[(2,some (.c (.ptr 1 0))),(3,some (.c (.ptr 7 0))),(4,some (.c (.ptr 13 0))),(5,some (.c (.t none (.v (.int .i64 ((m:Int)))))))],[(0,some (.pbox v0 [.t none (.sl 1 u7 code),.t none (.v (.int .i64 i29)),.t none (.v (.int .i64 h210))])),(1,some (.box [.t none (.v (.slice none 0 0)),.t none (.v (.slice none 0 0))])),(7,some (.box [.t none (.sl 3 (j8 Y9 f9 U9) X8),.t none (.sl 2 (y9 f9 (x9 1 f9)) xs)])),(13,some (.box [.t none (.sl 3 (j8 Y9 f9 U9) X8),.t none (.sl 2 (y9 f9 (x9 1 f9)) fs8)]))],14⟩:Nat × w9→St) (fun(m,xs)=>m≤fs8.length∧xs.length≤5 + m∧(∀a∈xs,PY a)) (fun(m,xs)=>fs8.length - m) (0,fs1) ⟨⟨rfl,⟨rfl,⟨rfl,⟨rfl,trivial⟩⟩⟩⟩,⟨rfl,⟨rfl,⟨rfl,⟨rfl,trivial⟩⟩⟩⟩,rfl⟩ (by exact⟨Nat.zero_le _,by(try dsimp only);omega,by assumption⟩) ?_
 rintro⟨m,xs⟩ hI ih0
 try dsimp only at hI ih0
 obtain⟨b1,b2,b4⟩:=hI
 refine k9<|t9<|rM ?_
 refine rF 1 ?_
 refine rL ?_
 refine d9 (P9 rfl rfl rfl) ?_
 refine rB<|c9 ?_
 refine j9 rfl (fun h15=>?_) (fun h15=>?_)
 ·
  have h15':=a8 h15
  refine m9<|k9<|p9 ?_
  refine tD (fun i=>!(Nat.beq i 7)) ?_
  refine dT 0 rfl (pC 2) ?_
  refine dT 1 rfl (pF 1) ?_
  refine dT 2 rfl pL ?_
  refine dT 3 rfl pM ?_
  obtain⟨z16,hz17,b18⟩:=v9 (xs:=fs8) (n:=(m:Int)) (by omega) (by omega)
  refine dT 4 rfl (p8 (by kernel_rfl) rfl rfl b18 hz17) ?_
  refine dT 5 rfl (p6 (n:=2) (by kernel_rfl) (by kernel_rfl) rfl rfl) ?_
  refine dO 6 rfl (n9 14 14 true (H9 Tryz.func87) (Y7 X8 xs z16.1 z16.2 (by(have e7:=s0 b4;omega)) (by(have e7:=(b4f _ (D8 (by assumption))).2.1;omega))) rfl (.cons rfl (.agg (.cons .t0 (.cons .t0 .nil))) (.cons rfl (.agg (.cons .t0 (.cons .t0 .nil))) .nil)) rfl rfl rfl) ?_
  refine dO 7 rfl (oS 2) ?_
  refine dE ?_
  refine i9<|l9<|rM ?_
  refine rB ?_
  refine rA<|c9 ?_
  refine Z9 ?_ (ih0 (m + 1,G4 xs (z16.1,z16.2)) (by(try dsimp only);omega) (by(try dsimp only);exact⟨by omega,Nat.le_trans (OW _ _) (by omega),y1 b4 (b4f _ (D8 hz17))⟩))
  exact⟨⟨rfl,⟨rfl,⟨rfl,⟨(L7 (n8 (by omega) (by omega))),trivial⟩⟩⟩⟩,⟨rfl,⟨rfl,⟨rfl,⟨rfl,trivial⟩⟩⟩⟩,rfl⟩
 ·
  have h15':=d8 h15
  refine N9 rfl<|t9<|rC 2 ?_
  refine d9 (n9 14 19 false (H9 Tryz.func33) (M6 X8 xs (by(rw [t7];omega)) (by(have e7:=s0 b4;omega))) rfl (.cons rfl (.agg (.cons .t0 (.cons .t0 .nil))) .nil) rfl rfl rfl) ?_
  refine rS 2<|c9 ?_
  refine s9 16 rfl (c8 (i:=16) hM rfl rfl rfl) ?_
  refine s9 18 rfl (c8 (i:=18) hM rfl rfl rfl) ?_
  refine S8 Tryz.func131 (X9 2 .nil) (⟨X8,xs,i29,h210⟩) ?_ ?_ (hL:=⟨rfl,trivial⟩) <;>(try clear ih0)
  ·(try dsimp only) <;>(exact⟨⟨by decide,KW,by omega,b4⟩,by omega⟩)
  ·rfl
theorem oT (code:List Int)(i h:Int)(hc:code.length≤1048576)(hi0:0≤i)(hi1:i≤code.length):vS Tryz.prog 195 [.c (.ptr 0 0)] [.t none (.sl 1 u7 code),.t none (.v (.int .i64 i)),.t none (.v (.int .i64 h))] (fun(⟨b,hs,e,lv,rv,i2,h2⟩:w9 × w9 × Bool × Int × Int × Int × Int)=>R1 (b,hs,e,lv,rv)∧hs.length≤2∧0≤i2∧i2≤code.length) (fun(⟨b,hs,e,lv,rv,i2,h2⟩:w9 × w9 × Bool × Int × Int × Int × Int)=>[.t none (.sl 1 u7 code),.t none (.v (.int .i64 i2)),.t none (.v (.int .i64 h2))]) (fun(⟨b,hs,e,lv,rv,i2,h2⟩:w9 × w9 × Bool × Int × Int × Int × Int)=>[(2,some (.row none 103 true 2 (y9 f9 (x9 1 f9)) b)),(3,some (.row none 103 true 2 (y9 f9 (x9 1 f9)) hs))]) 4 (fun(⟨b,hs,e,lv,rv,i2,h2⟩:w9 × w9 × Bool × Int × Int × Int × Int)=> .agg [.own 2,.own 3,.t none (.v (.bool e)),.t none (.v (.int .i64 lv)),.t none (.v (.int .i64 rv))]):=by
 refine D7 Tryz.func195 rfl (Nat.le_of_ble_eq_true rfl) fun v0 w S M hM=>?_
 refine t9 ?_
 refine d9 (F9 1 (zs:=[.slice none 0 0,.slice none 0 0,.bool false,.int .i64 0,.int .i64 0]) rfl rfl (by kernel_rfl) rfl) ?_
 refine P8 ?_
 refine d9 (m7 2 (e:=3) (sz:=1) (zs:=[.int .i64 0]) (enc:=f9) [0,1] rfl rfl (by kernel_rfl) rfl rfl rfl rfl rfl rfl rfl rfl (.cons .sc (.cons .sc .nil)) rfl) ?_
 refine d9 (oD [(0,1),(1,1)] [.int .i64 0,.slice none 0 0]) ?_
 refine d9 (F9 3 (zs:=[.int .i64 0,.slice none 0 0]) rfl rfl (by kernel_rfl) rfl) ?_
 refine rS 2<|c9<|k9<|t9 ?_
 refine rM ?_
 refine K8 (o9 0 4 5 (pv:=some v0) (H9 Tryz.func41) (r9 code i h 9 (by omega) (by omega) (by omega) (by omega) (by omega)) rfl rfl (.cur rfl (.cons rfl .nil)) rfl (fun⟨_,_,_⟩=>rfl) (fun _=>rfl) (fun⟨_,_,_⟩=>rfl) rfl rfl) ?_
 rintro⟨⟨x1,i22,h23⟩,hq4⟩
 try dsimp only at hq4
 try dsimp only
 obtain⟨q5,q6⟩:=hq4
 refine c9<|p9<|t9<|rB ?_
 refine rA<|c9 ?_
 refine j9 rfl (fun h7=>?_) (fun h7=>?_)
 ·
  have h7':=a8 h7
  refine t9<|rC 2 ?_
  refine d9 (m7 5 (e:=103) (sz:=2) (zs:=[.int .i64 0,.slice none 0 0]) (enc:=(y9 f9 (x9 1 f9))) [(0,[0,1])] rfl rfl (by kernel_rfl) rfl rfl rfl rfl rfl rfl rfl rfl (.cons .sc (.take (.own rfl) rfl .nil)) rfl) ?_
  refine d9 (m7 6 (e:=3) (sz:=1) (zs:=[.int .i64 0]) (enc:=f9) [0,2] rfl rfl (by kernel_rfl) rfl rfl rfl rfl rfl rfl rfl rfl (.cons .sc (.cons .sc .nil)) rfl) ?_
  refine d9 (oD [(0,1),(1,1)] [.int .i64 0,.slice none 0 0]) ?_
  refine d9 (m7 7 (e:=3) (sz:=1) (zs:=[.int .i64 0]) (enc:=f9) [2,1] rfl rfl (by kernel_rfl) rfl rfl rfl rfl rfl rfl rfl rfl (.cons .sc (.cons .sc .nil)) rfl) ?_
  refine d9 (oD [(0,1),(1,1)] [.int .i64 0,.slice none 0 0]) ?_
  refine d9 (m7 8 (e:=103) (sz:=2) (zs:=[.int .i64 0,.slice none 0 0]) (enc:=(y9 f9 (x9 1 f9))) [(2,[0,2]),(3,[2,1])] rfl rfl (by kernel_rfl) rfl rfl rfl rfl rfl rfl rfl rfl (.cons .sc (.take (.own rfl) rfl (.cons .sc (.take (.own rfl) rfl .nil)))) rfl) ?_
  refine d9 (oD [(0,1),(1,1),(2,1),(3,1),(4,1)] [.slice none 0 0,.slice none 0 0,.bool false,.int .i64 0,.int .i64 0]) ?_
  refine rS 5<|c9 ?_
  refine n7 2 5 rfl rfl rfl ?_
  refine n7 3 8 rfl rfl rfl ?_
  refine S8 Tryz.func195 (X9 5 .nil) (⟨[(0,[0,1])],[(2,[0,2]),(3,[2,1])],false,0,0,i22,h23⟩) ?_ ?_ (hL:=⟨rfl,⟨rfl,⟨rfl,trivial⟩⟩⟩)
  ·(try dsimp only) <;>(exact⟨by simp [R1,H2],by simp,by omega⟩)
  ·rfl
 ·
  have h7':=d8 h7
  refine t9<|rB ?_
  refine rA<|c9 ?_
  refine j9 rfl (fun h8=>?_) (fun h8=>?_)
  ·
   have h8':=a8 h8
   refine t9<|rC 2 ?_
   refine d9 (m7 5 (e:=103) (sz:=2) (zs:=[.int .i64 0,.slice none 0 0]) (enc:=(y9 f9 (x9 1 f9))) [(0,[0,1])] rfl rfl (by kernel_rfl) rfl rfl rfl rfl rfl rfl rfl rfl (.cons .sc (.take (.own rfl) rfl .nil)) rfl) ?_
   refine d9 (m7 6 (e:=3) (sz:=1) (zs:=[.int .i64 0]) (enc:=f9) [0,1] rfl rfl (by kernel_rfl) rfl rfl rfl rfl rfl rfl rfl rfl (.cons .sc (.cons .sc .nil)) rfl) ?_
   refine d9 (oD [(0,1),(1,1)] [.int .i64 0,.slice none 0 0]) ?_
   refine d9 (m7 7 (e:=103) (sz:=2) (zs:=[.int .i64 0,.slice none 0 0]) (enc:=(y9 f9 (x9 1 f9))) [(2,[0,1])] rfl rfl (by kernel_rfl) rfl rfl rfl rfl rfl rfl rfl rfl (.cons .sc (.take (.own rfl) rfl .nil)) rfl) ?_
   refine d9 (oD [(0,1),(1,1),(2,1),(3,1),(4,1)] [.slice none 0 0,.slice none 0 0,.bool false,.int .i64 0,.int .i64 0]) ?_
   refine rS 5<|c9 ?_
   refine n7 2 5 rfl rfl rfl ?_
   refine n7 3 7 rfl rfl rfl ?_
   refine S8 Tryz.func195 (X9 5 .nil) (⟨[(0,[0,1])],[(2,[0,1])],false,0,0,i22,h23⟩) ?_ ?_ (hL:=⟨rfl,⟨rfl,⟨rfl,trivial⟩⟩⟩)
   ·(try dsimp only) <;>(exact⟨by simp [R1,H2],by simp,by omega⟩)
   ·rfl
  ·
   have h8':=d8 h8
   refine t9<|rB ?_
   refine rA<|c9 ?_
   refine j9 rfl (fun h9=>?_) (fun h9=>?_)
   ·
    have h9':=a8 h9
    refine t9 ?_
    refine d9 (M5 5 (e:=3) (sz:=1) (zs:=[.int .i64 0]) (enc:=f9) 0 rfl rfl (by kernel_rfl) rfl rfl rfl rfl rfl rfl (.cons .sc .nil)) ?_
    refine d9 (oD [(0,1),(1,1)] [.int .i64 0,.slice none 0 0]) ?_
    refine d9 (m7 6 (e:=103) (sz:=2) (zs:=[.int .i64 0,.slice none 0 0]) (enc:=(y9 f9 (x9 1 f9))) [(1,[0])] rfl rfl (by kernel_rfl) rfl rfl rfl rfl rfl rfl rfl rfl (.cons .sc (.take (.own rfl) rfl .nil)) rfl) ?_
    refine d9 (m7 7 (e:=3) (sz:=1) (zs:=[.int .i64 0]) (enc:=f9) [0,1] rfl rfl (by kernel_rfl) rfl rfl rfl rfl rfl rfl rfl rfl (.cons .sc (.cons .sc .nil)) rfl) ?_
    refine d9 (oD [(0,1),(1,1)] [.int .i64 0,.slice none 0 0]) ?_
    refine d9 (m7 8 (e:=103) (sz:=2) (zs:=[.int .i64 0,.slice none 0 0]) (enc:=(y9 f9 (x9 1 f9))) [(2,[0,1])] rfl rfl (by kernel_rfl) rfl rfl rfl rfl rfl rfl rfl rfl (.cons .sc (.take (.own rfl) rfl .nil)) rfl) ?_
    refine d9 (oD [(0,1),(1,1),(2,1),(3,1),(4,1)] [.slice none 0 0,.slice none 0 0,.bool false,.int .i64 0,.int .i64 0]) ?_
    refine rS 5<|c9 ?_
    refine n7 2 6 rfl rfl rfl ?_
    refine n7 3 8 rfl rfl rfl ?_
    refine S8 Tryz.func195 (X9 5 .nil) (⟨[(1,[0])],[(2,[0,1])],false,0,0,i22,h23⟩) ?_ ?_ (hL:=⟨rfl,⟨rfl,⟨rfl,trivial⟩⟩⟩)
    ·(try dsimp only) <;>(exact⟨by simp [R1,H2],by simp,by omega⟩)
    ·rfl
   ·
    have h9':=d8 h9
    refine t9<|rB ?_
    refine rA<|c9 ?_
    refine j9 rfl (fun h10=>?_) (fun h10=>?_)
    ·
     have h10':=a8 h10
     refine t9 ?_
     refine d9 (m7 5 (e:=3) (sz:=1) (zs:=[.int .i64 0]) (enc:=f9) [0,1] rfl rfl (by kernel_rfl) rfl rfl rfl rfl rfl rfl rfl rfl (.cons .sc (.cons .sc .nil)) rfl) ?_
     refine d9 (oD [(0,1),(1,1)] [.int .i64 0,.slice none 0 0]) ?_
     refine d9 (m7 6 (e:=3) (sz:=1) (zs:=[.int .i64 0]) (enc:=f9) [0,2] rfl rfl (by kernel_rfl) rfl rfl rfl rfl rfl rfl rfl rfl (.cons .sc (.cons .sc .nil)) rfl) ?_
     refine d9 (oD [(0,1),(1,1)] [.int .i64 0,.slice none 0 0]) ?_
     refine d9 (m7 7 (e:=103) (sz:=2) (zs:=[.int .i64 0,.slice none 0 0]) (enc:=(y9 f9 (x9 1 f9))) [(2,[0,1]),(2,[0,2])] rfl rfl (by kernel_rfl) rfl rfl rfl rfl rfl rfl rfl rfl (.cons .sc (.take (.own rfl) rfl (.cons .sc (.take (.own rfl) rfl .nil)))) rfl) ?_
     refine d9 (oD [(0,1),(1,1),(2,1),(3,1),(4,1)] [.slice none 0 0,.slice none 0 0,.bool false,.int .i64 0,.int .i64 0]) ?_
     refine rS 5<|c9 ?_
     refine A6 8 (b:=1) (o:=1) (et:=103) (sz:=2) true (y9 f9 (x9 1 f9)) rfl rfl rfl ?_
     refine n7 2 7 rfl rfl rfl ?_
     refine n7 3 8 rfl rfl rfl ?_
     refine S8 Tryz.func195 (X9 5 .nil) (⟨[(2,[0,1]),(2,[0,2])],[],true,1,2,i22,h23⟩) ?_ ?_ (hL:=⟨rfl,⟨rfl,⟨rfl,trivial⟩⟩⟩)
     ·(try dsimp only) <;>(exact⟨by simp [R1,H2],by simp,by omega⟩)
     ·rfl
    ·
     have h10':=d8 h10
     refine t9<|rB ?_
     refine rA<|c9 ?_
     refine j9 rfl (fun h11=>?_) (fun h11=>?_)
     ·
      have h11':=a8 h11
      refine t9 ?_
      refine d9 (m7 5 (e:=3) (sz:=1) (zs:=[.int .i64 0]) (enc:=f9) [0,1] rfl rfl (by kernel_rfl) rfl rfl rfl rfl rfl rfl rfl rfl (.cons .sc (.cons .sc .nil)) rfl) ?_
      refine d9 (oD [(0,1),(1,1)] [.int .i64 0,.slice none 0 0]) ?_
      refine d9 (m7 6 (e:=3) (sz:=1) (zs:=[.int .i64 0]) (enc:=f9) [1,2] rfl rfl (by kernel_rfl) rfl rfl rfl rfl rfl rfl rfl rfl (.cons .sc (.cons .sc .nil)) rfl) ?_
      refine d9 (oD [(0,1),(1,1)] [.int .i64 0,.slice none 0 0]) ?_
      refine d9 (m7 7 (e:=103) (sz:=2) (zs:=[.int .i64 0,.slice none 0 0]) (enc:=(y9 f9 (x9 1 f9))) [(2,[0,1]),(3,[1,2])] rfl rfl (by kernel_rfl) rfl rfl rfl rfl rfl rfl rfl rfl (.cons .sc (.take (.own rfl) rfl (.cons .sc (.take (.own rfl) rfl .nil)))) rfl) ?_
      refine d9 (M5 8 (e:=3) (sz:=1) (zs:=[.int .i64 0]) (enc:=f9) 0 rfl rfl (by kernel_rfl) rfl rfl rfl rfl rfl rfl (.cons .sc .nil)) ?_
      refine d9 (oD [(0,1),(1,1)] [.int .i64 0,.slice none 0 0]) ?_
      refine d9 (m7 9 (e:=103) (sz:=2) (zs:=[.int .i64 0,.slice none 0 0]) (enc:=(y9 f9 (x9 1 f9))) [(4,[0])] rfl rfl (by kernel_rfl) rfl rfl rfl rfl rfl rfl rfl rfl (.cons .sc (.take (.own rfl) rfl .nil)) rfl) ?_
      refine d9 (oD [(0,1),(1,1),(2,1),(3,1),(4,1)] [.slice none 0 0,.slice none 0 0,.bool false,.int .i64 0,.int .i64 0]) ?_
      refine rS 5<|c9 ?_
      refine n7 2 7 rfl rfl rfl ?_
      refine n7 3 9 rfl rfl rfl ?_
      refine S8 Tryz.func195 (X9 5 .nil) (⟨[(2,[0,1]),(3,[1,2])],[(4,[0])],false,0,0,i22,h23⟩) ?_ ?_ (hL:=⟨rfl,⟨rfl,⟨rfl,trivial⟩⟩⟩)
      ·(try dsimp only) <;>(exact⟨by simp [R1,H2],by simp,by omega⟩)
      ·rfl
     ·
      have h11':=d8 h11
      refine t9<|rB ?_
      refine rA<|c9 ?_
      refine j9 rfl (fun h12=>?_) (fun h12=>?_)
      ·
       have h12':=a8 h12
       refine t9 ?_
       refine d9 (M5 5 (e:=3) (sz:=1) (zs:=[.int .i64 0]) (enc:=f9) 0 rfl rfl (by kernel_rfl) rfl rfl rfl rfl rfl rfl (.cons .sc .nil)) ?_
       refine d9 (oD [(0,1),(1,1)] [.int .i64 0,.slice none 0 0]) ?_
       refine d9 (m7 6 (e:=103) (sz:=2) (zs:=[.int .i64 0,.slice none 0 0]) (enc:=(y9 f9 (x9 1 f9))) [(4,[0])] rfl rfl (by kernel_rfl) rfl rfl rfl rfl rfl rfl rfl rfl (.cons .sc (.take (.own rfl) rfl .nil)) rfl) ?_
       refine d9 (m7 7 (e:=3) (sz:=1) (zs:=[.int .i64 0]) (enc:=f9) [0,1] rfl rfl (by kernel_rfl) rfl rfl rfl rfl rfl rfl rfl rfl (.cons .sc (.cons .sc .nil)) rfl) ?_
       refine d9 (oD [(0,1),(1,1)] [.int .i64 0,.slice none 0 0]) ?_
       refine d9 (m7 8 (e:=103) (sz:=2) (zs:=[.int .i64 0,.slice none 0 0]) (enc:=(y9 f9 (x9 1 f9))) [(3,[0,1])] rfl rfl (by kernel_rfl) rfl rfl rfl rfl rfl rfl rfl rfl (.cons .sc (.take (.own rfl) rfl .nil)) rfl) ?_
       refine d9 (oD [(0,1),(1,1),(2,1),(3,1),(4,1)] [.slice none 0 0,.slice none 0 0,.bool false,.int .i64 0,.int .i64 0]) ?_
       refine rS 5<|c9 ?_
       refine n7 2 6 rfl rfl rfl ?_
       refine n7 3 8 rfl rfl rfl ?_
       refine S8 Tryz.func195 (X9 5 .nil) (⟨[(4,[0])],[(3,[0,1])],false,0,0,i22,h23⟩) ?_ ?_ (hL:=⟨rfl,⟨rfl,⟨rfl,trivial⟩⟩⟩)
       ·(try dsimp only) <;>(exact⟨by simp [R1,H2],by simp,by omega⟩)
       ·rfl
      ·
       have h12':=d8 h12
       refine t9<|rB ?_
       refine rA<|c9 ?_
       refine j9 rfl (fun h13=>?_) (fun h13=>?_)
       ·
        have h13':=a8 h13
        refine t9 ?_
        refine d9 (m7 5 (e:=3) (sz:=1) (zs:=[.int .i64 0]) (enc:=f9) [0,1] rfl rfl (by kernel_rfl) rfl rfl rfl rfl rfl rfl rfl rfl (.cons .sc (.cons .sc .nil)) rfl) ?_
        refine d9 (oD [(0,1),(1,1)] [.int .i64 0,.slice none 0 0]) ?_
        refine d9 (m7 6 (e:=103) (sz:=2) (zs:=[.int .i64 0,.slice none 0 0]) (enc:=(y9 f9 (x9 1 f9))) [(2,[0,1])] rfl rfl (by kernel_rfl) rfl rfl rfl rfl rfl rfl rfl rfl (.cons .sc (.take (.own rfl) rfl .nil)) rfl) ?_
        refine d9 (M5 7 (e:=3) (sz:=1) (zs:=[.int .i64 0]) (enc:=f9) 1 rfl rfl (by kernel_rfl) rfl rfl rfl rfl rfl rfl (.cons .sc .nil)) ?_
        refine d9 (oD [(0,1),(1,1)] [.int .i64 0,.slice none 0 0]) ?_
        refine d9 (m7 8 (e:=103) (sz:=2) (zs:=[.int .i64 0,.slice none 0 0]) (enc:=(y9 f9 (x9 1 f9))) [(4,[1])] rfl rfl (by kernel_rfl) rfl rfl rfl rfl rfl rfl rfl rfl (.cons .sc (.take (.own rfl) rfl .nil)) rfl) ?_
        refine d9 (oD [(0,1),(1,1),(2,1),(3,1),(4,1)] [.slice none 0 0,.slice none 0 0,.bool false,.int .i64 0,.int .i64 0]) ?_
        refine rS 5<|c9 ?_
        refine n7 2 6 rfl rfl rfl ?_
        refine n7 3 8 rfl rfl rfl ?_
        refine S8 Tryz.func195 (X9 5 .nil) (⟨[(2,[0,1])],[(4,[1])],false,0,0,i22,h23⟩) ?_ ?_ (hL:=⟨rfl,⟨rfl,⟨rfl,trivial⟩⟩⟩)
        ·(try dsimp only) <;>(exact⟨by simp [R1,H2],by simp,by omega⟩)
        ·rfl
       ·
        have h13':=d8 h13
        refine t9<|rB ?_
        refine rA<|c9 ?_
        refine j9 rfl (fun h14=>?_) (fun h14=>?_)
        ·
         have h14':=a8 h14
         refine t9 ?_
         refine d9 (m7 5 (e:=3) (sz:=1) (zs:=[.int .i64 0]) (enc:=f9) [0,1] rfl rfl (by kernel_rfl) rfl rfl rfl rfl rfl rfl rfl rfl (.cons .sc (.cons .sc .nil)) rfl) ?_
         refine d9 (oD [(0,1),(1,1)] [.int .i64 0,.slice none 0 0]) ?_
         refine d9 (m7 6 (e:=103) (sz:=2) (zs:=[.int .i64 0,.slice none 0 0]) (enc:=(y9 f9 (x9 1 f9))) [(2,[0,1])] rfl rfl (by kernel_rfl) rfl rfl rfl rfl rfl rfl rfl rfl (.cons .sc (.take (.own rfl) rfl .nil)) rfl) ?_
         refine d9 (m7 7 (e:=3) (sz:=1) (zs:=[.int .i64 0]) (enc:=f9) [1,2] rfl rfl (by kernel_rfl) rfl rfl rfl rfl rfl rfl rfl rfl (.cons .sc (.cons .sc .nil)) rfl) ?_
         refine d9 (oD [(0,1),(1,1)] [.int .i64 0,.slice none 0 0]) ?_
         refine d9 (m7 8 (e:=103) (sz:=2) (zs:=[.int .i64 0,.slice none 0 0]) (enc:=(y9 f9 (x9 1 f9))) [(2,[1,2])] rfl rfl (by kernel_rfl) rfl rfl rfl rfl rfl rfl rfl rfl (.cons .sc (.take (.own rfl) rfl .nil)) rfl) ?_
         refine d9 (oD [(0,1),(1,1),(2,1),(3,1),(4,1)] [.slice none 0 0,.slice none 0 0,.bool false,.int .i64 0,.int .i64 0]) ?_
         refine rS 5<|c9 ?_
         refine n7 2 6 rfl rfl rfl ?_
         refine n7 3 8 rfl rfl rfl ?_
         refine S8 Tryz.func195 (X9 5 .nil) (⟨[(2,[0,1])],[(2,[1,2])],false,0,0,i22,h23⟩) ?_ ?_ (hL:=⟨rfl,⟨rfl,⟨rfl,trivial⟩⟩⟩)
         ·(try dsimp only) <;>(exact⟨by simp [R1,H2],by simp,by omega⟩)
         ·rfl
        ·
         have h14':=d8 h14
         refine m9<|i9<|t9 ?_
         refine d9 (m7 5 (e:=3) (sz:=1) (zs:=[.int .i64 0]) (enc:=f9) [0,1] rfl rfl (by kernel_rfl) rfl rfl rfl rfl rfl rfl rfl rfl (.cons .sc (.cons .sc .nil)) rfl) ?_
         refine d9 (oD [(0,1),(1,1)] [.int .i64 0,.slice none 0 0]) ?_
         refine d9 (m7 6 (e:=3) (sz:=1) (zs:=[.int .i64 0]) (enc:=f9) [1,0] rfl rfl (by kernel_rfl) rfl rfl rfl rfl rfl rfl rfl rfl (.cons .sc (.cons .sc .nil)) rfl) ?_
         refine d9 (oD [(0,1),(1,1)] [.int .i64 0,.slice none 0 0]) ?_
         refine d9 (m7 7 (e:=103) (sz:=2) (zs:=[.int .i64 0,.slice none 0 0]) (enc:=(y9 f9 (x9 1 f9))) [(3,[0,1]),(3,[1,0])] rfl rfl (by kernel_rfl) rfl rfl rfl rfl rfl rfl rfl rfl (.cons .sc (.take (.own rfl) rfl (.cons .sc (.take (.own rfl) rfl .nil)))) rfl) ?_
         refine d9 (oD [(0,1),(1,1),(2,1),(3,1),(4,1)] [.slice none 0 0,.slice none 0 0,.bool false,.int .i64 0,.int .i64 0]) ?_
         refine rS 5<|c9 ?_
         refine A6 8 (b:=1) (o:=1) (et:=103) (sz:=2) true (y9 f9 (x9 1 f9)) rfl rfl rfl ?_
         refine n7 2 7 rfl rfl rfl ?_
         refine n7 3 8 rfl rfl rfl ?_
         refine S8 Tryz.func195 (X9 5 .nil) (⟨[(3,[0,1]),(3,[1,0])],[],true,0,1,i22,h23⟩) ?_ ?_ (hL:=⟨rfl,⟨rfl,⟨rfl,trivial⟩⟩⟩)
         ·(try dsimp only) <;>(exact⟨by simp [R1,H2],by simp,by omega⟩)
         ·rfl
theorem y7 (code:List Int)(i h r vars:Int)(hc:code.length≤1048576)(hi0:0≤i)(hi1:i≤code.length)(hr:0≤r∧r≤4)(hv:1≤vars∧vars≤5):vS Tryz.prog 163 [.c (.ptr 0 0),.c (.t none (.v (.int .i64 r))),.c (.t none (.v (.int .i64 vars)))] [.t none (.sl 1 u7 code),.t none (.v (.int .i64 i)),.t none (.v (.int .i64 h))] (fun(⟨ts,i2,h2⟩:(List Int) × Int × Int)=>(1≤ts.length∧ts.length≤2)∧(∀x∈ts, -3≤x∧x≤4)∧0≤i2∧i2≤code.length) (fun(⟨ts,i2,h2⟩:(List Int) × Int × Int)=>[.t none (.sl 1 u7 code),.t none (.v (.int .i64 i2)),.t none (.v (.int .i64 h2))]) (fun(⟨ts,i2,h2⟩:(List Int) × Int × Int)=>[(4,some (.row none 3 true 1 f9 ts))]) 5 (fun(⟨ts,i2,h2⟩:(List Int) × Int × Int)=> .agg [.t none (.v (.int .i64 r)),.own 4]):=by
 refine D7 Tryz.func163 rfl (Nat.le_of_ble_eq_true rfl) fun v0 w S M hM=>?_
 have ar:=mK hr
 refine t9 ?_
 refine d9 (F9 1 (zs:=[.int .i64 0,.slice none 0 0]) rfl rfl (by kernel_rfl) rfl) ?_
 refine P8 ?_
 refine d9 (n9 2 3 false (H9 Tryz.func109) (V2) rfl .nil rfl rfl rfl) ?_
 refine rA<|P8 ?_
 refine rM ?_
 refine d9 (oD [(0,1),(1,1)] [.int .i64 0,.slice none 0 0]) ?_
 refine d9 (F9 3 (zs:=[.int .i64 0,.slice none 0 0]) rfl rfl (by kernel_rfl) rfl) ?_
 refine rS 2<|c9<|k9<|p9 ?_
 refine A6 4 (b:=3) (o:=1) (et:=3) (sz:=1) true f9 rfl rfl rfl ?_
 refine J9 (fun(ts,i3,h3)=>⟨[(0,some (.c (.ptr 0 0))),(1,some (.c (.t none (.v (.int .i64 r))))),(2,some (.c (.t none (.v (.int .i64 vars))))),(6,some (.c (.ptr 1 0))),(7,some (.c (.own 2))),(8,some (.c (.ptr 3 0)))],[(0,some (.pbox v0 [.t none (.sl 1 u7 code),.t none (.v (.int .i64 i3)),.t none (.v (.int .i64 h3))])),(1,some (.box [.t none (.v (.int .i64 0)),.t none (.v (.slice none 0 0))])),(2,some (.row none 95 true 3 (j8 Y9 f9 U9) X8)),(3,some (.box [.t none (.v (.int .i64 r)),.own 4])),(4,some (.row none 3 true 1 f9 ts))],5⟩:List Int × Int × Int→St) (fun(ts,i3,h3)=>((ts.length:Int)≤aH r)∧(∀x∈ts, -3≤x∧x≤4)∧(0≤i3∧i3≤code.length)) (fun(ts,i3,h3)=>2 - ts.length) ([],i,h) ⟨⟨rfl,⟨rfl,⟨rfl,⟨rfl,⟨rfl,⟨rfl,trivial⟩⟩⟩⟩⟩⟩,⟨rfl,⟨rfl,⟨rfl,⟨rfl,⟨rfl,trivial⟩⟩⟩⟩⟩,rfl⟩ (by exact⟨by simp;omega,fun x hx=>by simp at hx,by omega⟩) ?_
 rintro⟨ts,i3,h3⟩ hI ih0
 try dsimp only at hI ih0
 obtain⟨j1,j2,j3⟩:=hI
 refine k9<|k9 ?_
 refine tY ?_
 refine dT 0 rfl (pF 1) ?_
 refine dT 1 rfl pL ?_
 refine dT 2 rfl (LZ rfl rfl rfl) ?_
 refine dT 3 rfl pM ?_
 refine dT 4 rfl pM ?_
 obtain⟨z1,hz2,b3⟩:=v9 (xs:=X8) (n:=r) (by omega) (by(rw [t7];omega))
 refine dT 5 rfl (V9 (by kernel_rfl) rfl rfl rfl b3 (f8 b3 hz2)) ?_
 refine dT 6 rfl (I4 (off:=1) (by kernel_rfl) rfl) ?_
 refine dT 7 rfl (M8 (by kernel_rfl) rfl rfl rfl hz2) ?_
 refine dT 8 rfl pB ?_
 refine dE ?_
 refine j9 rfl (fun h4=>?_) (fun h4=>?_)
 ·
  have h4':=a8 h4
  refine m9<|p9<|t9<|rM ?_
  refine K8 (o9 0 5 6 (pv:=some v0) (H9 Tryz.func57) (K6 code i3 h3 14 (by omega) (by omega) (by omega) (by omega) (by omega)) rfl rfl (.cur rfl (.cons rfl .nil)) rfl (fun⟨_,_,_⟩=>rfl) (fun _=>rfl) (fun⟨_,_,_⟩=>rfl) rfl rfl) ?_
  rintro⟨⟨b5,i26,h27⟩,hq8⟩
  try dsimp only at hq8
  try dsimp only
  refine c9 ?_
  refine j9 rfl (fun h10=>?_) (fun h10=>?_)
  ·
   have h10':=h10
   refine tD (fun i=>!(Nat.beq i 3||Nat.beq i 6||Nat.beq i 8)) ?_
   refine V8 0 rfl rfl (by kernel_rfl) (by kernel_rfl) (by kernel_rfl) (I7 (off:=1) (by kernel_rfl) rfl) ?_
   refine dT 2 rfl pM ?_
   refine G8 1 3 rfl rfl (by kernel_rfl) rfl rfl (N4 oL) (o9 0 6 7 (pv:=some v0) (H9 Tryz.func41) (r9 code i26 h27 3 (by omega) (by omega) (by omega) (by omega) (by omega)) rfl rfl (.cur rfl (.cons rfl .nil)) rfl (fun⟨_,_,_⟩=>rfl) (fun _=>rfl) (fun⟨_,_,_⟩=>rfl) rfl rfl) ?_ ?_
   ·
    rintro⟨⟩
    refine J0 3 rfl (o9 0 6 7 (pv:=some v0) (H9 Tryz.func41) (r9 code i26 h27 3 (by omega) (by omega) (by omega) (by omega) (by omega)) rfl rfl (.cur rfl (.cons rfl .nil)) rfl (fun⟨_,_,_⟩=>rfl) (fun _=>rfl) (fun⟨_,_,_⟩=>rfl) rfl rfl) ?_
    rintro⟨⟨x17,i218,h219⟩,hq20⟩
    try dsimp only at hq20
    try dsimp only
    obtain⟨q21,q22⟩:=hq20
    refine dT 4 rfl pB ?_
    refine dO 5 rfl (w8 7 (e:=3) (sz:=1) (zs:=[.int .i64 0]) rfl rfl (by kernel_rfl) rfl rfl rfl rfl rfl) ?_
    refine dO 6 rfl (W9 4 (e:=3) (sz:=1) (by':=8) (IntKind.i64.wrap ((-1) - x17)) rfl (by kernel_rfl) rfl rfl rfl rfl rfl rfl (.cons .sc .nil) rfl (by omega) (by omega)) ?_
    refine dT 7 rfl (pF 1) ?_
    refine dO 8 rfl (oS 1) ?_
    refine dE ?_
    refine i9 ?_
    have sg:=AY hz2
    refine Z9 ?_ (ih0 (ts++[IntKind.i64.wrap ((-1) - x17)],i218,h219) (by(try dsimp only);(simp;omega)) (by(try dsimp only);exact⟨by(simp only [List.length_append,List.length_singleton];omega),d7 j2 (by(try simp only [IntKind.wrap_i64]);omega),by omega⟩))
    exact⟨⟨rfl,⟨rfl,⟨rfl,⟨rfl,⟨rfl,⟨rfl,trivial⟩⟩⟩⟩⟩⟩,⟨rfl,⟨rfl,⟨rfl,⟨rfl,⟨rfl,trivial⟩⟩⟩⟩⟩,rfl⟩
   ·
    rintro⟨⟨x11,i212,h213⟩,hq14⟩
    try dsimp only at hq14
    try dsimp only
    obtain⟨q15,q16⟩:=hq14
    refine dT 1 rfl pL ?_
    refine dT 4 rfl pB ?_
    refine dO 5 rfl (w8 7 (e:=3) (sz:=1) (zs:=[.int .i64 0]) rfl rfl (by kernel_rfl) rfl rfl rfl rfl rfl) ?_
    refine dO 6 rfl (W9 4 (e:=3) (sz:=1) (by':=8) (IntKind.i64.wrap ((-1) - x11)) rfl (by kernel_rfl) rfl rfl rfl rfl rfl rfl (.cons .sc .nil) rfl (by omega) (by omega)) ?_
    refine dT 7 rfl (pF 1) ?_
    refine dO 8 rfl (oS 1) ?_
    refine dE ?_
    refine i9 ?_
    have sg:=AY hz2
    refine Z9 ?_ (ih0 (ts++[IntKind.i64.wrap ((-1) - x11)],i212,h213) (by(try dsimp only);(simp;omega)) (by(try dsimp only);exact⟨by(simp only [List.length_append,List.length_singleton];omega),d7 j2 (by(try simp only [IntKind.wrap_i64]);omega),by omega⟩))
    exact⟨⟨rfl,⟨rfl,⟨rfl,⟨rfl,⟨rfl,⟨rfl,trivial⟩⟩⟩⟩⟩⟩,⟨rfl,⟨rfl,⟨rfl,⟨rfl,⟨rfl,trivial⟩⟩⟩⟩⟩,rfl⟩
  ·
   have h10':=h10
   refine tD (fun i=>!(Nat.beq i 4||Nat.beq i 6||Nat.beq i 8)) ?_
   refine V8 0 rfl rfl (by kernel_rfl) (by kernel_rfl) (by kernel_rfl) (I7 (off:=1) (by kernel_rfl) rfl) ?_
   refine dT 2 rfl pM ?_
   refine dT 3 rfl pM ?_
   refine G8 1 4 rfl rfl (by kernel_rfl) rfl rfl (N4 oL) (o9 0 6 7 (pv:=some v0) (H9 Tryz.func41) (r9 code i26 h27 vars (by omega) (by omega) (by omega) (by omega) (by omega)) rfl rfl (.cur rfl (.cons rfl .nil)) rfl (fun⟨_,_,_⟩=>rfl) (fun _=>rfl) (fun⟨_,_,_⟩=>rfl) rfl rfl) ?_ ?_
   ·
    rintro⟨⟩
    refine J0 4 rfl (o9 0 6 7 (pv:=some v0) (H9 Tryz.func41) (r9 code i26 h27 vars (by omega) (by omega) (by omega) (by omega) (by omega)) rfl rfl (.cur rfl (.cons rfl .nil)) rfl (fun⟨_,_,_⟩=>rfl) (fun _=>rfl) (fun⟨_,_,_⟩=>rfl) rfl rfl) ?_
    rintro⟨⟨x29,i230,h231⟩,hq32⟩
    try dsimp only at hq32
    try dsimp only
    obtain⟨q33,q34⟩:=hq32
    refine dO 5 rfl (w8 7 (e:=3) (sz:=1) (zs:=[.int .i64 0]) rfl rfl (by kernel_rfl) rfl rfl rfl rfl rfl) ?_
    refine dO 6 rfl (W9 4 (e:=3) (sz:=1) (by':=8) x29 rfl (by kernel_rfl) rfl rfl rfl rfl rfl rfl (.cons .sc .nil) rfl (by omega) (by omega)) ?_
    refine dT 7 rfl (pF 1) ?_
    refine dO 8 rfl (oS 1) ?_
    refine dE ?_
    refine i9 ?_
    have sg:=AY hz2
    refine Z9 ?_ (ih0 (ts++[x29],i230,h231) (by(try dsimp only);(simp;omega)) (by(try dsimp only);exact⟨by(simp only [List.length_append,List.length_singleton];omega),d7 j2 (by(try simp only [IntKind.wrap_i64]);omega),by omega⟩))
    exact⟨⟨rfl,⟨rfl,⟨rfl,⟨rfl,⟨rfl,⟨rfl,trivial⟩⟩⟩⟩⟩⟩,⟨rfl,⟨rfl,⟨rfl,⟨rfl,⟨rfl,trivial⟩⟩⟩⟩⟩,rfl⟩
   ·
    rintro⟨⟨x23,i224,h225⟩,hq26⟩
    try dsimp only at hq26
    try dsimp only
    obtain⟨q27,q28⟩:=hq26
    refine dT 1 rfl pL ?_
    refine dO 5 rfl (w8 7 (e:=3) (sz:=1) (zs:=[.int .i64 0]) rfl rfl (by kernel_rfl) rfl rfl rfl rfl rfl) ?_
    refine dO 6 rfl (W9 4 (e:=3) (sz:=1) (by':=8) x23 rfl (by kernel_rfl) rfl rfl rfl rfl rfl rfl (.cons .sc .nil) rfl (by omega) (by omega)) ?_
    refine dT 7 rfl (pF 1) ?_
    refine dO 8 rfl (oS 1) ?_
    refine dE ?_
    refine i9 ?_
    have sg:=AY hz2
    refine Z9 ?_ (ih0 (ts++[x23],i224,h225) (by(try dsimp only);(simp;omega)) (by(try dsimp only);exact⟨by(simp only [List.length_append,List.length_singleton];omega),d7 j2 (by(try simp only [IntKind.wrap_i64]);omega),by omega⟩))
    exact⟨⟨rfl,⟨rfl,⟨rfl,⟨rfl,⟨rfl,⟨rfl,trivial⟩⟩⟩⟩⟩⟩,⟨rfl,⟨rfl,⟨rfl,⟨rfl,⟨rfl,trivial⟩⟩⟩⟩⟩,rfl⟩
 ·
  have h4':=d8 h4
  refine N9 rfl<|t9<|rC 2 ?_
  refine rS 2<|c9 ?_
  refine S8 Tryz.func163 (X9 2 .nil) (⟨ts,i3,h3⟩) ?_ ?_ (hL:=⟨rfl,⟨rfl,trivial⟩⟩) <;>(try clear ih0)
  ·(try dsimp only) <;>((have sg:=AY hz2);exact⟨by omega,j2,by omega⟩)
  ·rfl
theorem vY (U:Nat→Value)(l:List Int)(x:Int)(hl:l.length≤1099511627776):Mu Tryz.prog 106 [.c (.own 0),.c (.t none (.v (.int .i64 x)))] [(0,some (.row (some (U 0)) 3 true 1 f9 l))] 1 [(0,some (.row none 3 true 1 f9 (O3 l x)))] 1 (.c (.own 0)):=by
 refine sT Tryz.func106 rfl (Nat.le_of_ble_eq_true rfl) fun w S M=>?_
 refine t9<|rA<|P8 ?_
 refine rA<|c9<|k9<|p9 ?_
 refine J9 (fun m=>⟨[(0,some (.c (.own 0))),(1,some (.c (.t none (.v (.int .i64 x))))),(4,some (.c (.t none (.v (.slice none 0 0))))),(5,some (.c (.t none (.v (.int .i64 ((m:Int)))))))],[(0,some (.row (some (U 0)) 3 true 1 f9 l))],1⟩:Nat→St) (fun m=>m≤l.length∧∀j y,j < m→l[j]? =some y→y < x) (fun m=>l.length - m) 0 ⟨⟨rfl,⟨rfl,⟨rfl,⟨rfl,trivial⟩⟩⟩⟩,⟨rfl,trivial⟩,rfl⟩ (by exact⟨Nat.zero_le _,fun j z h=>by omega⟩) ?_
 rintro m hI ih0
 try dsimp only at hI ih0
 obtain⟨i1,i2⟩:=hI
 refine k9<|t9<|rM ?_
 refine rM ?_
 refine d9 (A7 rfl rfl rfl rfl) ?_
 refine rB ?_
 refine rM ?_
 refine A9 (fun g1=>?_) (fun g1=>?_)
 ·
  have g1':=a8 g1
  refine rM ?_
  refine A9 (fun _=>?_) (nc g1)
  refine rM ?_
  refine A9 (fun _=>?_) (nc g1)
  obtain⟨z2,hz3,b4⟩:=v9 (xs:=l) (n:=(m:Int)) (by omega) (by omega)
  refine d9 (o8 rfl (by kernel_rfl) rfl rfl rfl b4 (f8 b4 hz3)) ?_
  refine A9 (fun _=>?_) (nc g1)
  refine d9 (t8 rfl (by kernel_rfl) rfl rfl rfl hz3) ?_
  refine A9 (fun _=>?_) (nc g1)
  refine rM ?_
  refine A9 (fun _=>?_) (nc g1)
  refine rB ?_
  refine d9 (M9 rfl rfl g1 rfl) ?_
  refine c9 ?_
  refine j9 rfl (fun h5=>?_) (fun h5=>?_)
  ·
   have h5':=a8 h5
   refine m9<|p9<|l9<|rM ?_
   refine rB ?_
   refine rA<|c9<|i9 ?_
   refine Z9 ?_ (ih0 (m + 1) (by(try dsimp only);omega) (by(try dsimp only);exact⟨by omega,eJ i2 (by assumption) rfl (by omega)⟩))
   exact⟨⟨rfl,⟨rfl,⟨rfl,⟨(L7 (n8 (by omega) (by omega))),trivial⟩⟩⟩⟩,⟨rfl,trivial⟩,rfl⟩
  ·
   have h5':=d8 h5
   refine N9 rfl<|k9<|t9<|rM ?_
   refine rM ?_
   refine d9 (A7 rfl rfl rfl rfl) ?_
   refine rB ?_
   refine rM ?_
   refine A9 (fun g6=>?_) (fun g6=>?_)
   ·
    have g6':=a8 g6
    refine rM ?_
    refine A9 (fun _=>?_) (nc g6)
    refine rM ?_
    refine A9 (fun _=>?_) (nc g6)
    refine d9 (o8 rfl (by kernel_rfl) rfl rfl rfl b4 (f8 b4 hz3)) ?_
    refine A9 (fun _=>?_) (nc g6)
    refine d9 (t8 rfl (by kernel_rfl) rfl rfl rfl hz3) ?_
    refine A9 (fun _=>?_) (nc g6)
    refine rM ?_
    refine A9 (fun _=>?_) (nc g6)
    refine rB ?_
    refine d9 (M9 rfl rfl g6 rfl) ?_
    refine c9 ?_
    refine j9 rfl (fun h7=>?_) (fun h7=>?_)
    ·
     have h7':=a8 h7
     refine t9<|rM ?_
     refine rA<|c9 ?_
     refine eY 0 rfl ?_
     refine nN Tryz.func106 (.tmp rfl .nil) ?_ (hL:=⟨Q8 ?_,trivial⟩) <;>(try clear ih0)
     all_goals first | rfl | ((rw [kT i2 (by assumption) (by omega)];done))
    ·
     have h7':=d8 h7
     refine m9<|t9<|rM ?_
     refine d9 (M5 1 (e:=3) (sz:=1) (zs:=[.int .i64 0]) (enc:=f9) x rfl rfl (by kernel_rfl) rfl rfl rfl rfl rfl rfl (.cons .sc .nil)) ?_
     refine rM ?_
     refine rM ?_
     refine d9 (QZ rfl (by kernel_rfl) rfl rfl (.l rfl (by omega) (by omega))) ?_
     refine d9 (o7 1 (e:=3) (sz:=1) (by':=8) rfl (by kernel_rfl) rfl rfl rfl rfl (fun _ _=>⟨_,rfl⟩) (by(simp only [List.length_append,List.length_take,List.length_drop,List.length_cons,List.length_nil];omega)) (by(simp only [List.length_append,List.length_take,List.length_drop,List.length_cons,List.length_nil];omega))) ?_
     refine rA<|P8 ?_
     refine d9 (c7 2 (e:=3) (sz:=1) (zs:=[.int .i64 0]) f9 rfl rfl (by kernel_rfl) rfl) ?_
     refine rM ?_
     refine rM ?_
     refine d9 (QZ rfl (by kernel_rfl) rfl rfl (.h rfl (by omega) (by omega))) ?_
     refine d9 (o7 2 (e:=3) (sz:=1) (by':=8) rfl (by kernel_rfl) rfl rfl rfl rfl (fun _ _=>⟨_,rfl⟩) (by(simp only [List.length_append,List.length_take,List.length_drop,List.length_cons,List.length_nil];omega)) (by(simp only [List.length_append,List.length_take,List.length_drop,List.length_cons,List.length_nil];omega))) ?_
     refine rM ?_
     refine d9 (UX 2 (e:=3) (sz:=1) (by':=8) rfl (by kernel_rfl) rfl rfl rfl rfl rfl (by decide) (fun _ _=>⟨_,rfl⟩) (by(simp only [List.length_append,List.length_take,List.length_drop,List.length_cons,List.length_nil];omega)) (by(simp only [List.length_append,List.length_take,List.length_drop,List.length_cons,List.length_nil];omega))) ?_
     refine rA<|c9 ?_
     refine tX 4 2 rfl rfl ?_
     refine nN Tryz.func106 (.tmp rfl .nil) ?_ (hL:=⟨Q8 ?_,trivial⟩) <;>(try clear ih0)
     all_goals first | rfl | ((rw [SW i2 i1 (fun y hy=>by(have e7:=Option.some.inj (hy.symm.trans hz3);omega))];simp))
   ·
    have g6':=d8 g6
    refine A9 (C9 g6) (fun _=>?_)
    refine A9 (C9 g6) (fun _=>?_)
    refine A9 (C9 g6) (fun _=>?_)
    refine A9 (C9 g6) (fun _=>?_)
    refine A9 (C9 g6) (fun _=>?_)
    refine d9 (G9 rfl rfl g6 rfl) ?_
    refine c9 ?_
    refine j9 rfl (C9 rfl) (fun _=>?_)
    refine m9<|t9<|rM ?_
    refine d9 (M5 1 (e:=3) (sz:=1) (zs:=[.int .i64 0]) (enc:=f9) x rfl rfl (by kernel_rfl) rfl rfl rfl rfl rfl rfl (.cons .sc .nil)) ?_
    refine rM ?_
    refine rM ?_
    refine d9 (QZ rfl (by kernel_rfl) rfl rfl (.l rfl (by omega) (by omega))) ?_
    refine d9 (o7 1 (e:=3) (sz:=1) (by':=8) rfl (by kernel_rfl) rfl rfl rfl rfl (fun _ _=>⟨_,rfl⟩) (by omega) (by omega)) ?_
    refine rA<|P8 ?_
    refine d9 (c7 2 (e:=3) (sz:=1) (zs:=[.int .i64 0]) f9 rfl rfl (by kernel_rfl) rfl) ?_
    refine rM ?_
    refine rM ?_
    refine d9 (QZ rfl (by kernel_rfl) rfl rfl (.h rfl (by omega) (by omega))) ?_
    refine d9 (o7 2 (e:=3) (sz:=1) (by':=8) rfl (by kernel_rfl) rfl rfl rfl rfl (fun _ _=>⟨_,rfl⟩) (by omega) (by omega)) ?_
    refine rM ?_
    refine d9 (UX 2 (e:=3) (sz:=1) (by':=8) rfl (by kernel_rfl) rfl rfl rfl rfl rfl (by decide) (fun _ _=>⟨_,rfl⟩) (by omega) (by omega)) ?_
    refine rA<|c9 ?_
    refine tX 4 2 rfl rfl ?_
    refine nN Tryz.func106 (.tmp rfl .nil) ?_ (hL:=⟨Q8 ?_,trivial⟩) <;>(try clear ih0)
    all_goals first | rfl | ((rw [SW i2 i1 (fun y hy=>by(have e7:=Option.some.inj (hy.symm.trans hz3);omega))];simp))
 ·
  have g1':=d8 g1
  refine A9 (C9 g1) (fun _=>?_)
  refine A9 (C9 g1) (fun _=>?_)
  refine A9 (C9 g1) (fun _=>?_)
  refine A9 (C9 g1) (fun _=>?_)
  refine A9 (C9 g1) (fun _=>?_)
  refine d9 (G9 rfl rfl g1 rfl) ?_
  refine c9 ?_
  refine j9 rfl (C9 rfl) (fun _=>?_)
  refine N9 rfl<|k9<|t9<|rM ?_
  refine rM ?_
  refine d9 (A7 rfl rfl rfl rfl) ?_
  refine rB ?_
  refine rM ?_
  refine A9 (fun g8=>?_) (fun g8=>?_)
  ·
   have g8':=a8 g8
   refine rM ?_
   refine A9 (fun _=>?_) (nc g8)
   refine rM ?_
   refine A9 (fun _=>?_) (nc g8)
   obtain⟨z9,hz10,b11⟩:=v9 (xs:=l) (n:=(m:Int)) (by omega) (by omega)
   refine d9 (o8 rfl (by kernel_rfl) rfl rfl rfl b11 (f8 b11 hz10)) ?_
   refine A9 (fun _=>?_) (nc g8)
   refine d9 (t8 rfl (by kernel_rfl) rfl rfl rfl hz10) ?_
   refine A9 (fun _=>?_) (nc g8)
   refine rM ?_
   refine A9 (fun _=>?_) (nc g8)
   refine rB ?_
   refine d9 (M9 rfl rfl g8 rfl) ?_
   refine c9 ?_
   refine j9 rfl (fun h12=>?_) (fun h12=>?_)
   ·
    have h12':=a8 h12
    refine t9<|rM ?_
    refine rA<|c9 ?_
    refine eY 0 rfl ?_
    refine nN Tryz.func106 (.tmp rfl .nil) ?_ (hL:=⟨Q8 ?_,trivial⟩) <;>(try clear ih0)
    all_goals first | rfl | ((rw [kT i2 (by assumption) (by omega)];done))
   ·
    have h12':=d8 h12
    refine m9<|t9<|rM ?_
    refine d9 (M5 1 (e:=3) (sz:=1) (zs:=[.int .i64 0]) (enc:=f9) x rfl rfl (by kernel_rfl) rfl rfl rfl rfl rfl rfl (.cons .sc .nil)) ?_
    refine rM ?_
    refine rM ?_
    refine d9 (QZ rfl (by kernel_rfl) rfl rfl (.l rfl (by omega) (by omega))) ?_
    refine d9 (o7 1 (e:=3) (sz:=1) (by':=8) rfl (by kernel_rfl) rfl rfl rfl rfl (fun _ _=>⟨_,rfl⟩) (by omega) (by omega)) ?_
    refine rA<|P8 ?_
    refine d9 (c7 2 (e:=3) (sz:=1) (zs:=[.int .i64 0]) f9 rfl rfl (by kernel_rfl) rfl) ?_
    refine rM ?_
    refine rM ?_
    refine d9 (QZ rfl (by kernel_rfl) rfl rfl (.h rfl (by omega) (by omega))) ?_
    refine d9 (o7 2 (e:=3) (sz:=1) (by':=8) rfl (by kernel_rfl) rfl rfl rfl rfl (fun _ _=>⟨_,rfl⟩) (by omega) (by omega)) ?_
    refine rM ?_
    refine d9 (UX 2 (e:=3) (sz:=1) (by':=8) rfl (by kernel_rfl) rfl rfl rfl rfl rfl (by decide) (fun _ _=>⟨_,rfl⟩) (by omega) (by omega)) ?_
    refine rA<|c9 ?_
    refine tX 4 2 rfl rfl ?_
    refine nN Tryz.func106 (.tmp rfl .nil) ?_ (hL:=⟨Q8 ?_,trivial⟩) <;>(try clear ih0)
    all_goals first | rfl | ((rw [SW i2 i1 (fun y hy=>by(have e7:=Option.some.inj (hy.symm.trans hz10);omega))];simp))
  ·
   have g8':=d8 g8
   refine A9 (C9 g8) (fun _=>?_)
   refine A9 (C9 g8) (fun _=>?_)
   refine A9 (C9 g8) (fun _=>?_)
   refine A9 (C9 g8) (fun _=>?_)
   refine A9 (C9 g8) (fun _=>?_)
   refine d9 (G9 rfl rfl g8 rfl) ?_
   refine c9 ?_
   refine j9 rfl (C9 rfl) (fun _=>?_)
   refine m9<|t9<|rM ?_
   refine d9 (M5 1 (e:=3) (sz:=1) (zs:=[.int .i64 0]) (enc:=f9) x rfl rfl (by kernel_rfl) rfl rfl rfl rfl rfl rfl (.cons .sc .nil)) ?_
   refine rM ?_
   refine rM ?_
   refine d9 (QZ rfl (by kernel_rfl) rfl rfl (.l rfl (by omega) (by omega))) ?_
   refine d9 (o7 1 (e:=3) (sz:=1) (by':=8) rfl (by kernel_rfl) rfl rfl rfl rfl (fun _ _=>⟨_,rfl⟩) (by(simp only [List.length_append,List.length_take,List.length_drop,List.length_cons,List.length_nil];omega)) (by(simp only [List.length_append,List.length_take,List.length_drop,List.length_cons,List.length_nil];omega))) ?_
   refine rA<|P8 ?_
   refine d9 (c7 2 (e:=3) (sz:=1) (zs:=[.int .i64 0]) f9 rfl rfl (by kernel_rfl) rfl) ?_
   refine rM ?_
   refine rM ?_
   refine d9 (QZ rfl (by kernel_rfl) rfl rfl (.h rfl (by omega) (by omega))) ?_
   refine d9 (o7 2 (e:=3) (sz:=1) (by':=8) rfl (by kernel_rfl) rfl rfl rfl rfl (fun _ _=>⟨_,rfl⟩) (by(simp only [List.length_append,List.length_take,List.length_drop,List.length_cons,List.length_nil];omega)) (by(simp only [List.length_append,List.length_take,List.length_drop,List.length_cons,List.length_nil];omega))) ?_
   refine rM ?_
   refine d9 (UX 2 (e:=3) (sz:=1) (by':=8) rfl (by kernel_rfl) rfl rfl rfl rfl rfl (by decide) (fun _ _=>⟨_,rfl⟩) (by(simp only [List.length_append,List.length_take,List.length_drop,List.length_cons,List.length_nil];omega)) (by(simp only [List.length_append,List.length_take,List.length_drop,List.length_cons,List.length_nil];omega))) ?_
   refine rA<|c9 ?_
   refine tX 4 2 rfl rfl ?_
   refine nN Tryz.func106 (.tmp rfl .nil) ?_ (hL:=⟨Q8 ?_,trivial⟩) <;>(try clear ih0)
   all_goals first | rfl | ((rw [SW i2 i1 (fun y hy=>by(have e7:=(List.getElem?_eq_some_iff.1 hy).1;omega))];simp))
theorem N5 (l:List (Int × List Int))(hl:N8 (fun(x:Int ×(List Int))=>x.2.length) l≤1048576):Pu Tryz.prog 128 [.c (.t none (.sl 2 (y9 f9 (x9 1 f9)) l))] [(0,some (.row none 3 true 1 f9 (O9 (I9 l))))] 1 (.c (.own 0)):=by
 refine S7 Tryz.func128 fun w S=>?_
 have gl:=I8 (f:=(fun(x:Int ×(List Int))=>x.2.length)) (l:=l);have gv:=F7 l
 refine t9<|rA<|P8 ?_
 refine d9 (c7 0 (e:=3) (sz:=1) (zs:=[.int .i64 0]) f9 rfl rfl (by kernel_rfl) rfl) ?_
 refine rA<|c9<|k9<|t9 ?_
 refine rA<|c9<|p9 ?_
 refine J9 (fun m=>⟨[(0,some (.c (.t none (.sl 2 (y9 f9 (x9 1 f9)) l)))),(2,some (.c (.t none (.v (.slice none 0 0))))),(3,some (.c (.own 0))),(4,some (.c (.t none (.v (.int .i64 ((m:Int)))))))],[(0,some (.row none 3 true 1 f9 (O9 (I9 (l.take m)))))],1⟩:Nat→St) (fun m=>m≤l.length) (fun m=>l.length - m) 0 ⟨⟨rfl,⟨rfl,⟨rfl,⟨rfl,trivial⟩⟩⟩⟩,⟨rfl,trivial⟩,rfl⟩ (by exact Nat.zero_le _) ?_
 rintro m hI ih0
 try dsimp only at hI ih0
 have i1:=hI
 refine k9<|t9<|rM ?_
 refine rM ?_
 refine d9 (P9 rfl rfl rfl) ?_
 refine rB<|c9 ?_
 refine j9 rfl (fun h1=>?_) (fun h1=>?_)
 ·
  have h1':=a8 h1
  refine m9<|k9<|p9<|t9<|rA<|c9<|p9 ?_
  refine J9 (fun n=>⟨[(0,some (.c (.t none (.sl 2 (y9 f9 (x9 1 f9)) l)))),(2,some (.c (.t none (.v (.slice none 0 0))))),(3,some (.c (.own 0))),(4,some (.c (.t none (.v (.int .i64 ((m:Int))))))),(5,some (.c (.t none (.v (.int .i64 ((n:Int)))))))],[(0,some (.row none 3 true 1 f9 (O9 (I9 (l.take m)++Z6 ((l.getD m (0,[])).2.take n)))))],1⟩:Nat→St) (fun n=>n≤(l.getD m (0,[])).2.length) (fun n=>(l.getD m (0,[])).2.length - n) 0 ⟨⟨rfl,⟨rfl,⟨rfl,⟨rfl,⟨rfl,trivial⟩⟩⟩⟩⟩,⟨(Q8 (by rw [uU,List.append_nil])),trivial⟩,rfl⟩ (by exact Nat.zero_le _) ?_
  rintro n hI ih1
  try dsimp only at hI ih1
  have j1:=hI;have hzv:=GL (l:=l) (m:=m) (by omega);have vp:=jS (n:=n) hzv;(have e1:=X7 (f:=(fun(x:Int ×(List Int))=>x.2.length)) (l:=l) (m:=m) hzv;(try dsimp only at e1));have sl:=Q7 (I9 (l.take m)++Z6 ((l.getD m (0,[])).2.take n));rw [List.length_append] at sl
  refine k9<|t9<|rM ?_
  refine rM ?_
  refine rM ?_
  obtain⟨z2,hz3,b4⟩:=v9 (xs:=l) (n:=(m:Int)) (by omega) (by omega)
  refine d9 (Q9 rfl (by kernel_rfl) rfl rfl b4 hz3) ?_
  refine d9 (wZ rfl (off:=1) (by kernel_rfl) rfl) ?_
  refine d9 (i8 rfl (by kernel_rfl) rfl rfl) ?_
  refine d9 (P9 rfl rfl rfl) ?_
  refine rB<|c9 ?_
  refine j9 rfl (fun h5=>?_) (fun h5=>?_)
  ·
   have h5':=a8 h5
   refine m9<|k9<|p9<|t9<|rM ?_
   refine rM ?_
   refine d9 (Q9 rfl (by kernel_rfl) rfl rfl b4 hz3) ?_
   refine d9 (wZ rfl (off:=1) (by kernel_rfl) rfl) ?_
   refine d9 (i8 rfl (by kernel_rfl) rfl rfl) ?_
   refine rM ?_
   obtain⟨z6,hz7,b8⟩:=v9 (xs:=z2.2) (n:=(n:Int)) (by omega) (by omega)
   refine d9 (Q9 rfl (by kernel_rfl) rfl rfl b8 hz7) ?_
   refine d9 (i8 rfl (by kernel_rfl) rfl rfl) ?_
   refine rB<|c9 ?_
   refine j9 rfl (fun h9=>?_) (fun h9=>?_)
   ·
    have h9':=a8 h9
    refine l9<|rM ?_
    refine rM ?_
    refine rM ?_
    refine d9 (Q9 rfl (by kernel_rfl) rfl rfl b4 hz3) ?_
    refine d9 (wZ rfl (off:=1) (by kernel_rfl) rfl) ?_
    refine d9 (i8 rfl (by kernel_rfl) rfl rfl) ?_
    refine rM ?_
    refine d9 (Q9 rfl (by kernel_rfl) rfl rfl b8 hz7) ?_
    refine d9 (i8 rfl (by kernel_rfl) rfl rfl) ?_
    refine d9 (OX 0 (l':=O3 (O9 (I9 (l.take m)++Z6 ((l.getD m (0,[])).2.take n))) z6) (H9 Tryz.func106) (fun U=>vY U  (O9 (I9 (l.take m)++Z6 ((l.getD m (0,[])).2.take n))) z6 (by omega)) rfl rfl (.cons rfl (.own rfl) (.cons rfl .t0 .nil))) ?_
    refine rA<|c9<|i9<|l9 ?_
    refine rM ?_
    refine rB ?_
    refine rA<|c9 ?_
    have gd3:=Option.some.inj (hzv.symm.trans hz3);have gd4:=congrArg (fun q=>q.2.length) gd3;(try dsimp only at gd4);have hx9:(l.getD m (0,[])).2[n]? =some z6:=by rw [gd3];exact hz7
    refine Z9 ?_ (ih1 (n + 1) (by(try dsimp only);omega) (by(try dsimp only);omega))
    exact⟨⟨rfl,⟨rfl,⟨rfl,⟨rfl,⟨(L7 (n8 (by omega) (by omega))),trivial⟩⟩⟩⟩⟩,⟨(Q8 (by(rw [rU hx9 (by omega),← List.append_assoc,RV];done))),trivial⟩,rfl⟩
   ·
    have h9':=d8 h9
    refine m9<|i9<|l9<|rM ?_
    refine rB ?_
    refine rA<|c9 ?_
    have gd3:=Option.some.inj (hzv.symm.trans hz3);have gd4:=congrArg (fun q=>q.2.length) gd3;(try dsimp only at gd4);have hx9:(l.getD m (0,[])).2[n]? =some z6:=by rw [gd3];exact hz7
    refine Z9 ?_ (ih1 (n + 1) (by(try dsimp only);omega) (by(try dsimp only);omega))
    exact⟨⟨rfl,⟨rfl,⟨rfl,⟨rfl,⟨(L7 (n8 (by omega) (by omega))),trivial⟩⟩⟩⟩⟩,⟨(Q8 (by(rw [mU hx9 (by omega)];done))),trivial⟩,rfl⟩
  ·
   have h5':=d8 h5
   refine N9 rfl<|i9<|l9<|rM ?_
   refine rB ?_
   refine rA<|c9 ?_
   have gd3:=Option.some.inj (hzv.symm.trans hz3)
   refine Z9 ?_ (ih0 (m + 1) (by(try dsimp only);omega) (by(try dsimp only);omega))
   exact⟨⟨rfl,⟨rfl,⟨rfl,⟨(L7 (n8 (by omega) (by omega))),trivial⟩⟩⟩⟩,⟨(Q8 (by rw [JW hzv,gd3];congr 3;exact List.take_of_length_le (by rw [gd3] at j1;omega))),trivial⟩,rfl⟩
 ·
  have h1':=d8 h1
  refine N9 rfl<|t9<|rM ?_
  refine rA<|c9 ?_
  refine tk Tryz.func128 (.tmp rfl .nil) ?_ (hL:=⟨Q8 ?_,trivial⟩) <;>(try clear ih0) <;>(try clear ih1)
  all_goals first | rfl | ((rw [TX (by omega)]))
theorem PZ (code:List Int)(i h:Int)(hc:code.length≤1048576)(hi0:0≤i)(hi1:i≤code.length):vS Tryz.prog 154 [.c (.ptr 0 0)] [.t none (.sl 1 u7 code),.t none (.v (.int .i64 i)),.t none (.v (.int .i64 h))] (fun(⟨b,hs,e,lv,rv,i2,h2⟩:w9 × w9 × Bool × Int × Int × Int × Int)=>R1 (b,hs,e,lv,rv)∧hs.length≤2∧0≤i2∧i2≤code.length) (fun(⟨b,hs,e,lv,rv,i2,h2⟩:w9 × w9 × Bool × Int × Int × Int × Int)=>[.t none (.sl 1 u7 code),.t none (.v (.int .i64 i2)),.t none (.v (.int .i64 h2))]) (fun(⟨b,hs,e,lv,rv,i2,h2⟩:w9 × w9 × Bool × Int × Int × Int × Int)=>[(5,some (.row none 103 true 2 (y9 f9 (x9 1 f9)) b)),(6,some (.row none 103 true 2 (y9 f9 (x9 1 f9)) hs))]) 7 (fun(⟨b,hs,e,lv,rv,i2,h2⟩:w9 × w9 × Bool × Int × Int × Int × Int)=> .agg [.own 5,.own 6,.t none (.v (.bool e)),.t none (.v (.int .i64 lv)),.t none (.v (.int .i64 rv))]):=by
 refine D7 Tryz.func154 rfl (Nat.le_of_ble_eq_true rfl) fun v0 w S M hM=>?_
 refine t9 ?_
 refine d9 (F9 1 (zs:=[.slice none 0 0,.slice none 0 0,.bool false,.int .i64 0,.int .i64 0]) rfl rfl (by kernel_rfl) rfl) ?_
 refine c9<|k9<|t9<|rM ?_
 refine K8 (o9 0 2 3 (pv:=some v0) (H9 Tryz.func57) (K6 code i h 3 (by omega) (by omega) (by omega) (by omega) (by omega)) rfl rfl (.cur rfl (.cons rfl .nil)) rfl (fun⟨_,_,_⟩=>rfl) (fun _=>rfl) (fun⟨_,_,_⟩=>rfl) rfl rfl) ?_
 rintro⟨⟨b1,i22,h23⟩,hq4⟩
 try dsimp only at hq4
 try dsimp only
 refine d9 (E8 rfl rfl) ?_
 refine c9 ?_
 refine j9 rfl (fun h6=>?_) (fun h6=>?_)
 ·
  have h6':=(d4 h6)
  refine t9<|rM ?_
  refine K8 (o9 0 3 7 (pv:=some v0) (H9 Tryz.func195) (oT code i22 h23 (by omega) (by omega) (by omega)) rfl rfl (.cur rfl .nil) rfl (fun⟨_,_,_,_,_,_,_⟩=>rfl) (fun _=>rfl) (fun⟨_,_,_,_,_,_,_⟩=>rfl) rfl rfl) ?_
  rintro⟨⟨b7,hs8,e9,lv10,rv11,i212,h213⟩,hq14⟩
  try dsimp only at hq14
  try dsimp only
  obtain⟨q15,q16,q17⟩:=hq14
  refine rS 5<|c9 ?_
  refine S8 Tryz.func154 (X9 5 .nil) (⟨b7,hs8,e9,lv10,rv11,i212,h213⟩) ?_ ?_ (hL:=⟨rfl,⟨rfl,⟨rfl,trivial⟩⟩⟩) <;>(try clear ih0) <;>(try clear ih1)
  ·(try dsimp only) <;>((exact⟨by assumption,by assumption,by omega⟩))
  ·rfl
 ·
  have h6':=(Y5 h6)
  refine m9<|t9 ?_
  refine d9 (oD [(0,1),(1,1),(2,1),(3,1),(4,1)] [.slice none 0 0,.slice none 0 0,.bool false,.int .i64 0,.int .i64 0]) ?_
  refine d9 (F9 3 (zs:=[.slice none 0 0,.slice none 0 0,.bool false,.int .i64 0,.int .i64 0]) rfl rfl (by kernel_rfl) rfl) ?_
  refine rS 5<|c9<|k9<|t9 ?_
  refine rM ?_
  refine K8 (o9 0 4 5 (pv:=some v0) (H9 Tryz.func41) (r9 code i22 h23 2 (by omega) (by omega) (by omega) (by omega) (by omega)) rfl rfl (.cur rfl (.cons rfl .nil)) rfl (fun⟨_,_,_⟩=>rfl) (fun _=>rfl) (fun⟨_,_,_⟩=>rfl) rfl rfl) ?_
  rintro⟨⟨x18,i219,h220⟩,hq21⟩
  try dsimp only at hq21
  try dsimp only
  obtain⟨q22,q23⟩:=hq21
  refine rB ?_
  refine rA<|c9<|p9 ?_
  refine A6 5 (b:=3) (o:=0) (et:=103) (sz:=2) true (y9 f9 (x9 1 f9)) rfl rfl rfl ?_
  refine A6 6 (b:=3) (o:=1) (et:=103) (sz:=2) true (y9 f9 (x9 1 f9)) rfl rfl rfl ?_
  refine J9 (fun(kk,bs,i3,h3)=>⟨[(0,some (.c (.ptr 0 0))),(2,some (.c (.ptr 1 0))),(3,some (.c (.ptr 3 0))),(4,some (.c (.t none (.v (.int .i64 kk)))))],[(0,some (.pbox v0 [.t none (.sl 1 u7 code),.t none (.v (.int .i64 i3)),.t none (.v (.int .i64 h3))])),(1,some (.box [.t none (.v (.slice none 0 0)),.t none (.v (.slice none 0 0)),.t none (.v (.bool false)),.t none (.v (.int .i64 0)),.t none (.v (.int .i64 0))])),(3,some (.box [.own 5,.own 6,.t none (.v (.bool false)),.t none (.v (.int .i64 0)),.t none (.v (.int .i64 0))])),(5,some (.row none 103 true 2 (y9 f9 (x9 1 f9)) bs)),(6,some (.row none 103 true 2 (y9 f9 (x9 1 f9)) ([])))],7⟩:Int × w9 × Int × Int→St) (fun(kk,bs,i3,h3)=>(0≤kk∧kk≤2)∧(1≤IntKind.i64.wrap (1 + x18)∧IntKind.i64.wrap (1 + x18)≤2)∧((bs.length:Int) + kk=IntKind.i64.wrap (1 + x18))∧(∀a∈bs,H2 a)∧(0≤i3∧i3≤code.length)) (fun(kk,bs,i3,h3)=>kk.toNat) (IntKind.i64.wrap (1 + x18),[],i219,h220) ⟨⟨rfl,⟨rfl,⟨rfl,⟨rfl,trivial⟩⟩⟩⟩,⟨rfl,⟨rfl,⟨rfl,⟨rfl,⟨rfl,trivial⟩⟩⟩⟩⟩,rfl⟩ (by exact⟨(by(try dsimp only);((try simp only [IntKind.wrap_i64] at *);omega)),(by(try dsimp only);((try simp only [IntKind.wrap_i64] at *);omega)),(by(try dsimp only);simp),(fun a ha=>by simp at ha),(by(try dsimp only);omega)⟩) ?_
  rintro⟨kk,bs,i3,h3⟩ hI ih0
  try dsimp only at hI ih0
  obtain⟨b1,b2,b3,b4,b5⟩:=hI
  refine k9<|t9<|rM ?_
  refine rB<|c9 ?_
  refine j9 rfl (fun h24=>?_) (fun h24=>?_)
  ·
   have h24':=a8 h24
   refine m9<|k9<|p9 ?_
   refine tD (fun i=>!(Nat.beq i 4||Nat.beq i 5||Nat.beq i 7||Nat.beq i 9)) ?_
   refine V8 0 rfl rfl (by kernel_rfl) (by kernel_rfl) (by kernel_rfl) (I7 (off:=0) (by kernel_rfl) rfl) ?_
   refine V8 2 rfl rfl (by kernel_rfl) (by kernel_rfl) (by kernel_rfl) (G5 rfl) ?_
   refine dT 3 rfl pM ?_
   refine G8 1 4 rfl rfl (by kernel_rfl) rfl rfl (N4 oL) (o9 0 7 8 (pv:=some v0) (H9 Tryz.func41) (r9 code i3 h3 5 (by omega) (by omega) (by omega) (by omega) (by omega)) rfl rfl (.cur rfl (.cons rfl .nil)) rfl (fun⟨_,_,_⟩=>rfl) (fun _=>rfl) (fun⟨_,_,_⟩=>rfl) rfl rfl) ?_ ?_
   ·
    rintro⟨⟩
    refine J0 4 rfl (o9 0 7 8 (pv:=some v0) (H9 Tryz.func41) (r9 code i3 h3 5 (by omega) (by omega) (by omega) (by omega) (by omega)) rfl rfl (.cur rfl (.cons rfl .nil)) rfl (fun⟨_,_,_⟩=>rfl) (fun _=>rfl) (fun⟨_,_,_⟩=>rfl) rfl rfl) ?_
    rintro⟨⟨x31,i232,h233⟩,hq34⟩
    try dsimp only at hq34
    try dsimp only
    obtain⟨q35,q36⟩:=hq34
    refine J0 5 rfl (o9 0 8 13 (pv:=some v0) (H9 Tryz.func163) (y7 code i232 h233 x31 3 (by omega) (by omega) (by omega) (by omega) (by omega)) rfl rfl (.cur rfl (.cons rfl (.cons rfl .nil))) rfl (fun⟨_,_,_⟩=>rfl) (fun _=>rfl) (fun⟨_,_,_⟩=>rfl) rfl rfl) ?_
    rintro⟨⟨ts37,i238,h239⟩,hq40⟩
    try dsimp only at hq40
    try dsimp only
    obtain⟨q41,q42,q43⟩:=hq40
    have hy9:∀x∈ts37, -3≤x∧x≤4:=(by assumption)
    refine dO 6 rfl (w8 13 (e:=103) (sz:=2) (zs:=[.int .i64 0,.slice none 0 0]) rfl rfl (by kernel_rfl) rfl rfl rfl rfl rfl) ?_
    refine dO 7 rfl (W9 5 (e:=103) (sz:=2) (by':=32) ((x31,ts37)) rfl (by kernel_rfl) rfl rfl rfl rfl rfl rfl (.cons .sc (.take (.own rfl) rfl .nil)) rfl (by omega) (by omega)) ?_
    refine dT 8 rfl (pF 0) ?_
    refine dO 9 rfl (oS 1) ?_
    refine dE ?_
    refine i9<|l9<|rM ?_
    refine rB ?_
    refine rA<|c9 ?_
    refine Z9 ?_ (ih0 (IntKind.i64.wrap (kk - 1),bs++[(x31,ts37)],i238,h239) (by(try dsimp only);((try simp only [IntKind.wrap_i64] at *);omega)) (by(try dsimp only);exact⟨(by((try simp only [IntKind.wrap_i64] at *);omega)),b2,(by(simp only [List.length_append,List.length_singleton]);((try simp only [IntKind.wrap_i64] at *);omega)),d7 b4 ⟨(by((try simp only [IntKind.wrap_i64] at *);omega)),(by(try dsimp only);omega),(fun x hx=>by have e9:=hy9 x hx;omega)⟩,by omega⟩))
    exact⟨⟨rfl,⟨rfl,⟨rfl,⟨rfl,trivial⟩⟩⟩⟩,⟨rfl,⟨rfl,⟨rfl,⟨rfl,⟨rfl,trivial⟩⟩⟩⟩⟩,rfl⟩
   ·
    rintro⟨⟨x25,i226,h227⟩,hq28⟩
    try dsimp only at hq28
    try dsimp only
    obtain⟨q29,q30⟩:=hq28
    refine G8 1 5 rfl rfl (by kernel_rfl) rfl rfl (N4 oL) (o9 0 8 13 (pv:=some v0) (H9 Tryz.func163) (y7 code i226 h227 x25 3 (by omega) (by omega) (by omega) (by omega) (by omega)) rfl rfl (.cur rfl (.cons rfl (.cons rfl .nil))) rfl (fun⟨_,_,_⟩=>rfl) (fun _=>rfl) (fun⟨_,_,_⟩=>rfl) rfl rfl) ?_ ?_
    ·
     rintro⟨⟩
     refine J0 5 rfl (o9 0 8 13 (pv:=some v0) (H9 Tryz.func163) (y7 code i226 h227 x25 3 (by omega) (by omega) (by omega) (by omega) (by omega)) rfl rfl (.cur rfl (.cons rfl (.cons rfl .nil))) rfl (fun⟨_,_,_⟩=>rfl) (fun _=>rfl) (fun⟨_,_,_⟩=>rfl) rfl rfl) ?_
     rintro⟨⟨ts51,i252,h253⟩,hq54⟩
     try dsimp only at hq54
     try dsimp only
     obtain⟨q55,q56,q57⟩:=hq54
     have hy9:∀x∈ts51, -3≤x∧x≤4:=(by assumption)
     refine dO 6 rfl (w8 13 (e:=103) (sz:=2) (zs:=[.int .i64 0,.slice none 0 0]) rfl rfl (by kernel_rfl) rfl rfl rfl rfl rfl) ?_
     refine dO 7 rfl (W9 5 (e:=103) (sz:=2) (by':=32) ((x25,ts51)) rfl (by kernel_rfl) rfl rfl rfl rfl rfl rfl (.cons .sc (.take (.own rfl) rfl .nil)) rfl (by omega) (by omega)) ?_
     refine dT 8 rfl (pF 0) ?_
     refine dO 9 rfl (oS 1) ?_
     refine dE ?_
     refine i9<|l9<|rM ?_
     refine rB ?_
     refine rA<|c9 ?_
     refine Z9 ?_ (ih0 (IntKind.i64.wrap (kk - 1),bs++[(x25,ts51)],i252,h253) (by(try dsimp only);((try simp only [IntKind.wrap_i64] at *);omega)) (by(try dsimp only);exact⟨(by((try simp only [IntKind.wrap_i64] at *);omega)),b2,(by(simp only [List.length_append,List.length_singleton]);((try simp only [IntKind.wrap_i64] at *);omega)),d7 b4 ⟨(by((try simp only [IntKind.wrap_i64] at *);omega)),(by(try dsimp only);omega),(fun x hx=>by have e9:=hy9 x hx;omega)⟩,by omega⟩))
     exact⟨⟨rfl,⟨rfl,⟨rfl,⟨rfl,trivial⟩⟩⟩⟩,⟨rfl,⟨rfl,⟨rfl,⟨rfl,⟨rfl,trivial⟩⟩⟩⟩⟩,rfl⟩
    ·
     rintro⟨⟨ts44,i245,h246⟩,hq47⟩
     try dsimp only at hq47
     try dsimp only
     obtain⟨q48,q49,q50⟩:=hq47
     have hy9:∀x∈ts44, -3≤x∧x≤4:=(by assumption)
     refine dT 1 rfl pL ?_
     refine dO 6 rfl (w8 13 (e:=103) (sz:=2) (zs:=[.int .i64 0,.slice none 0 0]) rfl rfl (by kernel_rfl) rfl rfl rfl rfl rfl) ?_
     refine dO 7 rfl (W9 5 (e:=103) (sz:=2) (by':=32) ((x25,ts44)) rfl (by kernel_rfl) rfl rfl rfl rfl rfl rfl (.cons .sc (.take (.own rfl) rfl .nil)) rfl (by omega) (by omega)) ?_
     refine dT 8 rfl (pF 0) ?_
     refine dO 9 rfl (oS 1) ?_
     refine dE ?_
     refine i9<|l9<|rM ?_
     refine rB ?_
     refine rA<|c9 ?_
     refine Z9 ?_ (ih0 (IntKind.i64.wrap (kk - 1),bs++[(x25,ts44)],i245,h246) (by(try dsimp only);((try simp only [IntKind.wrap_i64] at *);omega)) (by(try dsimp only);exact⟨(by((try simp only [IntKind.wrap_i64] at *);omega)),b2,(by(simp only [List.length_append,List.length_singleton]);((try simp only [IntKind.wrap_i64] at *);omega)),d7 b4 ⟨(by((try simp only [IntKind.wrap_i64] at *);omega)),(by(try dsimp only);omega),(fun x hx=>by have e9:=hy9 x hx;omega)⟩,by omega⟩))
     exact⟨⟨rfl,⟨rfl,⟨rfl,⟨rfl,trivial⟩⟩⟩⟩,⟨rfl,⟨rfl,⟨rfl,⟨rfl,⟨rfl,trivial⟩⟩⟩⟩⟩,rfl⟩
  ·
   have h24':=d8 h24
   refine N9 rfl<|t9<|rF 0 ?_
   refine rL ?_
   refine d9 (n9 7 8 false (H9 Tryz.func128) (N5 bs (by(have e7:=pU b4;omega))) rfl (.cons rfl (.c (.own rfl)) .nil) rfl rfl rfl) ?_
   refine rA<|c9<|k9<|t9 ?_
   refine rM ?_
   refine d9 (A7 rfl rfl rfl rfl) ?_
   refine rB ?_
   refine rM ?_
   refine A9 (fun g58=>?_) (fun g58=>?_)
   ·
    have g58':=a8 g58
    refine rM ?_
    refine A9 (fun _=>?_) (nc g58)
    refine K8 (o9 0 8 9 (pv:=some v0) (H9 Tryz.func57) (K6 code i3 h3 3 (by omega) (by omega) (by omega) (by omega) (by omega)) rfl rfl (.cur rfl (.cons rfl .nil)) rfl (fun⟨_,_,_⟩=>rfl) (fun _=>rfl) (fun⟨_,_,_⟩=>rfl) rfl rfl) ?_
    rintro⟨⟨b59,i260,h261⟩,hq62⟩
    try dsimp only at hq62
    try dsimp only
    refine d9 (M9 rfl rfl g58 rfl) ?_
    refine c9 ?_
    refine j9 rfl (fun h64=>?_) (fun h64=>?_)
    ·
     have h64':=h64
     refine t9<|rF 2 ?_
     refine rS 1<|P8 ?_
     refine rM ?_
     obtain⟨z65,hz66,b67⟩:=v9 (xs:=O9 (I9 bs)) (n:=0) (by omega) (by omega)
     refine d9 (o8 rfl (by kernel_rfl) rfl rfl rfl b67 (f8 b67 hz66)) ?_
     refine d9 (t8 rfl (by kernel_rfl) rfl rfl rfl hz66) ?_
     refine rF 3 ?_
     refine rS 1<|P8 ?_
     refine rM ?_
     obtain⟨z68,hz69,b70⟩:=v9 (xs:=O9 (I9 bs)) (n:=1) (by omega) (by omega)
     refine d9 (o8 rfl (by kernel_rfl) rfl rfl rfl b70 (f8 b70 hz69)) ?_
     refine d9 (t8 rfl (by kernel_rfl) rfl rfl rfl hz69) ?_
     refine rF 4 ?_
     refine rS 1<|P8 ?_
     refine rC 5 ?_
     refine rS 5<|c9 ?_
     refine S8 Tryz.func154 (X9 5 .nil) (⟨bs,[],true,z65,z68,i260,h261⟩) ?_ ?_ (hL:=⟨rfl,⟨rfl,⟨rfl,trivial⟩⟩⟩) <;>(try clear ih0) <;>(try clear ih1)
     ·(try dsimp only) <;>((refine⟨⟨by(try dsimp only);omega,by(try dsimp only);(simp;done),b4,(by(intro a ha;simp at ha)),?_,?_⟩,by(simp;done),by omega⟩ <;>(try dsimp only) <;>(have e1:=VO b4 _ ((fY _ _).1 (D8 hz66));have e2:=VO b4 _ ((fY _ _).1 (D8 hz69));omega)))
     ·rfl
    ·
     have h64':=h64
     refine m9<|k9<|t9<|rM ?_
     refine K8 (o9 0 9 10 (pv:=some v0) (H9 Tryz.func41) (r9 code i260 h261 2 (by omega) (by omega) (by omega) (by omega) (by omega)) rfl rfl (.cur rfl (.cons rfl .nil)) rfl (fun⟨_,_,_⟩=>rfl) (fun _=>rfl) (fun⟨_,_,_⟩=>rfl) rfl rfl) ?_
     rintro⟨⟨x71,i272,h273⟩,hq74⟩
     try dsimp only at hq74
     try dsimp only
     obtain⟨q75,q76⟩:=hq74
     refine rB ?_
     refine rA<|c9<|p9 ?_
     refine J9 (fun(kk,gs,i3,h3)=>⟨[(0,some (.c (.ptr 0 0))),(2,some (.c (.ptr 1 0))),(3,some (.c (.ptr 3 0))),(6,some (.c (.t none (.v (.int .i64 kk)))))],[(0,some (.pbox v0 [.t none (.sl 1 u7 code),.t none (.v (.int .i64 i3)),.t none (.v (.int .i64 h3))])),(1,some (.box [.t none (.v (.slice none 0 0)),.t none (.v (.slice none 0 0)),.t none (.v (.bool false)),.t none (.v (.int .i64 0)),.t none (.v (.int .i64 0))])),(3,some (.box [.own 5,.own 6,.t none (.v (.bool false)),.t none (.v (.int .i64 0)),.t none (.v (.int .i64 0))])),(5,some (.row none 103 true 2 (y9 f9 (x9 1 f9)) bs)),(6,some (.row none 103 true 2 (y9 f9 (x9 1 f9)) gs)),(7,some (.row none 3 true 1 f9 (O9 (I9 bs))))],10⟩:Int × w9 × Int × Int→St) (fun(kk,gs,i3,h3)=>(0≤kk∧kk≤2)∧(1≤IntKind.i64.wrap (1 + x71)∧IntKind.i64.wrap (1 + x71)≤2)∧((gs.length:Int) + kk=IntKind.i64.wrap (1 + x71))∧(∀a∈gs,H2 a)∧(0≤i3∧i3≤code.length)) (fun(kk,gs,i3,h3)=>kk.toNat) (IntKind.i64.wrap (1 + x71),[],i272,h273) ⟨⟨rfl,⟨rfl,⟨rfl,⟨rfl,trivial⟩⟩⟩⟩,⟨rfl,⟨rfl,⟨rfl,⟨rfl,⟨rfl,⟨rfl,trivial⟩⟩⟩⟩⟩⟩,rfl⟩ (by exact⟨(by(try dsimp only);((try simp only [IntKind.wrap_i64] at *);omega)),(by(try dsimp only);((try simp only [IntKind.wrap_i64] at *);omega)),(by(try dsimp only);simp),(fun a ha=>by simp at ha),(by(try dsimp only);omega)⟩) ?_
     rintro⟨kk,gs,i3,h3⟩ hI ih1
     try dsimp only at hI ih1
     obtain⟨g1,g2,g3,g4,g5⟩:=hI
     refine k9<|t9<|rM ?_
     refine rB<|c9 ?_
     refine j9 rfl (fun h77=>?_) (fun h77=>?_)
     ·
      have h77':=a8 h77
      refine m9<|k9<|p9 ?_
      refine tD (fun i=>!(Nat.beq i 4||Nat.beq i 6||Nat.beq i 8||Nat.beq i 10)) ?_
      refine V8 0 rfl rfl (by kernel_rfl) (by kernel_rfl) (by kernel_rfl) (I7 (off:=1) (by kernel_rfl) rfl) ?_
      refine V8 2 rfl rfl (by kernel_rfl) (by kernel_rfl) (by kernel_rfl) (G5 rfl) ?_
      refine dT 3 rfl pM ?_
      refine G8 1 4 rfl rfl (by kernel_rfl) rfl rfl (N4 oL) (o9 0 10 11 (pv:=some v0) (H9 Tryz.func41) (r9 code i3 h3 3 (by omega) (by omega) (by omega) (by omega) (by omega)) rfl rfl (.cur rfl (.cons rfl .nil)) rfl (fun⟨_,_,_⟩=>rfl) (fun _=>rfl) (fun⟨_,_,_⟩=>rfl) rfl rfl) ?_ ?_
      ·
       rintro⟨⟩
       refine J0 4 rfl (o9 0 10 11 (pv:=some v0) (H9 Tryz.func41) (r9 code i3 h3 3 (by omega) (by omega) (by omega) (by omega) (by omega)) rfl rfl (.cur rfl (.cons rfl .nil)) rfl (fun⟨_,_,_⟩=>rfl) (fun _=>rfl) (fun⟨_,_,_⟩=>rfl) rfl rfl) ?_
       rintro⟨⟨x84,i285,h286⟩,hq87⟩
       try dsimp only at hq87
       try dsimp only
       obtain⟨q88,q89⟩:=hq87
       refine dT 5 rfl pB ?_
       refine J0 6 rfl (o9 0 11 16 (pv:=some v0) (H9 Tryz.func163) (y7 code i285 h286 (IntKind.i64.wrap (2 + x84)) 4 (by omega) (by omega) (by omega) (by(simp only [IntKind.wrap_i64] at *;omega)) (by omega)) rfl rfl (.cur rfl (.cons rfl (.cons rfl .nil))) rfl (fun⟨_,_,_⟩=>rfl) (fun _=>rfl) (fun⟨_,_,_⟩=>rfl) rfl rfl) ?_
       rintro⟨⟨ts90,i291,h292⟩,hq93⟩
       try dsimp only at hq93
       try dsimp only
       obtain⟨q94,q95,q96⟩:=hq93
       have hy9:∀x∈ts90, -3≤x∧x≤4:=(by assumption)
       refine dO 7 rfl (w8 16 (e:=103) (sz:=2) (zs:=[.int .i64 0,.slice none 0 0]) rfl rfl (by kernel_rfl) rfl rfl rfl rfl rfl) ?_
       refine dO 8 rfl (W9 6 (e:=103) (sz:=2) (by':=32) (((IntKind.i64.wrap (2 + x84)),ts90)) rfl (by kernel_rfl) rfl rfl rfl rfl rfl rfl (.cons .sc (.take (.own rfl) rfl .nil)) rfl (by omega) (by omega)) ?_
       refine dT 9 rfl (pF 1) ?_
       refine dO 10 rfl (oS 1) ?_
       refine dE ?_
       refine i9<|l9<|rM ?_
       refine rB ?_
       refine rA<|c9 ?_
       refine Z9 ?_ (ih1 (IntKind.i64.wrap (kk - 1),gs++[((IntKind.i64.wrap (2 + x84)),ts90)],i291,h292) (by(try dsimp only);((try simp only [IntKind.wrap_i64] at *);omega)) (by(try dsimp only);exact⟨(by((try simp only [IntKind.wrap_i64] at *);omega)),g2,(by(simp only [List.length_append,List.length_singleton]);((try simp only [IntKind.wrap_i64] at *);omega)),d7 g4 ⟨(by((try simp only [IntKind.wrap_i64] at *);omega)),(by(try dsimp only);omega),(fun x hx=>by have e9:=hy9 x hx;omega)⟩,by omega⟩))
       exact⟨⟨rfl,⟨rfl,⟨rfl,⟨rfl,trivial⟩⟩⟩⟩,⟨rfl,⟨rfl,⟨rfl,⟨rfl,⟨rfl,⟨rfl,trivial⟩⟩⟩⟩⟩⟩,rfl⟩
      ·
       rintro⟨⟨x78,i279,h280⟩,hq81⟩
       try dsimp only at hq81
       try dsimp only
       obtain⟨q82,q83⟩:=hq81
       refine dT 5 rfl pB ?_
       refine G8 1 6 rfl rfl (by kernel_rfl) rfl rfl (N4 oL) (o9 0 11 16 (pv:=some v0) (H9 Tryz.func163) (y7 code i279 h280 (IntKind.i64.wrap (2 + x78)) 4 (by omega) (by omega) (by omega) (by(simp only [IntKind.wrap_i64] at *;omega)) (by omega)) rfl rfl (.cur rfl (.cons rfl (.cons rfl .nil))) rfl (fun⟨_,_,_⟩=>rfl) (fun _=>rfl) (fun⟨_,_,_⟩=>rfl) rfl rfl) ?_ ?_
       ·
        rintro⟨⟩
        refine J0 6 rfl (o9 0 11 16 (pv:=some v0) (H9 Tryz.func163) (y7 code i279 h280 (IntKind.i64.wrap (2 + x78)) 4 (by omega) (by omega) (by omega) (by(simp only [IntKind.wrap_i64] at *;omega)) (by omega)) rfl rfl (.cur rfl (.cons rfl (.cons rfl .nil))) rfl (fun⟨_,_,_⟩=>rfl) (fun _=>rfl) (fun⟨_,_,_⟩=>rfl) rfl rfl) ?_
        rintro⟨⟨ts104,i2105,h2106⟩,hq107⟩
        try dsimp only at hq107
        try dsimp only
        obtain⟨q108,q109,q110⟩:=hq107
        have hy9:∀x∈ts104, -3≤x∧x≤4:=(by assumption)
        refine dO 7 rfl (w8 16 (e:=103) (sz:=2) (zs:=[.int .i64 0,.slice none 0 0]) rfl rfl (by kernel_rfl) rfl rfl rfl rfl rfl) ?_
        refine dO 8 rfl (W9 6 (e:=103) (sz:=2) (by':=32) (((IntKind.i64.wrap (2 + x78)),ts104)) rfl (by kernel_rfl) rfl rfl rfl rfl rfl rfl (.cons .sc (.take (.own rfl) rfl .nil)) rfl (by omega) (by omega)) ?_
        refine dT 9 rfl (pF 1) ?_
        refine dO 10 rfl (oS 1) ?_
        refine dE ?_
        refine i9<|l9<|rM ?_
        refine rB ?_
        refine rA<|c9 ?_
        refine Z9 ?_ (ih1 (IntKind.i64.wrap (kk - 1),gs++[((IntKind.i64.wrap (2 + x78)),ts104)],i2105,h2106) (by(try dsimp only);((try simp only [IntKind.wrap_i64] at *);omega)) (by(try dsimp only);exact⟨(by((try simp only [IntKind.wrap_i64] at *);omega)),g2,(by(simp only [List.length_append,List.length_singleton]);((try simp only [IntKind.wrap_i64] at *);omega)),d7 g4 ⟨(by((try simp only [IntKind.wrap_i64] at *);omega)),(by(try dsimp only);omega),(fun x hx=>by have e9:=hy9 x hx;omega)⟩,by omega⟩))
        exact⟨⟨rfl,⟨rfl,⟨rfl,⟨rfl,trivial⟩⟩⟩⟩,⟨rfl,⟨rfl,⟨rfl,⟨rfl,⟨rfl,⟨rfl,trivial⟩⟩⟩⟩⟩⟩,rfl⟩
       ·
        rintro⟨⟨ts97,i298,h299⟩,hq100⟩
        try dsimp only at hq100
        try dsimp only
        obtain⟨q101,q102,q103⟩:=hq100
        have hy9:∀x∈ts97, -3≤x∧x≤4:=(by assumption)
        refine dT 1 rfl pL ?_
        refine dO 7 rfl (w8 16 (e:=103) (sz:=2) (zs:=[.int .i64 0,.slice none 0 0]) rfl rfl (by kernel_rfl) rfl rfl rfl rfl rfl) ?_
        refine dO 8 rfl (W9 6 (e:=103) (sz:=2) (by':=32) (((IntKind.i64.wrap (2 + x78)),ts97)) rfl (by kernel_rfl) rfl rfl rfl rfl rfl rfl (.cons .sc (.take (.own rfl) rfl .nil)) rfl (by omega) (by omega)) ?_
        refine dT 9 rfl (pF 1) ?_
        refine dO 10 rfl (oS 1) ?_
        refine dE ?_
        refine i9<|l9<|rM ?_
        refine rB ?_
        refine rA<|c9 ?_
        refine Z9 ?_ (ih1 (IntKind.i64.wrap (kk - 1),gs++[((IntKind.i64.wrap (2 + x78)),ts97)],i298,h299) (by(try dsimp only);((try simp only [IntKind.wrap_i64] at *);omega)) (by(try dsimp only);exact⟨(by((try simp only [IntKind.wrap_i64] at *);omega)),g2,(by(simp only [List.length_append,List.length_singleton]);((try simp only [IntKind.wrap_i64] at *);omega)),d7 g4 ⟨(by((try simp only [IntKind.wrap_i64] at *);omega)),(by(try dsimp only);omega),(fun x hx=>by have e9:=hy9 x hx;omega)⟩,by omega⟩))
        exact⟨⟨rfl,⟨rfl,⟨rfl,⟨rfl,trivial⟩⟩⟩⟩,⟨rfl,⟨rfl,⟨rfl,⟨rfl,⟨rfl,⟨rfl,trivial⟩⟩⟩⟩⟩⟩,rfl⟩
     ·
      have h77':=d8 h77
      refine N9 rfl<|t9<|rC 5 ?_
      refine rS 5<|c9 ?_
      refine S8 Tryz.func154 (X9 5 .nil) (⟨bs,gs,false,0,0,i3,h3⟩) ?_ ?_ (hL:=⟨rfl,⟨rfl,⟨rfl,trivial⟩⟩⟩) <;>(try clear ih0) <;>(try clear ih1)
      ·(try dsimp only) <;>((refine⟨⟨by(try dsimp only);omega,by(try dsimp only);omega,b4,(by exact g4),?_,?_⟩,by omega,by omega⟩ <;>(try dsimp only) <;> omega))
      ·rfl
   ·
    have g58':=d8 g58
    refine A9 (C9 g58) (fun _=>?_)
    refine d9 (G9 rfl rfl g58 rfl) ?_
    refine c9 ?_
    refine j9 rfl (C9 rfl) (fun _=>?_)
    refine m9<|k9<|t9<|rM ?_
    refine K8 (o9 0 8 9 (pv:=some v0) (H9 Tryz.func41) (r9 code i3 h3 2 (by omega) (by omega) (by omega) (by omega) (by omega)) rfl rfl (.cur rfl (.cons rfl .nil)) rfl (fun⟨_,_,_⟩=>rfl) (fun _=>rfl) (fun⟨_,_,_⟩=>rfl) rfl rfl) ?_
    rintro⟨⟨x111,i2112,h2113⟩,hq114⟩
    try dsimp only at hq114
    try dsimp only
    obtain⟨q115,q116⟩:=hq114
    refine rB ?_
    refine rA<|c9<|p9 ?_
    refine J9 (fun(kk,gs,i3,h3)=>⟨[(0,some (.c (.ptr 0 0))),(2,some (.c (.ptr 1 0))),(3,some (.c (.ptr 3 0))),(6,some (.c (.t none (.v (.int .i64 kk)))))],[(0,some (.pbox v0 [.t none (.sl 1 u7 code),.t none (.v (.int .i64 i3)),.t none (.v (.int .i64 h3))])),(1,some (.box [.t none (.v (.slice none 0 0)),.t none (.v (.slice none 0 0)),.t none (.v (.bool false)),.t none (.v (.int .i64 0)),.t none (.v (.int .i64 0))])),(3,some (.box [.own 5,.own 6,.t none (.v (.bool false)),.t none (.v (.int .i64 0)),.t none (.v (.int .i64 0))])),(5,some (.row none 103 true 2 (y9 f9 (x9 1 f9)) bs)),(6,some (.row none 103 true 2 (y9 f9 (x9 1 f9)) gs)),(7,some (.row none 3 true 1 f9 (O9 (I9 bs))))],9⟩:Int × w9 × Int × Int→St) (fun(kk,gs,i3,h3)=>(0≤kk∧kk≤2)∧(1≤IntKind.i64.wrap (1 + x111)∧IntKind.i64.wrap (1 + x111)≤2)∧((gs.length:Int) + kk=IntKind.i64.wrap (1 + x111))∧(∀a∈gs,H2 a)∧(0≤i3∧i3≤code.length)) (fun(kk,gs,i3,h3)=>kk.toNat) (IntKind.i64.wrap (1 + x111),[],i2112,h2113) ⟨⟨rfl,⟨rfl,⟨rfl,⟨rfl,trivial⟩⟩⟩⟩,⟨rfl,⟨rfl,⟨rfl,⟨rfl,⟨rfl,⟨rfl,trivial⟩⟩⟩⟩⟩⟩,rfl⟩ (by exact⟨(by(try dsimp only);((try simp only [IntKind.wrap_i64] at *);omega)),(by(try dsimp only);((try simp only [IntKind.wrap_i64] at *);omega)),(by(try dsimp only);simp),(fun a ha=>by simp at ha),(by(try dsimp only);omega)⟩) ?_
    rintro⟨kk,gs,i3,h3⟩ hI ih1
    try dsimp only at hI ih1
    obtain⟨g1,g2,g3,g4,g5⟩:=hI
    refine k9<|t9<|rM ?_
    refine rB<|c9 ?_
    refine j9 rfl (fun h117=>?_) (fun h117=>?_)
    ·
     have h117':=a8 h117
     refine m9<|k9<|p9 ?_
     refine tD (fun i=>!(Nat.beq i 4||Nat.beq i 6||Nat.beq i 8||Nat.beq i 10)) ?_
     refine V8 0 rfl rfl (by kernel_rfl) (by kernel_rfl) (by kernel_rfl) (I7 (off:=1) (by kernel_rfl) rfl) ?_
     refine V8 2 rfl rfl (by kernel_rfl) (by kernel_rfl) (by kernel_rfl) (G5 rfl) ?_
     refine dT 3 rfl pM ?_
     refine G8 1 4 rfl rfl (by kernel_rfl) rfl rfl (N4 oL) (o9 0 9 10 (pv:=some v0) (H9 Tryz.func41) (r9 code i3 h3 3 (by omega) (by omega) (by omega) (by omega) (by omega)) rfl rfl (.cur rfl (.cons rfl .nil)) rfl (fun⟨_,_,_⟩=>rfl) (fun _=>rfl) (fun⟨_,_,_⟩=>rfl) rfl rfl) ?_ ?_
     ·
      rintro⟨⟩
      refine J0 4 rfl (o9 0 9 10 (pv:=some v0) (H9 Tryz.func41) (r9 code i3 h3 3 (by omega) (by omega) (by omega) (by omega) (by omega)) rfl rfl (.cur rfl (.cons rfl .nil)) rfl (fun⟨_,_,_⟩=>rfl) (fun _=>rfl) (fun⟨_,_,_⟩=>rfl) rfl rfl) ?_
      rintro⟨⟨x124,i2125,h2126⟩,hq127⟩
      try dsimp only at hq127
      try dsimp only
      obtain⟨q128,q129⟩:=hq127
      refine dT 5 rfl pB ?_
      refine J0 6 rfl (o9 0 10 15 (pv:=some v0) (H9 Tryz.func163) (y7 code i2125 h2126 (IntKind.i64.wrap (2 + x124)) 4 (by omega) (by omega) (by omega) (by(simp only [IntKind.wrap_i64] at *;omega)) (by omega)) rfl rfl (.cur rfl (.cons rfl (.cons rfl .nil))) rfl (fun⟨_,_,_⟩=>rfl) (fun _=>rfl) (fun⟨_,_,_⟩=>rfl) rfl rfl) ?_
      rintro⟨⟨ts130,i2131,h2132⟩,hq133⟩
      try dsimp only at hq133
      try dsimp only
      obtain⟨q134,q135,q136⟩:=hq133
      have hy9:∀x∈ts130, -3≤x∧x≤4:=(by assumption)
      refine dO 7 rfl (w8 15 (e:=103) (sz:=2) (zs:=[.int .i64 0,.slice none 0 0]) rfl rfl (by kernel_rfl) rfl rfl rfl rfl rfl) ?_
      refine dO 8 rfl (W9 6 (e:=103) (sz:=2) (by':=32) (((IntKind.i64.wrap (2 + x124)),ts130)) rfl (by kernel_rfl) rfl rfl rfl rfl rfl rfl (.cons .sc (.take (.own rfl) rfl .nil)) rfl (by omega) (by omega)) ?_
      refine dT 9 rfl (pF 1) ?_
      refine dO 10 rfl (oS 1) ?_
      refine dE ?_
      refine i9<|l9<|rM ?_
      refine rB ?_
      refine rA<|c9 ?_
      refine Z9 ?_ (ih1 (IntKind.i64.wrap (kk - 1),gs++[((IntKind.i64.wrap (2 + x124)),ts130)],i2131,h2132) (by(try dsimp only);((try simp only [IntKind.wrap_i64] at *);omega)) (by(try dsimp only);exact⟨(by((try simp only [IntKind.wrap_i64] at *);omega)),g2,(by(simp only [List.length_append,List.length_singleton]);((try simp only [IntKind.wrap_i64] at *);omega)),d7 g4 ⟨(by((try simp only [IntKind.wrap_i64] at *);omega)),(by(try dsimp only);omega),(fun x hx=>by have e9:=hy9 x hx;omega)⟩,by omega⟩))
      exact⟨⟨rfl,⟨rfl,⟨rfl,⟨rfl,trivial⟩⟩⟩⟩,⟨rfl,⟨rfl,⟨rfl,⟨rfl,⟨rfl,⟨rfl,trivial⟩⟩⟩⟩⟩⟩,rfl⟩
     ·
      rintro⟨⟨x118,i2119,h2120⟩,hq121⟩
      try dsimp only at hq121
      try dsimp only
      obtain⟨q122,q123⟩:=hq121
      refine dT 5 rfl pB ?_
      refine G8 1 6 rfl rfl (by kernel_rfl) rfl rfl (N4 oL) (o9 0 10 15 (pv:=some v0) (H9 Tryz.func163) (y7 code i2119 h2120 (IntKind.i64.wrap (2 + x118)) 4 (by omega) (by omega) (by omega) (by(simp only [IntKind.wrap_i64] at *;omega)) (by omega)) rfl rfl (.cur rfl (.cons rfl (.cons rfl .nil))) rfl (fun⟨_,_,_⟩=>rfl) (fun _=>rfl) (fun⟨_,_,_⟩=>rfl) rfl rfl) ?_ ?_
      ·
       rintro⟨⟩
       refine J0 6 rfl (o9 0 10 15 (pv:=some v0) (H9 Tryz.func163) (y7 code i2119 h2120 (IntKind.i64.wrap (2 + x118)) 4 (by omega) (by omega) (by omega) (by(simp only [IntKind.wrap_i64] at *;omega)) (by omega)) rfl rfl (.cur rfl (.cons rfl (.cons rfl .nil))) rfl (fun⟨_,_,_⟩=>rfl) (fun _=>rfl) (fun⟨_,_,_⟩=>rfl) rfl rfl) ?_
       rintro⟨⟨ts144,i2145,h2146⟩,hq147⟩
       try dsimp only at hq147
       try dsimp only
       obtain⟨q148,q149,q150⟩:=hq147
       have hy9:∀x∈ts144, -3≤x∧x≤4:=(by assumption)
       refine dO 7 rfl (w8 15 (e:=103) (sz:=2) (zs:=[.int .i64 0,.slice none 0 0]) rfl rfl (by kernel_rfl) rfl rfl rfl rfl rfl) ?_
       refine dO 8 rfl (W9 6 (e:=103) (sz:=2) (by':=32) (((IntKind.i64.wrap (2 + x118)),ts144)) rfl (by kernel_rfl) rfl rfl rfl rfl rfl rfl (.cons .sc (.take (.own rfl) rfl .nil)) rfl (by omega) (by omega)) ?_
       refine dT 9 rfl (pF 1) ?_
       refine dO 10 rfl (oS 1) ?_
       refine dE ?_
       refine i9<|l9<|rM ?_
       refine rB ?_
       refine rA<|c9 ?_
       refine Z9 ?_ (ih1 (IntKind.i64.wrap (kk - 1),gs++[((IntKind.i64.wrap (2 + x118)),ts144)],i2145,h2146) (by(try dsimp only);((try simp only [IntKind.wrap_i64] at *);omega)) (by(try dsimp only);exact⟨(by((try simp only [IntKind.wrap_i64] at *);omega)),g2,(by(simp only [List.length_append,List.length_singleton]);((try simp only [IntKind.wrap_i64] at *);omega)),d7 g4 ⟨(by((try simp only [IntKind.wrap_i64] at *);omega)),(by(try dsimp only);omega),(fun x hx=>by have e9:=hy9 x hx;omega)⟩,by omega⟩))
       exact⟨⟨rfl,⟨rfl,⟨rfl,⟨rfl,trivial⟩⟩⟩⟩,⟨rfl,⟨rfl,⟨rfl,⟨rfl,⟨rfl,⟨rfl,trivial⟩⟩⟩⟩⟩⟩,rfl⟩
      ·
       rintro⟨⟨ts137,i2138,h2139⟩,hq140⟩
       try dsimp only at hq140
       try dsimp only
       obtain⟨q141,q142,q143⟩:=hq140
       have hy9:∀x∈ts137, -3≤x∧x≤4:=(by assumption)
       refine dT 1 rfl pL ?_
       refine dO 7 rfl (w8 15 (e:=103) (sz:=2) (zs:=[.int .i64 0,.slice none 0 0]) rfl rfl (by kernel_rfl) rfl rfl rfl rfl rfl) ?_
       refine dO 8 rfl (W9 6 (e:=103) (sz:=2) (by':=32) (((IntKind.i64.wrap (2 + x118)),ts137)) rfl (by kernel_rfl) rfl rfl rfl rfl rfl rfl (.cons .sc (.take (.own rfl) rfl .nil)) rfl (by omega) (by omega)) ?_
       refine dT 9 rfl (pF 1) ?_
       refine dO 10 rfl (oS 1) ?_
       refine dE ?_
       refine i9<|l9<|rM ?_
       refine rB ?_
       refine rA<|c9 ?_
       refine Z9 ?_ (ih1 (IntKind.i64.wrap (kk - 1),gs++[((IntKind.i64.wrap (2 + x118)),ts137)],i2138,h2139) (by(try dsimp only);((try simp only [IntKind.wrap_i64] at *);omega)) (by(try dsimp only);exact⟨(by((try simp only [IntKind.wrap_i64] at *);omega)),g2,(by(simp only [List.length_append,List.length_singleton]);((try simp only [IntKind.wrap_i64] at *);omega)),d7 g4 ⟨(by((try simp only [IntKind.wrap_i64] at *);omega)),(by(try dsimp only);omega),(fun x hx=>by have e9:=hy9 x hx;omega)⟩,by omega⟩))
       exact⟨⟨rfl,⟨rfl,⟨rfl,⟨rfl,trivial⟩⟩⟩⟩,⟨rfl,⟨rfl,⟨rfl,⟨rfl,⟨rfl,⟨rfl,trivial⟩⟩⟩⟩⟩⟩,rfl⟩
    ·
     have h117':=d8 h117
     refine N9 rfl<|t9<|rC 5 ?_
     refine rS 5<|c9 ?_
     refine S8 Tryz.func154 (X9 5 .nil) (⟨bs,gs,false,0,0,i3,h3⟩) ?_ ?_ (hL:=⟨rfl,⟨rfl,⟨rfl,trivial⟩⟩⟩) <;>(try clear ih0) <;>(try clear ih1)
     ·(try dsimp only) <;>((refine⟨⟨by(try dsimp only);omega,by(try dsimp only);omega,b4,(by exact g4),?_,?_⟩,by omega,by omega⟩ <;>(try dsimp only) <;> omega))
     ·rfl
theorem xT (code:List Int)(i h:Int)(hc:code.length≤1048576)(hi0:0≤i)(hi1:i≤code.length):vS Tryz.prog 107 [.c (.ptr 0 0)] [.t none (.sl 1 u7 code),.t none (.v (.int .i64 i)),.t none (.v (.int .i64 h))] (fun(⟨ds,i2,h2⟩:(List Y1) × Int × Int)=>(1≤ds.length∧ds.length≤4)∧(∀d∈ds,R1 d)∧0≤i2∧i2≤code.length) (fun(⟨ds,i2,h2⟩:(List Y1) × Int × Int)=>[.t none (.sl 1 u7 code),.t none (.v (.int .i64 i2)),.t none (.v (.int .i64 h2))]) (fun(⟨ds,i2,h2⟩:(List Y1) × Int × Int)=>[(1,some (.row none 57 true 5 (TY (x9 2 (y9 f9 (x9 1 f9))) (x9 2 (y9 f9 (x9 1 f9))) U9 f9 f9) ds))]) 2 (fun(⟨ds,i2,h2⟩:(List Y1) × Int × Int)=> .c (.own 1)):=by
 refine D7 Tryz.func107 rfl (Nat.le_of_ble_eq_true rfl) fun v0 w S M hM=>?_
 refine t9<|rA<|P8 ?_
 refine d9 (c7 1 (e:=57) (sz:=5) (zs:=[.slice none 0 0,.slice none 0 0,.bool false,.int .i64 0,.int .i64 0]) (TY (x9 2 (y9 f9 (x9 1 f9))) (x9 2 (y9 f9 (x9 1 f9))) U9 f9 f9) rfl rfl (by kernel_rfl) rfl) ?_
 refine rA<|c9<|k9<|t9 ?_
 refine rM ?_
 refine K8 (o9 0 2 3 (pv:=some v0) (H9 Tryz.func41) (r9 code i h 4 (by omega) (by omega) (by omega) (by omega) (by omega)) rfl rfl (.cur rfl (.cons rfl .nil)) rfl (fun⟨_,_,_⟩=>rfl) (fun _=>rfl) (fun⟨_,_,_⟩=>rfl) rfl rfl) ?_
 rintro⟨⟨x1,i22,h23⟩,hq4⟩
 try dsimp only at hq4
 try dsimp only
 obtain⟨q5,q6⟩:=hq4
 refine rB ?_
 refine rA<|c9<|p9 ?_
 refine J9 (fun(kk,ds,i3,h3)=>⟨[(0,some (.c (.ptr 0 0))),(2,some (.c (.t none (.v (.slice none 0 0))))),(3,some (.c (.own 1))),(4,some (.c (.t none (.v (.int .i64 kk)))))],[(0,some (.pbox v0 [.t none (.sl 1 u7 code),.t none (.v (.int .i64 i3)),.t none (.v (.int .i64 h3))])),(1,some (.row none 57 true 5 (TY (x9 2 (y9 f9 (x9 1 f9))) (x9 2 (y9 f9 (x9 1 f9))) U9 f9 f9) ds))],3⟩:Int × List Y1 × Int × Int→St) (fun(kk,ds,i3,h3)=>(0≤kk∧kk≤4)∧(1≤IntKind.i64.wrap (1 + x1)∧IntKind.i64.wrap (1 + x1)≤4)∧((ds.length:Int) + kk=IntKind.i64.wrap (1 + x1))∧(∀d∈ds,R1 d)∧(0≤i3∧i3≤code.length)) (fun(kk,ds,i3,h3)=>kk.toNat) (IntKind.i64.wrap (1 + x1),[],i22,h23) ⟨⟨rfl,⟨rfl,⟨rfl,⟨rfl,trivial⟩⟩⟩⟩,⟨rfl,⟨rfl,trivial⟩⟩,rfl⟩ (by exact⟨(by(try dsimp only);((try simp only [IntKind.wrap_i64] at *);omega)),(by(try dsimp only);((try simp only [IntKind.wrap_i64] at *);omega)),(by(try dsimp only);simp),(fun a ha=>by simp at ha),(by(try dsimp only);omega)⟩) ?_
 rintro⟨kk,ds,i3,h3⟩ hI ih0
 try dsimp only at hI ih0
 obtain⟨b1,b2,b3,b4,b5⟩:=hI
 refine k9<|t9<|rM ?_
 refine rB<|c9 ?_
 refine j9 rfl (fun h7=>?_) (fun h7=>?_)
 ·
  have h7':=a8 h7
  refine m9<|k9<|p9<|l9<|rM ?_
  refine rM ?_
  refine K8 (o9 0 3 10 (pv:=some v0) (H9 Tryz.func154) (PZ code i3 h3 (by omega) (by omega) (by omega)) rfl rfl (.cur rfl .nil) rfl (fun⟨_,_,_,_,_,_,_⟩=>rfl) (fun _=>rfl) (fun⟨_,_,_,_,_,_,_⟩=>rfl) rfl rfl) ?_
  rintro⟨⟨b8,hs9,e10,lv11,rv12,i213,h214⟩,hq15⟩
  try dsimp only at hq15
  try dsimp only
  obtain⟨q16,q17,q18⟩:=hq15
  refine d9 (w8 10 (e:=57) (sz:=5) (zs:=[.slice none 0 0,.slice none 0 0,.bool false,.int .i64 0,.int .i64 0]) rfl rfl (by kernel_rfl) rfl rfl rfl rfl rfl) ?_
  refine d9 (W9 1 (e:=57) (sz:=5) (by':=72) ((b8,hs9,e10,lv11,rv12)) rfl (by kernel_rfl) rfl rfl rfl rfl rfl rfl (.take (.own rfl) rfl (.take (.own rfl) rfl (.cons .sc (.cons .sc (.cons .sc .nil))))) rfl (by omega) (by omega)) ?_
  refine rA<|c9<|i9<|l9 ?_
  refine rM ?_
  refine rB ?_
  refine rA<|c9 ?_
  refine Z9 ?_ (ih0 (IntKind.i64.wrap (kk - 1),ds++[(b8,hs9,e10,lv11,rv12)],i213,h214) (by(try dsimp only);((try simp only [IntKind.wrap_i64] at *);omega)) (by(try dsimp only);exact⟨(by((try simp only [IntKind.wrap_i64] at *);omega)),b2,(by(simp only [List.length_append,List.length_singleton]);((try simp only [IntKind.wrap_i64] at *);omega)),d7 b4 (by assumption),by omega⟩))
  exact⟨⟨rfl,⟨rfl,⟨rfl,⟨rfl,trivial⟩⟩⟩⟩,⟨rfl,⟨rfl,trivial⟩⟩,rfl⟩
 ·
  have h7':=d8 h7
  refine N9 rfl<|t9<|rM ?_
  refine rA<|c9 ?_
  refine S8 Tryz.func107 (.tmp rfl .nil) (⟨ds,i3,h3⟩) ?_ ?_ (hL:=⟨rfl,⟨rfl,trivial⟩⟩) <;>(try clear ih0)
  ·(try dsimp only) <;>(exact⟨by omega,b4,by omega⟩)
  ·rfl
theorem l8 (code:List Int)(i h:Int)(l:List Int)(hc:code.length≤1048576)(hi0:0≤i)(hi1:i≤code.length)(hl:1≤l.length)(hl2:l.length≤256):vS Tryz.prog 155 [.c (.ptr 0 0),.c (.t none (.sl 1 f9 l))] [.t none (.sl 1 u7 code),.t none (.v (.int .i64 i)),.t none (.v (.int .i64 h))] (fun(⟨x,i2,h2⟩:Int × Int × Int)=>x∈l∧0≤i2∧i2≤code.length) (fun(⟨x,i2,h2⟩:Int × Int × Int)=>[.t none (.sl 1 u7 code),.t none (.v (.int .i64 i2)),.t none (.v (.int .i64 h2))]) (fun(⟨x,i2,h2⟩:Int × Int × Int)=>[]) 1 (fun(⟨x,i2,h2⟩:Int × Int × Int)=> .c (.t none (.v (.int .i64 x)))):=by
 refine D7 Tryz.func155 rfl (Nat.le_of_ble_eq_true rfl) fun v0 w S M hM=>?_
 refine t9<|rA<|P8 ?_
 refine rM ?_
 refine rM ?_
 refine rM ?_
 refine d9 (P9 rfl rfl rfl) ?_
 refine K8 (o9 0 1 2 (pv:=some v0) (H9 Tryz.func41) (r9 code i h ((l.length:Int)) (by omega) (by omega) (by omega) (by omega) (by omega)) rfl rfl (.cur rfl (.cons rfl .nil)) rfl (fun⟨_,_,_⟩=>rfl) (fun _=>rfl) (fun⟨_,_,_⟩=>rfl) rfl rfl) ?_
 rintro⟨⟨x1,i22,h23⟩,hq4⟩
 try dsimp only at hq4
 try dsimp only
 obtain⟨q5,q6⟩:=hq4
 obtain⟨z7,hz8,b9⟩:=v9 (xs:=l) (n:=x1) (by omega) (by omega)
 refine d9 (Q9 rfl (by kernel_rfl) rfl rfl b9 hz8) ?_
 refine d9 (i8 rfl (by kernel_rfl) rfl rfl) ?_
 refine rA<|c9 ?_
 refine S8 Tryz.func155 (.tmp rfl .nil) (⟨z7,i22,h23⟩) ?_ ?_ (hL:=⟨rfl,trivial⟩)
 ·(try dsimp only) <;>(exact⟨D8 (by assumption),by omega⟩)
 ·rfl
theorem M0 (code:List Int)(i h:Int)(hc:code.length≤1048576)(hi0:0≤i)(hi1:i≤code.length):vS Tryz.prog 97 [.c (.ptr 0 0)] [.t none (.sl 1 u7 code),.t none (.v (.int .i64 i)),.t none (.v (.int .i64 h))] (fun(⟨r,ts,i2,h2⟩:Int ×(List Int) × Int × Int)=>PY (r,ts)∧0≤i2∧i2≤code.length) (fun(⟨r,ts,i2,h2⟩:Int ×(List Int) × Int × Int)=>[.t none (.sl 1 u7 code),.t none (.v (.int .i64 i2)),.t none (.v (.int .i64 h2))]) (fun(⟨r,ts,i2,h2⟩:Int ×(List Int) × Int × Int)=>[(7,some (.row none 3 true 1 f9 ts))]) 8 (fun(⟨r,ts,i2,h2⟩:Int ×(List Int) × Int × Int)=> .agg [.t none (.v (.int .i64 r)),.own 7]):=by
 refine D7 Tryz.func97 rfl (Nat.le_of_ble_eq_true rfl) fun v0 w S M hM=>?_
 refine t9 ?_
 refine d9 (F9 1 (zs:=[.int .i64 0,.slice none 0 0]) rfl rfl (by kernel_rfl) rfl) ?_
 refine P8<|rM ?_
 refine rM ?_
 refine K8 (o9 0 2 3 (pv:=some v0) (H9 Tryz.func41) (r9 code i h 5 (by omega) (by omega) (by omega) (by omega) (by omega)) rfl rfl (.cur rfl (.cons rfl .nil)) rfl (fun⟨_,_,_⟩=>rfl) (fun _=>rfl) (fun⟨_,_,_⟩=>rfl) rfl rfl) ?_
 rintro⟨⟨x1,i22,h23⟩,hq4⟩
 try dsimp only at hq4
 try dsimp only
 obtain⟨q5,q6⟩:=hq4
 refine K8 (o9 0 3 8 (pv:=some v0) (H9 Tryz.func156) (w5 code i22 h23 x1 4 (by omega) (by omega) (by omega) (by omega) (by omega)) rfl rfl (.cur rfl (.cons rfl (.cons rfl .nil))) rfl (fun⟨_,_,_⟩=>rfl) (fun _=>rfl) (fun⟨_,_,_⟩=>rfl) rfl rfl) ?_
 rintro⟨⟨ts7,i28,h29⟩,hq10⟩
 try dsimp only at hq10
 try dsimp only
 obtain⟨q11,q12,q13⟩:=hq10
 have t1:1≤ts7.length∧ts7.length≤2:=(by assumption);have t2:∀x∈ts7, -256≤x∧x≤2:=(by assumption);have t3:∀x∈ts7, -256≤x∧x≤256:=fun x hx=>by have:=t2 x hx;omega
 refine d9 (F9 8 (zs:=[.int .i64 0,.slice none 0 0]) rfl rfl (by kernel_rfl) rfl) ?_
 refine rS 2<|c9<|k9<|t9 ?_
 refine rM ?_
 refine K8 (o9 0 9 10 (pv:=some v0) (H9 Tryz.func41) (r9 code i28 h29 10 (by omega) (by omega) (by omega) (by omega) (by omega)) rfl rfl (.cur rfl (.cons rfl .nil)) rfl (fun⟨_,_,_⟩=>rfl) (fun _=>rfl) (fun⟨_,_,_⟩=>rfl) rfl rfl) ?_
 rintro⟨⟨x14,i215,h216⟩,hq17⟩
 try dsimp only at hq17
 try dsimp only
 obtain⟨q18,q19⟩:=hq17
 refine c9<|p9<|t9<|rB ?_
 refine rA<|c9 ?_
 refine j9 rfl (fun h20=>?_) (fun h20=>?_)
 ·
  have h20':=a8 h20
  refine l9<|rM ?_
  refine K8 (o9 0 10 11 (pv:=some v0) (H9 Tryz.func41) (r9 code i215 h216 7 (by omega) (by omega) (by omega) (by omega) (by omega)) rfl rfl (.cur rfl (.cons rfl .nil)) rfl (fun⟨_,_,_⟩=>rfl) (fun _=>rfl) (fun⟨_,_,_⟩=>rfl) rfl rfl) ?_
  rintro⟨⟨x21,i222,h223⟩,hq24⟩
  try dsimp only at hq24
  try dsimp only
  obtain⟨q25,q26⟩:=hq24
  refine rB ?_
  refine rF 0 ?_
  refine rS 1<|c9<|i9<|t9 ?_
  refine rC 2 ?_
  refine rS 2<|c9 ?_
  refine S8 Tryz.func97 (X9 2 .nil) (⟨IntKind.i64.wrap (x21 - 1),ts7,i222,h223⟩) ?_ ?_ (hL:=⟨rfl,⟨rfl,trivial⟩⟩)
  ·(try dsimp only) <;>((exact⟨⟨by(try dsimp only);(try simp only [IntKind.wrap_i64] at *);omega,by(try dsimp only);omega,t3⟩,by omega⟩))
  ·rfl
 ·
  have h20':=d8 h20
  refine t9<|rB ?_
  refine rA<|c9 ?_
  refine j9 rfl (fun h27=>?_) (fun h27=>?_)
  ·
   have h27':=a8 h27
   refine l9<|rF 1 ?_
   refine rL ?_
   refine d9 (w8 10 (e:=3) (sz:=1) (zs:=[.int .i64 0]) rfl rfl (by kernel_rfl) rfl rfl rfl rfl rfl) ?_
   refine d9 (W9 7 (e:=3) (sz:=1) (by':=8) 1 rfl (by kernel_rfl) rfl rfl rfl rfl rfl rfl (.cons .sc .nil) rfl (by omega) (by omega)) ?_
   refine rF 1 ?_
   refine rS 1<|c9<|i9<|t9 ?_
   refine rC 2 ?_
   refine rS 2<|c9 ?_
   refine S8 Tryz.func97 (X9 2 .nil) (⟨x1,ts7++[1],i215,h216⟩) ?_ ?_ (hL:=⟨rfl,⟨rfl,trivial⟩⟩)
   ·(try dsimp only) <;>((exact⟨⟨by(try dsimp only);omega,by(simp only [List.length_append,List.length_singleton];omega),d7 t3 (by omega)⟩,by omega⟩))
   ·rfl
  ·
   have h27':=d8 h27
   refine t9<|rB ?_
   refine rA<|c9 ?_
   refine j9 rfl (fun h28=>?_) (fun h28=>?_)
   ·
    have h28':=a8 h28
    refine tD (fun i=>!(Nat.beq i 4||Nat.beq i 6)) ?_
    refine V8 0 rfl rfl (by kernel_rfl) (by kernel_rfl) (by kernel_rfl) (I7 (off:=1) (by kernel_rfl) rfl) ?_
    refine dT 2 rfl pM ?_
    refine H8 1 3 rfl rfl (by kernel_rfl) rfl rfl oL (w8 10 (e:=3) (sz:=1) (zs:=[.int .i64 0]) rfl rfl (by kernel_rfl) rfl rfl rfl rfl rfl) ?_ ?_
    ·
     refine dO 3 rfl (w8 10 (e:=3) (sz:=1) (zs:=[.int .i64 0]) rfl rfl (by kernel_rfl) rfl rfl rfl rfl rfl) ?_
     refine MS 10 (enc:=f9) ([10, -41,9]) rfl (.cons (.cons (.cons .nil))) (c8 (i:=10) hM rfl rfl rfl) ?_
     refine J0 4 rfl (o9 0 11 12 (pv:=some v0) (H9 Tryz.func155) (l8 code i215 h216 ([10, -41,9]) (by omega) (by omega) (by omega) (by(simp only [List.length_cons,List.length_nil];omega)) (by(simp only [List.length_cons,List.length_nil];omega))) rfl rfl (.cur rfl (.cons rfl .nil)) rfl (fun⟨_,_,_⟩=>rfl) (fun _=>rfl) (fun⟨_,_,_⟩=>rfl) rfl rfl) ?_
     rintro⟨⟨x29,i230,h231⟩,hq32⟩
     try dsimp only at hq32
     try dsimp only
     obtain⟨q33,q34⟩:=hq32
     obtain⟨z35,hz36,b37⟩:=v9 (xs:=ts7) (n:=0) (by omega) (by omega)
     refine dT 5 rfl (V9 (by kernel_rfl) rfl rfl rfl b37 (f8 b37 hz36)) ?_
     refine dO 6 rfl (F8 x29 (n:=1) (by kernel_rfl) rfl rfl hz36 rfl rfl rfl rfl (.cons .sc .nil) rfl (fun j h1 h2=>by(simp at h1 h2;omega))) ?_
     refine dE ?_
     refine i9<|t9<|rC 2 ?_
     refine rS 2<|c9 ?_
     refine S8 Tryz.func97 (X9 2 .nil) (⟨x1,ts7.set ((0:Int)).toNat x29,i230,h231⟩) ?_ ?_ (hL:=⟨rfl,⟨rfl,trivial⟩⟩)
     ·(try dsimp only) <;>((exact⟨⟨by(try dsimp only);omega,by(simp only [List.length_set];omega),L8 t3 (by have e9:=ZP (by assumption);omega)⟩,by omega⟩))
     ·rfl
    ·
     refine MS 10 (enc:=f9) ([10, -41,9]) rfl (.cons (.cons (.cons .nil))) (c8 (i:=10) hM rfl rfl rfl) ?_
     refine G8 1 4 rfl rfl (by kernel_rfl) rfl rfl (N4 oL) (o9 0 11 12 (pv:=some v0) (H9 Tryz.func155) (l8 code i215 h216 ([10, -41,9]) (by omega) (by omega) (by omega) (by(simp only [List.length_cons,List.length_nil];omega)) (by(simp only [List.length_cons,List.length_nil];omega))) rfl rfl (.cur rfl (.cons rfl .nil)) rfl (fun⟨_,_,_⟩=>rfl) (fun _=>rfl) (fun⟨_,_,_⟩=>rfl) rfl rfl) ?_ ?_
     ·
      rintro⟨⟩
      refine J0 4 rfl (o9 0 11 12 (pv:=some v0) (H9 Tryz.func155) (l8 code i215 h216 ([10, -41,9]) (by omega) (by omega) (by omega) (by(simp only [List.length_cons,List.length_nil];omega)) (by(simp only [List.length_cons,List.length_nil];omega))) rfl rfl (.cur rfl (.cons rfl .nil)) rfl (fun⟨_,_,_⟩=>rfl) (fun _=>rfl) (fun⟨_,_,_⟩=>rfl) rfl rfl) ?_
      rintro⟨⟨x44,i245,h246⟩,hq47⟩
      try dsimp only at hq47
      try dsimp only
      obtain⟨q48,q49⟩:=hq47
      obtain⟨z50,hz51,b52⟩:=v9 (xs:=ts7) (n:=0) (by omega) (by omega)
      refine dT 5 rfl (V9 (by kernel_rfl) rfl rfl rfl b52 (f8 b52 hz51)) ?_
      refine dO 6 rfl (F8 x44 (n:=1) (by kernel_rfl) rfl rfl hz51 rfl rfl rfl rfl (.cons .sc .nil) rfl (fun j h1 h2=>by(simp at h1 h2;omega))) ?_
      refine dE ?_
      refine i9<|t9<|rC 2 ?_
      refine rS 2<|c9 ?_
      refine S8 Tryz.func97 (X9 2 .nil) (⟨x1,ts7.set ((0:Int)).toNat x44,i245,h246⟩) ?_ ?_ (hL:=⟨rfl,⟨rfl,trivial⟩⟩)
      ·(try dsimp only) <;>((exact⟨⟨by(try dsimp only);omega,by(simp only [List.length_set];omega),L8 t3 (by have e9:=ZP (by assumption);omega)⟩,by omega⟩))
      ·rfl
     ·
      rintro⟨⟨x38,i239,h240⟩,hq41⟩
      try dsimp only at hq41
      try dsimp only
      obtain⟨q42,q43⟩:=hq41
      refine dT 1 rfl pL ?_
      obtain⟨z53,hz54,b55⟩:=v9 (xs:=ts7) (n:=0) (by omega) (by omega)
      refine dT 5 rfl (V9 (by kernel_rfl) rfl rfl rfl b55 (f8 b55 hz54)) ?_
      refine dO 6 rfl (F8 x38 (n:=1) (by kernel_rfl) rfl rfl hz54 rfl rfl rfl rfl (.cons .sc .nil) rfl (fun j h1 h2=>by(simp at h1 h2;omega))) ?_
      refine dE ?_
      refine i9<|t9<|rC 2 ?_
      refine rS 2<|c9 ?_
      refine S8 Tryz.func97 (X9 2 .nil) (⟨x1,ts7.set ((0:Int)).toNat x38,i239,h240⟩) ?_ ?_ (hL:=⟨rfl,⟨rfl,trivial⟩⟩)
      ·(try dsimp only) <;>((exact⟨⟨by(try dsimp only);omega,by(simp only [List.length_set];omega),L8 t3 (by have e9:=ZP (by assumption);omega)⟩,by omega⟩))
      ·rfl
   ·
    have h28':=d8 h28
    refine m9<|i9<|t9<|rC 2 ?_
    refine rS 2<|c9 ?_
    refine S8 Tryz.func97 (X9 2 .nil) (⟨x1,ts7,i215,h216⟩) ?_ ?_ (hL:=⟨rfl,⟨rfl,trivial⟩⟩)
    ·(try dsimp only) <;>((exact⟨⟨by(try dsimp only);(try simp only [IntKind.wrap_i64] at *);omega,by(try dsimp only);omega,t3⟩,by omega⟩))
    ·rfl
theorem zS (code:List Int)(i h:Int)(l:List (List UInt8))(hc:code.length≤1048576)(hi0:0≤i)(hi1:i≤code.length)(hl:1≤l.length)(hl2:l.length≤256):vS Tryz.prog 58 [.c (.ptr 0 0),.c (.t none (.sl 1 Y9 l))] [.t none (.sl 1 u7 code),.t none (.v (.int .i64 i)),.t none (.v (.int .i64 h))] (fun(⟨x,i2,h2⟩:(List UInt8) × Int × Int)=>x∈l∧0≤i2∧i2≤code.length) (fun(⟨x,i2,h2⟩:(List UInt8) × Int × Int)=>[.t none (.sl 1 u7 code),.t none (.v (.int .i64 i2)),.t none (.v (.int .i64 h2))]) (fun(⟨x,i2,h2⟩:(List UInt8) × Int × Int)=>[]) 1 (fun(⟨x,i2,h2⟩:(List UInt8) × Int × Int)=> .c (.t none (.v (.string (U6 x))))):=by
 refine D7 Tryz.func58 rfl (Nat.le_of_ble_eq_true rfl) fun v0 w S M hM=>?_
 refine t9<|rA<|P8 ?_
 refine rM ?_
 refine rM ?_
 refine rM ?_
 refine d9 (P9 rfl rfl rfl) ?_
 refine K8 (o9 0 1 2 (pv:=some v0) (H9 Tryz.func41) (r9 code i h ((l.length:Int)) (by omega) (by omega) (by omega) (by omega) (by omega)) rfl rfl (.cur rfl (.cons rfl .nil)) rfl (fun⟨_,_,_⟩=>rfl) (fun _=>rfl) (fun⟨_,_,_⟩=>rfl) rfl rfl) ?_
 rintro⟨⟨x1,i22,h23⟩,hq4⟩
 try dsimp only at hq4
 try dsimp only
 obtain⟨q5,q6⟩:=hq4
 obtain⟨z7,hz8,b9⟩:=v9 (xs:=l) (n:=x1) (by omega) (by omega)
 refine d9 (Q9 rfl (by kernel_rfl) rfl rfl b9 hz8) ?_
 refine d9 (i8 rfl (by kernel_rfl) rfl rfl) ?_
 refine rA<|c9 ?_
 refine S8 Tryz.func58 (.tmp rfl .nil) (⟨z7,i22,h23⟩) ?_ ?_ (hL:=⟨rfl,trivial⟩)
 ·(try dsimp only) <;>(exact⟨D8 (by assumption),by omega⟩)
 ·rfl
theorem L4 (code:List Int)(i h:Int)(hc:code.length≤1048576)(hi0:0≤i)(hi1:i≤code.length):vS Tryz.prog 98 [.c (.ptr 0 0)] [.t none (.sl 1 u7 code),.t none (.v (.int .i64 i)),.t none (.v (.int .i64 h))] (fun(⟨n,ar,b,i2,h2⟩:(List UInt8) × Int × Bool × Int × Int)=>(n.length≤2∧ -1≤ar∧ar≤4)∧0≤i2∧i2≤code.length) (fun(⟨n,ar,b,i2,h2⟩:(List UInt8) × Int × Bool × Int × Int)=>[.t none (.sl 1 u7 code),.t none (.v (.int .i64 i2)),.t none (.v (.int .i64 h2))]) (fun(⟨n,ar,b,i2,h2⟩:(List UInt8) × Int × Bool × Int × Int)=>[]) 1 (fun(⟨n,ar,b,i2,h2⟩:(List UInt8) × Int × Bool × Int × Int)=> .agg [.t none (.v (.string (U6 n))),.t none (.v (.int .i64 ar)),.t none (.v (.bool b))]):=by
 refine D7 Tryz.func98 rfl (Nat.le_of_ble_eq_true rfl) fun v0 w S M hM=>?_
 refine t9 ?_
 refine d9 (F9 1 (zs:=[.string (U6 ([])),.int .i64 0,.bool false]) rfl rfl (by kernel_rfl) rfl) ?_
 refine P8<|rM ?_
 refine d9 (w8 2 (e:=9) (sz:=1) (zs:=[.string (U6 ([]))]) rfl rfl (by kernel_rfl) rfl rfl rfl rfl rfl) ?_
 refine QV 2 (enc:=Y9) ([([97]:List UInt8),([122]:List UInt8),([]:List UInt8),([65]:List UInt8),([97,98]:List UInt8),([112]:List UInt8)]) rfl (.cons (.cons (.cons (.cons (.cons (.cons .nil)))))) (c8 (i:=2) hM rfl rfl rfl) ?_
 refine K8 (o9 0 3 4 (pv:=some v0) (H9 Tryz.func58) (zS code i h ([([97]:List UInt8),([122]:List UInt8),([]:List UInt8),([65]:List UInt8),([97,98]:List UInt8),([112]:List UInt8)]) (by omega) (by omega) (by omega) (by(simp only [List.length_cons,List.length_nil];omega)) (by(simp only [List.length_cons,List.length_nil];omega))) rfl rfl (.cur rfl (.cons rfl .nil)) rfl (fun⟨_,_,_⟩=>rfl) (fun _=>rfl) (fun⟨_,_,_⟩=>rfl) rfl rfl) ?_
 rintro⟨⟨x1,i22,h23⟩,hq4⟩
 try dsimp only at hq4
 try dsimp only
 obtain⟨q5,q6⟩:=hq4
 refine rM ?_
 refine K8 (o9 0 4 5 (pv:=some v0) (H9 Tryz.func41) (r9 code i22 h23 6 (by omega) (by omega) (by omega) (by omega) (by omega)) rfl rfl (.cur rfl (.cons rfl .nil)) rfl (fun⟨_,_,_⟩=>rfl) (fun _=>rfl) (fun⟨_,_,_⟩=>rfl) rfl rfl) ?_
 rintro⟨⟨x7,i28,h29⟩,hq10⟩
 try dsimp only at hq10
 try dsimp only
 obtain⟨q11,q12⟩:=hq10
 refine rB ?_
 refine rM ?_
 refine K8 (o9 0 5 6 (pv:=some v0) (H9 Tryz.func57) (K6 code i28 h29 2 (by omega) (by omega) (by omega) (by omega) (by omega)) rfl rfl (.cur rfl (.cons rfl .nil)) rfl (fun⟨_,_,_⟩=>rfl) (fun _=>rfl) (fun⟨_,_,_⟩=>rfl) rfl rfl) ?_
 rintro⟨⟨b13,i214,h215⟩,hq16⟩
 try dsimp only at hq16
 try dsimp only
 refine d9 (oD [(0,1),(1,1),(2,1)] [.string (U6 ([])),.int .i64 0,.bool false]) ?_
 refine rS 3<|c9 ?_
 refine S8 Tryz.func98 (X9 3 .nil) (⟨x1,IntKind.i64.wrap (x7 - 1),b13,i214,h215⟩) ?_ ?_ (hL:=⟨rfl,trivial⟩)
 ·(try dsimp only) <;>((have e8:=(by decide:∀x∈ [([97]:List UInt8),([122]:List UInt8),([]:List UInt8),([65]:List UInt8),([97,98]:List UInt8),([112]:List UInt8)],x.length≤2) _ (by assumption));(simp only [IntKind.wrap_i64] at *;omega))
 ·rfl
theorem xY (code:List Int)(i h:Int)(hc:code.length≤1048576)(hi0:0≤i)(hi1:i≤code.length):vS Tryz.prog 42 [.c (.ptr 0 0)] [.t none (.sl 1 u7 code),.t none (.v (.int .i64 i)),.t none (.v (.int .i64 h))] (fun(⟨rs,fs,i2,h2⟩:T9 × w9 × Int × Int)=>NY rs fs∧0≤i2∧i2≤code.length) (fun(⟨rs,fs,i2,h2⟩:T9 × w9 × Int × Int)=>[.t none (.sl 1 u7 code),.t none (.v (.int .i64 i2)),.t none (.v (.int .i64 h2))]) (fun(⟨rs,fs,i2,h2⟩:T9 × w9 × Int × Int)=>[]) 1 (fun(⟨rs,fs,i2,h2⟩:T9 × w9 × Int × Int)=> .agg [.t none (.sl 3 (j8 Y9 f9 U9) rs),.t none (.sl 2 (y9 f9 (x9 1 f9)) fs)]):=by
 refine D7 Tryz.func42 rfl (Nat.le_of_ble_eq_true rfl) fun v0 w S M hM=>?_
 refine t9 ?_
 refine d9 (F9 1 (zs:=[.slice none 0 0,.slice none 0 0]) rfl rfl (by kernel_rfl) rfl) ?_
 refine P8<|rM ?_
 refine K8 (o9 0 2 7 (pv:=some v0) (H9 Tryz.func95) (LY code i h 5 3 (by omega) (by omega) (by omega) (by omega) (by omega)) rfl rfl (.cur rfl (.cons rfl (.cons rfl .nil))) rfl (fun⟨_,_,_⟩=>rfl) (fun _=>rfl) (fun⟨_,_,_⟩=>rfl) rfl rfl) ?_
 rintro⟨⟨fs1,i22,h23⟩,hq4⟩
 try dsimp only at hq4
 try dsimp only
 obtain⟨q5,q6,q7⟩:=hq4
 refine d9 (F9 7 (zs:=[.slice none 0 0,.slice none 0 0]) rfl rfl (by kernel_rfl) rfl) ?_
 refine rS 2<|c9<|k9<|t9 ?_
 refine rM ?_
 refine K8 (o9 0 8 9 (pv:=some v0) (H9 Tryz.func57) (K6 code i22 h23 2 (by omega) (by omega) (by omega) (by omega) (by omega)) rfl rfl (.cur rfl (.cons rfl .nil)) rfl (fun⟨_,_,_⟩=>rfl) (fun _=>rfl) (fun⟨_,_,_⟩=>rfl) rfl rfl) ?_
 rintro⟨⟨b8,i29,h210⟩,hq11⟩
 try dsimp only at hq11
 try dsimp only
 refine c9 ?_
 refine j9 rfl (fun h13=>?_) (fun h13=>?_)
 ·
  have h13':=h13
  refine t9<|rM ?_
  refine K8 (o9 0 9 14 (pv:=some v0) (H9 Tryz.func96) (KY code i29 h210 3 (by omega) (by omega) (by omega) (by omega)) rfl rfl (.cur rfl (.cons rfl .nil)) rfl (fun⟨_,_,_⟩=>rfl) (fun _=>rfl) (fun⟨_,_,_⟩=>rfl) rfl rfl) ?_
  rintro⟨⟨fs14,i215,h216⟩,hq17⟩
  try dsimp only at hq17
  try dsimp only
  obtain⟨q18,q19,q20⟩:=hq17
  have b4f:∀a∈fs14,PY a:=(by assumption)
  refine d9 (F9 14 (zs:=[.slice none 0 0,.slice none 0 0]) rfl rfl (by kernel_rfl) rfl) ?_
  refine rS 2<|c9<|k9<|t9 ?_
  refine rA<|c9<|p9 ?_
  refine s9 5 rfl (c8 (i:=5) hM rfl rfl rfl) ?_
  refine s9 6 rfl (c8 (i:=6) hM rfl rfl rfl) ?_
  refine s9 12 rfl (c8 (i:=12) hM rfl rfl rfl) ?_
  refine s9 13 rfl (c8 (i:=13) hM rfl rfl rfl) ?_
  refine J9 (fun(m,xs)=>⟨[(0,some (.c (.ptr 0 0))),(2,some (.c (.ptr 1 0))),(3,some (.c (.ptr 7 0))),(4,some (.c (.ptr 14 0))),(5,some (.c (.t none (.v (.int .i64 ((m:Int)))))))],[(0,some (.pbox v0 [.t none (.sl 1 u7 code),.t none (.v (.int .i64 i215)),.t none (.v (.int .i64 h216))])),(1,some (.box [.t none (.v (.slice none 0 0)),.t none (.v (.slice none 0 0))])),(7,some (.box [.t none (.sl 3 (j8 Y9 f9 U9) X8),.t none (.sl 2 (y9 f9 (x9 1 f9)) xs)])),(14,some (.box [.t none (.sl 3 (j8 Y9 f9 U9) X8),.t none (.sl 2 (y9 f9 (x9 1 f9)) fs14)]))],15⟩:Nat × w9→St) (fun(m,xs)=>m≤fs14.length∧xs.length≤5 + m∧(∀a∈xs,PY a)) (fun(m,xs)=>fs14.length - m) (0,fs1) ⟨⟨rfl,⟨rfl,⟨rfl,⟨rfl,⟨rfl,trivial⟩⟩⟩⟩⟩,⟨rfl,⟨rfl,⟨rfl,⟨rfl,trivial⟩⟩⟩⟩,rfl⟩ (by exact⟨Nat.zero_le _,by(try dsimp only);omega,by assumption⟩) ?_
  rintro⟨m,xs⟩ hI ih0
  try dsimp only at hI ih0
  obtain⟨b1,b2,b4⟩:=hI
  refine k9<|t9<|rM ?_
  refine rF 1 ?_
  refine rL ?_
  refine d9 (P9 rfl rfl rfl) ?_
  refine rB<|c9 ?_
  refine j9 rfl (fun h21=>?_) (fun h21=>?_)
  ·
   have h21':=a8 h21
   refine m9<|k9<|p9 ?_
   refine tD (fun i=>!(Nat.beq i 7)) ?_
   refine dT 0 rfl (pC 2) ?_
   refine dT 1 rfl (pF 1) ?_
   refine dT 2 rfl pL ?_
   refine dT 3 rfl pM ?_
   obtain⟨z22,hz23,b24⟩:=v9 (xs:=fs14) (n:=(m:Int)) (by omega) (by omega)
   refine dT 4 rfl (p8 (by kernel_rfl) rfl rfl b24 hz23) ?_
   refine dT 5 rfl (p6 (n:=2) (by kernel_rfl) (by kernel_rfl) rfl rfl) ?_
   refine dO 6 rfl (n9 15 15 true (H9 Tryz.func87) (Y7 X8 xs z22.1 z22.2 (by(have e7:=s0 b4;omega)) (by(have e7:=(b4f _ (D8 (by assumption))).2.1;omega))) rfl (.cons rfl (.agg (.cons .t0 (.cons .t0 .nil))) (.cons rfl (.agg (.cons .t0 (.cons .t0 .nil))) .nil)) rfl rfl rfl) ?_
   refine dO 7 rfl (oS 2) ?_
   refine dE ?_
   refine i9<|l9<|rM ?_
   refine rB ?_
   refine rA<|c9 ?_
   refine Z9 ?_ (ih0 (m + 1,G4 xs (z22.1,z22.2)) (by(try dsimp only);omega) (by(try dsimp only);exact⟨by omega,Nat.le_trans (OW _ _) (by omega),y1 b4 (b4f _ (D8 hz23))⟩))
   exact⟨⟨rfl,⟨rfl,⟨rfl,⟨rfl,⟨(L7 (n8 (by omega) (by omega))),trivial⟩⟩⟩⟩⟩,⟨rfl,⟨rfl,⟨rfl,⟨rfl,trivial⟩⟩⟩⟩,rfl⟩
  ·
   have h21':=d8 h21
   refine N9 rfl<|l9<|rC 2 ?_
   refine d9 (n9 15 20 false (H9 Tryz.func33) (M6 X8 xs (by(rw [t7];omega)) (by(have e7:=s0 b4;omega))) rfl (.cons rfl (.agg (.cons .t0 (.cons .t0 .nil))) .nil) rfl rfl rfl) ?_
   refine rS 2<|c9<|k9<|t9 ?_
   refine rM ?_
   refine K8 (o9 0 20 21 (pv:=some v0) (H9 Tryz.func41) (r9 code i215 h216 14 (by omega) (by omega) (by omega) (by omega) (by omega)) rfl rfl (.cur rfl (.cons rfl .nil)) rfl (fun⟨_,_,_⟩=>rfl) (fun _=>rfl) (fun⟨_,_,_⟩=>rfl) rfl rfl) ?_
   rintro⟨⟨x25,i226,h227⟩,hq28⟩
   try dsimp only at hq28
   try dsimp only
   obtain⟨q29,q30⟩:=hq28
   refine c9<|p9<|t9<|rB ?_
   refine rA<|c9 ?_
   refine j9 rfl (fun h31=>?_) (fun h31=>?_)
   ·
    have h31':=a8 h31
    refine tD (fun i=>!(Nat.beq i 3||Nat.beq i 5||Nat.beq i 7)) ?_
    refine V8 0 rfl rfl (by kernel_rfl) (by kernel_rfl) (by kernel_rfl) (I7 (off:=1) (by kernel_rfl) rfl) ?_
    refine dT 2 rfl pM ?_
    refine G8 1 3 rfl rfl (by kernel_rfl) rfl rfl (N4 oL) (o9 0 21 29 (pv:=some v0) (H9 Tryz.func97) (M0 code i226 h227 (by omega) (by omega) (by omega)) rfl rfl (.cur rfl .nil) rfl (fun⟨_,_,_,_⟩=>rfl) (fun _=>rfl) (fun⟨_,_,_,_⟩=>rfl) rfl rfl) ?_ ?_
    ·
     rintro⟨⟩
     refine J0 3 rfl (o9 0 21 29 (pv:=some v0) (H9 Tryz.func97) (M0 code i226 h227 (by omega) (by omega) (by omega)) rfl rfl (.cur rfl .nil) rfl (fun⟨_,_,_,_⟩=>rfl) (fun _=>rfl) (fun⟨_,_,_,_⟩=>rfl) rfl rfl) ?_
     rintro⟨⟨r39,ts40,i241,h242⟩,hq43⟩
     try dsimp only at hq43
     try dsimp only
     obtain⟨q44,q45⟩:=hq43
     refine dO 4 rfl (w8 29 (e:=64) (sz:=2) (zs:=[.int .i64 0,.slice none 0 0]) rfl rfl (by kernel_rfl) rfl rfl rfl rfl rfl) ?_
     refine dO 5 rfl (W9 19 (e:=64) (sz:=2) (by':=32) ((r39,ts40)) rfl (by kernel_rfl) rfl rfl rfl rfl rfl rfl (.cons .sc (.take (.own rfl) rfl .nil)) rfl (by omega) (by omega)) ?_
     refine dT 6 rfl (pF 1) ?_
     refine dO 7 rfl (oS 1) ?_
     refine dE ?_
     refine i9<|t9<|rC 2 ?_
     refine rS 2<|c9 ?_
     refine s9 17 rfl (c8 (i:=17) hM rfl rfl rfl) ?_
     refine s9 19 rfl (c8 (i:=19) hM rfl rfl rfl) ?_
     refine S8 Tryz.func42 (X9 2 .nil) (⟨X8,xs++[(r39,ts40)],i241,h242⟩) ?_ ?_ (hL:=⟨rfl,trivial⟩) <;>(try clear ih0)
     ·(try dsimp only) <;>((refine⟨⟨?_,?_,?_,?_⟩,by omega⟩ <;>(try dsimp only)) <;> first | decide | exact KW | (simp only [List.length_append,List.length_singleton];omega) | exact d7 (by assumption) (by assumption))
     ·rfl
    ·
     rintro⟨⟨r32,ts33,i234,h235⟩,hq36⟩
     try dsimp only at hq36
     try dsimp only
     obtain⟨q37,q38⟩:=hq36
     refine dT 1 rfl pL ?_
     refine dO 4 rfl (w8 29 (e:=64) (sz:=2) (zs:=[.int .i64 0,.slice none 0 0]) rfl rfl (by kernel_rfl) rfl rfl rfl rfl rfl) ?_
     refine dO 5 rfl (W9 19 (e:=64) (sz:=2) (by':=32) ((r32,ts33)) rfl (by kernel_rfl) rfl rfl rfl rfl rfl rfl (.cons .sc (.take (.own rfl) rfl .nil)) rfl (by omega) (by omega)) ?_
     refine dT 6 rfl (pF 1) ?_
     refine dO 7 rfl (oS 1) ?_
     refine dE ?_
     refine i9<|t9<|rC 2 ?_
     refine rS 2<|c9 ?_
     refine s9 17 rfl (c8 (i:=17) hM rfl rfl rfl) ?_
     refine s9 19 rfl (c8 (i:=19) hM rfl rfl rfl) ?_
     refine S8 Tryz.func42 (X9 2 .nil) (⟨X8,xs++[(r32,ts33)],i234,h235⟩) ?_ ?_ (hL:=⟨rfl,trivial⟩) <;>(try clear ih0)
     ·(try dsimp only) <;>((refine⟨⟨?_,?_,?_,?_⟩,by omega⟩ <;>(try dsimp only)) <;> first | decide | exact KW | (simp only [List.length_append,List.length_singleton];omega) | exact d7 (by assumption) (by assumption))
     ·rfl
   ·
    have h31':=d8 h31
    refine t9<|rB ?_
    refine rA<|c9 ?_
    refine j9 rfl (fun h46=>?_) (fun h46=>?_)
    ·
     have h46':=a8 h46
     refine l9<|rF 0 ?_
     refine rL ?_
     refine d9 (QZ rfl (by kernel_rfl) rfl rfl (.l rfl (by omega) (by(rw [t7];omega)))) ?_
     refine rF 0 ?_
     refine rS 1<|c9<|i9<|t9 ?_
     refine rC 2 ?_
     refine rS 2<|c9 ?_
     refine s9 17 rfl (c8 (i:=17) hM rfl rfl rfl) ?_
     refine s9 19 rfl (c8 (i:=19) hM rfl rfl rfl) ?_
     refine S8 Tryz.func42 (X9 2 .nil) (⟨(X8.take X8.length).drop ((1:Int)).toNat,xs,i226,h227⟩) ?_ ?_ (hL:=⟨rfl,trivial⟩) <;>(try clear ih0)
     ·(try dsimp only) <;>((refine⟨⟨?_,?_,?_,?_⟩,by omega⟩ <;>(try dsimp only)) <;> first | decide | exact fun z hz=>KW z (List.mem_of_mem_take (List.mem_of_mem_drop hz)) | omega)
     ·rfl
    ·
     have h46':=d8 h46
     refine t9<|rB ?_
     refine rA<|c9 ?_
     refine j9 rfl (fun h47=>?_) (fun h47=>?_)
     ·
      have h47':=a8 h47
      refine tD (fun i=>!(Nat.beq i 3||Nat.beq i 5||Nat.beq i 7)) ?_
      refine V8 0 rfl rfl (by kernel_rfl) (by kernel_rfl) (by kernel_rfl) (I7 (off:=0) (by kernel_rfl) rfl) ?_
      refine dT 2 rfl pM ?_
      refine V8 4 rfl rfl (by kernel_rfl) (by kernel_rfl) (by kernel_rfl) (G5 rfl) ?_
      refine G8 1 3 rfl rfl (by kernel_rfl) rfl rfl (N4 oL) (o9 0 21 22 (pv:=some v0) (H9 Tryz.func41) (r9 code i226 h227 5 (by omega) (by omega) (by omega) (by omega) (by omega)) rfl rfl (.cur rfl (.cons rfl .nil)) rfl (fun⟨_,_,_⟩=>rfl) (fun _=>rfl) (fun⟨_,_,_⟩=>rfl) rfl rfl) ?_ ?_
      ·
       rintro⟨⟩
       refine J0 3 rfl (o9 0 21 22 (pv:=some v0) (H9 Tryz.func41) (r9 code i226 h227 5 (by omega) (by omega) (by omega) (by omega) (by omega)) rfl rfl (.cur rfl (.cons rfl .nil)) rfl (fun⟨_,_,_⟩=>rfl) (fun _=>rfl) (fun⟨_,_,_⟩=>rfl) rfl rfl) ?_
       rintro⟨⟨x54,i255,h256⟩,hq57⟩
       try dsimp only at hq57
       try dsimp only
       obtain⟨q58,q59⟩:=hq57
       refine J0 5 rfl (o9 0 22 23 (pv:=some v0) (H9 Tryz.func98) (L4 code i255 h256 (by omega) (by omega) (by omega)) rfl rfl (.cur rfl .nil) rfl (fun⟨_,_,_,_,_⟩=>rfl) (fun _=>rfl) (fun⟨_,_,_,_,_⟩=>rfl) rfl rfl) ?_
       rintro⟨⟨n60,ar61,b62,i263,h264⟩,hq65⟩
       try dsimp only at hq65
       try dsimp only
       obtain⟨q66,q67⟩:=hq65
       obtain⟨z68,hz69,b70⟩:=v9 (xs:=X8) (n:=x54) (by omega) (by(rw [t7];omega))
       refine dT 6 rfl (V9 (by kernel_rfl) rfl rfl rfl b70 (f8 b70 hz69)) ?_
       refine dO 7 rfl (F8 ((n60,ar61,b62)) (n:=3) (by kernel_rfl) rfl rfl hz69 rfl rfl rfl rfl (.cons .sc (.cons .sc (.cons .sc .nil))) rfl (fun j h1 h2=>by(simp at h1 h2;omega))) ?_
       refine dE ?_
       refine i9<|t9<|rC 2 ?_
       refine rS 2<|c9 ?_
       refine s9 17 rfl (c8 (i:=17) hM rfl rfl rfl) ?_
       refine s9 19 rfl (c8 (i:=19) hM rfl rfl rfl) ?_
       refine S8 Tryz.func42 (X9 2 .nil) (⟨X8.set x54.toNat ((n60,ar61,b62)),xs,i263,h264⟩) ?_ ?_ (hL:=⟨rfl,trivial⟩) <;>(try clear ih0)
       ·(try dsimp only) <;>((refine⟨⟨?_,?_,?_,?_⟩,by omega⟩ <;>(try dsimp only)) <;> first | (simp only [List.length_set,List.length_drop,List.length_take,t7];omega) | exact L8 KW (by unfold FR;(try dsimp only);omega) | omega)
       ·rfl
      ·
       rintro⟨⟨x48,i249,h250⟩,hq51⟩
       try dsimp only at hq51
       try dsimp only
       obtain⟨q52,q53⟩:=hq51
       refine G8 1 5 rfl rfl (by kernel_rfl) rfl rfl (N4 oL) (o9 0 22 23 (pv:=some v0) (H9 Tryz.func98) (L4 code i249 h250 (by omega) (by omega) (by omega)) rfl rfl (.cur rfl .nil) rfl (fun⟨_,_,_,_,_⟩=>rfl) (fun _=>rfl) (fun⟨_,_,_,_,_⟩=>rfl) rfl rfl) ?_ ?_
       ·
        rintro⟨⟩
        refine J0 5 rfl (o9 0 22 23 (pv:=some v0) (H9 Tryz.func98) (L4 code i249 h250 (by omega) (by omega) (by omega)) rfl rfl (.cur rfl .nil) rfl (fun⟨_,_,_,_,_⟩=>rfl) (fun _=>rfl) (fun⟨_,_,_,_,_⟩=>rfl) rfl rfl) ?_
        rintro⟨⟨n79,ar80,b81,i282,h283⟩,hq84⟩
        try dsimp only at hq84
        try dsimp only
        obtain⟨q85,q86⟩:=hq84
        obtain⟨z87,hz88,b89⟩:=v9 (xs:=X8) (n:=x48) (by omega) (by(rw [t7];omega))
        refine dT 6 rfl (V9 (by kernel_rfl) rfl rfl rfl b89 (f8 b89 hz88)) ?_
        refine dO 7 rfl (F8 ((n79,ar80,b81)) (n:=3) (by kernel_rfl) rfl rfl hz88 rfl rfl rfl rfl (.cons .sc (.cons .sc (.cons .sc .nil))) rfl (fun j h1 h2=>by(simp at h1 h2;omega))) ?_
        refine dE ?_
        refine i9<|t9<|rC 2 ?_
        refine rS 2<|c9 ?_
        refine s9 17 rfl (c8 (i:=17) hM rfl rfl rfl) ?_
        refine s9 19 rfl (c8 (i:=19) hM rfl rfl rfl) ?_
        refine S8 Tryz.func42 (X9 2 .nil) (⟨X8.set x48.toNat ((n79,ar80,b81)),xs,i282,h283⟩) ?_ ?_ (hL:=⟨rfl,trivial⟩) <;>(try clear ih0)
        ·(try dsimp only) <;>((refine⟨⟨?_,?_,?_,?_⟩,by omega⟩ <;>(try dsimp only)) <;> first | (simp only [List.length_set,List.length_drop,List.length_take,t7];omega) | exact L8 KW (by unfold FR;(try dsimp only);omega) | omega)
        ·rfl
       ·
        rintro⟨⟨n71,ar72,b73,i274,h275⟩,hq76⟩
        try dsimp only at hq76
        try dsimp only
        obtain⟨q77,q78⟩:=hq76
        refine dT 1 rfl pL ?_
        obtain⟨z90,hz91,b92⟩:=v9 (xs:=X8) (n:=x48) (by omega) (by(rw [t7];omega))
        refine dT 6 rfl (V9 (by kernel_rfl) rfl rfl rfl b92 (f8 b92 hz91)) ?_
        refine dO 7 rfl (F8 ((n71,ar72,b73)) (n:=3) (by kernel_rfl) rfl rfl hz91 rfl rfl rfl rfl (.cons .sc (.cons .sc (.cons .sc .nil))) rfl (fun j h1 h2=>by(simp at h1 h2;omega))) ?_
        refine dE ?_
        refine i9<|t9<|rC 2 ?_
        refine rS 2<|c9 ?_
        refine s9 17 rfl (c8 (i:=17) hM rfl rfl rfl) ?_
        refine s9 19 rfl (c8 (i:=19) hM rfl rfl rfl) ?_
        refine S8 Tryz.func42 (X9 2 .nil) (⟨X8.set x48.toNat ((n71,ar72,b73)),xs,i274,h275⟩) ?_ ?_ (hL:=⟨rfl,trivial⟩) <;>(try clear ih0)
        ·(try dsimp only) <;>((refine⟨⟨?_,?_,?_,?_⟩,by omega⟩ <;>(try dsimp only)) <;> first | (simp only [List.length_set,List.length_drop,List.length_take,t7];omega) | exact L8 KW (by unfold FR;(try dsimp only);omega) | omega)
        ·rfl
     ·
      have h47':=d8 h47
      refine m9<|i9<|t9<|rC 2 ?_
      refine rS 2<|c9 ?_
      refine s9 17 rfl (c8 (i:=17) hM rfl rfl rfl) ?_
      refine s9 19 rfl (c8 (i:=19) hM rfl rfl rfl) ?_
      refine S8 Tryz.func42 (X9 2 .nil) (⟨X8,xs,i226,h227⟩) ?_ ?_ (hL:=⟨rfl,trivial⟩) <;>(try clear ih0)
      ·(try dsimp only) <;>((refine⟨⟨?_,?_,?_,?_⟩,by omega⟩ <;>(try dsimp only)) <;> first | decide | exact KW | omega)
      ·rfl
 ·
  have h13':=h13
  refine m9<|k9<|t9<|rM ?_
  refine K8 (o9 0 9 10 (pv:=some v0) (H9 Tryz.func41) (r9 code i29 h210 14 (by omega) (by omega) (by omega) (by omega) (by omega)) rfl rfl (.cur rfl (.cons rfl .nil)) rfl (fun⟨_,_,_⟩=>rfl) (fun _=>rfl) (fun⟨_,_,_⟩=>rfl) rfl rfl) ?_
  rintro⟨⟨x93,i294,h295⟩,hq96⟩
  try dsimp only at hq96
  try dsimp only
  obtain⟨q97,q98⟩:=hq96
  refine c9<|p9<|t9<|rB ?_
  refine rA<|c9 ?_
  refine j9 rfl (fun h99=>?_) (fun h99=>?_)
  ·
   have h99':=a8 h99
   refine tD (fun i=>!(Nat.beq i 3||Nat.beq i 5||Nat.beq i 7)) ?_
   refine V8 0 rfl rfl (by kernel_rfl) (by kernel_rfl) (by kernel_rfl) (I7 (off:=1) (by kernel_rfl) rfl) ?_
   refine dT 2 rfl pM ?_
   refine G8 1 3 rfl rfl (by kernel_rfl) rfl rfl (N4 oL) (o9 0 10 18 (pv:=some v0) (H9 Tryz.func97) (M0 code i294 h295 (by omega) (by omega) (by omega)) rfl rfl (.cur rfl .nil) rfl (fun⟨_,_,_,_⟩=>rfl) (fun _=>rfl) (fun⟨_,_,_,_⟩=>rfl) rfl rfl) ?_ ?_
   ·
    rintro⟨⟩
    refine J0 3 rfl (o9 0 10 18 (pv:=some v0) (H9 Tryz.func97) (M0 code i294 h295 (by omega) (by omega) (by omega)) rfl rfl (.cur rfl .nil) rfl (fun⟨_,_,_,_⟩=>rfl) (fun _=>rfl) (fun⟨_,_,_,_⟩=>rfl) rfl rfl) ?_
    rintro⟨⟨r107,ts108,i2109,h2110⟩,hq111⟩
    try dsimp only at hq111
    try dsimp only
    obtain⟨q112,q113⟩:=hq111
    refine dO 4 rfl (w8 18 (e:=64) (sz:=2) (zs:=[.int .i64 0,.slice none 0 0]) rfl rfl (by kernel_rfl) rfl rfl rfl rfl rfl) ?_
    refine dO 5 rfl (W9 6 (e:=64) (sz:=2) (by':=32) ((r107,ts108)) rfl (by kernel_rfl) rfl rfl rfl rfl rfl rfl (.cons .sc (.take (.own rfl) rfl .nil)) rfl (by omega) (by omega)) ?_
    refine dT 6 rfl (pF 1) ?_
    refine dO 7 rfl (oS 1) ?_
    refine dE ?_
    refine i9<|t9<|rC 2 ?_
    refine rS 2<|c9 ?_
    refine s9 5 rfl (c8 (i:=5) hM rfl rfl rfl) ?_
    refine s9 6 rfl (c8 (i:=6) hM rfl rfl rfl) ?_
    refine S8 Tryz.func42 (X9 2 .nil) (⟨X8,fs1++[(r107,ts108)],i2109,h2110⟩) ?_ ?_ (hL:=⟨rfl,trivial⟩) <;>(try clear ih0)
    ·(try dsimp only) <;>((refine⟨⟨?_,?_,?_,?_⟩,by omega⟩ <;>(try dsimp only)) <;> first | decide | exact KW | (simp only [List.length_append,List.length_singleton];omega) | exact d7 (by assumption) (by assumption))
    ·rfl
   ·
    rintro⟨⟨r100,ts101,i2102,h2103⟩,hq104⟩
    try dsimp only at hq104
    try dsimp only
    obtain⟨q105,q106⟩:=hq104
    refine dT 1 rfl pL ?_
    refine dO 4 rfl (w8 18 (e:=64) (sz:=2) (zs:=[.int .i64 0,.slice none 0 0]) rfl rfl (by kernel_rfl) rfl rfl rfl rfl rfl) ?_
    refine dO 5 rfl (W9 6 (e:=64) (sz:=2) (by':=32) ((r100,ts101)) rfl (by kernel_rfl) rfl rfl rfl rfl rfl rfl (.cons .sc (.take (.own rfl) rfl .nil)) rfl (by omega) (by omega)) ?_
    refine dT 6 rfl (pF 1) ?_
    refine dO 7 rfl (oS 1) ?_
    refine dE ?_
    refine i9<|t9<|rC 2 ?_
    refine rS 2<|c9 ?_
    refine s9 5 rfl (c8 (i:=5) hM rfl rfl rfl) ?_
    refine s9 6 rfl (c8 (i:=6) hM rfl rfl rfl) ?_
    refine S8 Tryz.func42 (X9 2 .nil) (⟨X8,fs1++[(r100,ts101)],i2102,h2103⟩) ?_ ?_ (hL:=⟨rfl,trivial⟩) <;>(try clear ih0)
    ·(try dsimp only) <;>((refine⟨⟨?_,?_,?_,?_⟩,by omega⟩ <;>(try dsimp only)) <;> first | decide | exact KW | (simp only [List.length_append,List.length_singleton];omega) | exact d7 (by assumption) (by assumption))
    ·rfl
  ·
   have h99':=d8 h99
   refine t9<|rB ?_
   refine rA<|c9 ?_
   refine j9 rfl (fun h114=>?_) (fun h114=>?_)
   ·
    have h114':=a8 h114
    refine l9<|rF 0 ?_
    refine rL ?_
    refine d9 (QZ rfl (by kernel_rfl) rfl rfl (.l rfl (by omega) (by(rw [t7];omega)))) ?_
    refine rF 0 ?_
    refine rS 1<|c9<|i9<|t9 ?_
    refine rC 2 ?_
    refine rS 2<|c9 ?_
    refine s9 5 rfl (c8 (i:=5) hM rfl rfl rfl) ?_
    refine s9 6 rfl (c8 (i:=6) hM rfl rfl rfl) ?_
    refine S8 Tryz.func42 (X9 2 .nil) (⟨(X8.take X8.length).drop ((1:Int)).toNat,fs1,i294,h295⟩) ?_ ?_ (hL:=⟨rfl,trivial⟩) <;>(try clear ih0)
    ·(try dsimp only) <;>((refine⟨⟨?_,?_,?_,?_⟩,by omega⟩ <;>(try dsimp only)) <;> first | decide | exact fun z hz=>KW z (List.mem_of_mem_take (List.mem_of_mem_drop hz)) | omega)
    ·rfl
   ·
    have h114':=d8 h114
    refine t9<|rB ?_
    refine rA<|c9 ?_
    refine j9 rfl (fun h115=>?_) (fun h115=>?_)
    ·
     have h115':=a8 h115
     refine tD (fun i=>!(Nat.beq i 3||Nat.beq i 5||Nat.beq i 7)) ?_
     refine V8 0 rfl rfl (by kernel_rfl) (by kernel_rfl) (by kernel_rfl) (I7 (off:=0) (by kernel_rfl) rfl) ?_
     refine dT 2 rfl pM ?_
     refine V8 4 rfl rfl (by kernel_rfl) (by kernel_rfl) (by kernel_rfl) (G5 rfl) ?_
     refine G8 1 3 rfl rfl (by kernel_rfl) rfl rfl (N4 oL) (o9 0 10 11 (pv:=some v0) (H9 Tryz.func41) (r9 code i294 h295 5 (by omega) (by omega) (by omega) (by omega) (by omega)) rfl rfl (.cur rfl (.cons rfl .nil)) rfl (fun⟨_,_,_⟩=>rfl) (fun _=>rfl) (fun⟨_,_,_⟩=>rfl) rfl rfl) ?_ ?_
     ·
      rintro⟨⟩
      refine J0 3 rfl (o9 0 10 11 (pv:=some v0) (H9 Tryz.func41) (r9 code i294 h295 5 (by omega) (by omega) (by omega) (by omega) (by omega)) rfl rfl (.cur rfl (.cons rfl .nil)) rfl (fun⟨_,_,_⟩=>rfl) (fun _=>rfl) (fun⟨_,_,_⟩=>rfl) rfl rfl) ?_
      rintro⟨⟨x122,i2123,h2124⟩,hq125⟩
      try dsimp only at hq125
      try dsimp only
      obtain⟨q126,q127⟩:=hq125
      refine J0 5 rfl (o9 0 11 12 (pv:=some v0) (H9 Tryz.func98) (L4 code i2123 h2124 (by omega) (by omega) (by omega)) rfl rfl (.cur rfl .nil) rfl (fun⟨_,_,_,_,_⟩=>rfl) (fun _=>rfl) (fun⟨_,_,_,_,_⟩=>rfl) rfl rfl) ?_
      rintro⟨⟨n128,ar129,b130,i2131,h2132⟩,hq133⟩
      try dsimp only at hq133
      try dsimp only
      obtain⟨q134,q135⟩:=hq133
      obtain⟨z136,hz137,b138⟩:=v9 (xs:=X8) (n:=x122) (by omega) (by(rw [t7];omega))
      refine dT 6 rfl (V9 (by kernel_rfl) rfl rfl rfl b138 (f8 b138 hz137)) ?_
      refine dO 7 rfl (F8 ((n128,ar129,b130)) (n:=3) (by kernel_rfl) rfl rfl hz137 rfl rfl rfl rfl (.cons .sc (.cons .sc (.cons .sc .nil))) rfl (fun j h1 h2=>by(simp at h1 h2;omega))) ?_
      refine dE ?_
      refine i9<|t9<|rC 2 ?_
      refine rS 2<|c9 ?_
      refine s9 5 rfl (c8 (i:=5) hM rfl rfl rfl) ?_
      refine s9 6 rfl (c8 (i:=6) hM rfl rfl rfl) ?_
      refine S8 Tryz.func42 (X9 2 .nil) (⟨X8.set x122.toNat ((n128,ar129,b130)),fs1,i2131,h2132⟩) ?_ ?_ (hL:=⟨rfl,trivial⟩) <;>(try clear ih0)
      ·(try dsimp only) <;>((refine⟨⟨?_,?_,?_,?_⟩,by omega⟩ <;>(try dsimp only)) <;> first | (simp only [List.length_set,List.length_drop,List.length_take,t7];omega) | exact L8 KW (by unfold FR;(try dsimp only);omega) | omega)
      ·rfl
     ·
      rintro⟨⟨x116,i2117,h2118⟩,hq119⟩
      try dsimp only at hq119
      try dsimp only
      obtain⟨q120,q121⟩:=hq119
      refine G8 1 5 rfl rfl (by kernel_rfl) rfl rfl (N4 oL) (o9 0 11 12 (pv:=some v0) (H9 Tryz.func98) (L4 code i2117 h2118 (by omega) (by omega) (by omega)) rfl rfl (.cur rfl .nil) rfl (fun⟨_,_,_,_,_⟩=>rfl) (fun _=>rfl) (fun⟨_,_,_,_,_⟩=>rfl) rfl rfl) ?_ ?_
      ·
       rintro⟨⟩
       refine J0 5 rfl (o9 0 11 12 (pv:=some v0) (H9 Tryz.func98) (L4 code i2117 h2118 (by omega) (by omega) (by omega)) rfl rfl (.cur rfl .nil) rfl (fun⟨_,_,_,_,_⟩=>rfl) (fun _=>rfl) (fun⟨_,_,_,_,_⟩=>rfl) rfl rfl) ?_
       rintro⟨⟨n147,ar148,b149,i2150,h2151⟩,hq152⟩
       try dsimp only at hq152
       try dsimp only
       obtain⟨q153,q154⟩:=hq152
       obtain⟨z155,hz156,b157⟩:=v9 (xs:=X8) (n:=x116) (by omega) (by(rw [t7];omega))
       refine dT 6 rfl (V9 (by kernel_rfl) rfl rfl rfl b157 (f8 b157 hz156)) ?_
       refine dO 7 rfl (F8 ((n147,ar148,b149)) (n:=3) (by kernel_rfl) rfl rfl hz156 rfl rfl rfl rfl (.cons .sc (.cons .sc (.cons .sc .nil))) rfl (fun j h1 h2=>by(simp at h1 h2;omega))) ?_
       refine dE ?_
       refine i9<|t9<|rC 2 ?_
       refine rS 2<|c9 ?_
       refine s9 5 rfl (c8 (i:=5) hM rfl rfl rfl) ?_
       refine s9 6 rfl (c8 (i:=6) hM rfl rfl rfl) ?_
       refine S8 Tryz.func42 (X9 2 .nil) (⟨X8.set x116.toNat ((n147,ar148,b149)),fs1,i2150,h2151⟩) ?_ ?_ (hL:=⟨rfl,trivial⟩) <;>(try clear ih0)
       ·(try dsimp only) <;>((refine⟨⟨?_,?_,?_,?_⟩,by omega⟩ <;>(try dsimp only)) <;> first | (simp only [List.length_set,List.length_drop,List.length_take,t7];omega) | exact L8 KW (by unfold FR;(try dsimp only);omega) | omega)
       ·rfl
      ·
       rintro⟨⟨n139,ar140,b141,i2142,h2143⟩,hq144⟩
       try dsimp only at hq144
       try dsimp only
       obtain⟨q145,q146⟩:=hq144
       refine dT 1 rfl pL ?_
       obtain⟨z158,hz159,b160⟩:=v9 (xs:=X8) (n:=x116) (by omega) (by(rw [t7];omega))
       refine dT 6 rfl (V9 (by kernel_rfl) rfl rfl rfl b160 (f8 b160 hz159)) ?_
       refine dO 7 rfl (F8 ((n139,ar140,b141)) (n:=3) (by kernel_rfl) rfl rfl hz159 rfl rfl rfl rfl (.cons .sc (.cons .sc (.cons .sc .nil))) rfl (fun j h1 h2=>by(simp at h1 h2;omega))) ?_
       refine dE ?_
       refine i9<|t9<|rC 2 ?_
       refine rS 2<|c9 ?_
       refine s9 5 rfl (c8 (i:=5) hM rfl rfl rfl) ?_
       refine s9 6 rfl (c8 (i:=6) hM rfl rfl rfl) ?_
       refine S8 Tryz.func42 (X9 2 .nil) (⟨X8.set x116.toNat ((n139,ar140,b141)),fs1,i2142,h2143⟩) ?_ ?_ (hL:=⟨rfl,trivial⟩) <;>(try clear ih0)
       ·(try dsimp only) <;>((refine⟨⟨?_,?_,?_,?_⟩,by omega⟩ <;>(try dsimp only)) <;> first | (simp only [List.length_set,List.length_drop,List.length_take,t7];omega) | exact L8 KW (by unfold FR;(try dsimp only);omega) | omega)
       ·rfl
    ·
     have h115':=d8 h115
     refine m9<|i9<|t9<|rC 2 ?_
     refine rS 2<|c9 ?_
     refine s9 5 rfl (c8 (i:=5) hM rfl rfl rfl) ?_
     refine s9 6 rfl (c8 (i:=6) hM rfl rfl rfl) ?_
     refine S8 Tryz.func42 (X9 2 .nil) (⟨X8,fs1,i294,h295⟩) ?_ ?_ (hL:=⟨rfl,trivial⟩) <;>(try clear ih0)
     ·(try dsimp only) <;>((refine⟨⟨?_,?_,?_,?_⟩,by omega⟩ <;>(try dsimp only)) <;> first | decide | exact KW | omega)
     ·rfl
end Go.Eng
