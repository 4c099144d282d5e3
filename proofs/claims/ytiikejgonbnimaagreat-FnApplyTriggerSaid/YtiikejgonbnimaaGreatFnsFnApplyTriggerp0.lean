/- What the functions that FnApplyTrigger reaches answer. -/
import Derived.Test.YtiikejgonbnimaaGreatEngZU
import Derived.Test.YtiikejgonbnimaaGreatChecked
set_option linter.unusedVariables false
set_option linter.unusedSimpArgs false
namespace Go.Eng
open Go Go.RowKit Go.Proofs
set_option maxHeartbeats 1000000
set_option maxRecDepth 10000
theorem OP (code:List Int):Pu Tryz.prog 4 [.c (.t none (.sl 1 f6 code))] [] 0 (.c (.t none (.v (.bool (decide ((1048576:Int) < (code.length:Int))))))):=by
 refine u6 Tryz.func4 fun w S=>?_
 refine w9<|rA<|o7 ?_
 refine rM ?_
 refine d9 (S9 rfl rfl rfl) ?_
 refine rB ?_
 refine rA<|c9 ?_
 refine tk Tryz.func4 (.tmp rfl .nil) ?_
 all_goals rfl
theorem iR (code:List Int)(hc:code.length≤1048576):jG Tryz.prog 52 [.c (.t none (.sl 1 f6 code))] (fun(h:Int)=>True) (fun(h:Int)=>[(0,some (.box [.t none (.sl 1 f6 code),.t none (.v (.int .i64 0)),.t none (.v (.int .i64 h))]))]) 1 (fun(h:Int)=> .c (.ptr 0 0)):=by
 refine bV Tryz.func52 rfl (Nat.le_of_ble_eq_true rfl) fun w S=>?_
 refine w9<|rA<|o7 ?_
 refine rM ?_
 refine d9 (S9 rfl rfl rfl) ?_
 refine rB ?_
 refine rA<|c9<|k9<|w9 ?_
 refine rA<|c9<|r9 ?_
 refine L9 (fun(m,h)=>⟨[(0,some (.c (.t none (.sl 1 f6 code)))),(2,some (.c (.t none (.v (.pointer none))))),(3,some (.c (.t none (.v (.int .i64 h))))),(4,some (.c (.t none (.v (.int .i64 ((m:Int)))))))],[],0⟩:Nat × Int→St) (fun(m,h)=>m≤code.length) (fun(m,h)=>code.length - m) (0,IntKind.i64.wrap (10101 +(code.length:Int))) ⟨⟨rfl,⟨rfl,⟨rfl,⟨rfl,trivial⟩⟩⟩⟩,trivial,rfl⟩ (by exact Nat.zero_le _) ?_
 rintro⟨m,h⟩ hI ih0
 try dsimp only at hI ih0
 have i1:=hI;(try dsimp only at i1)
 refine k9<|w9<|rM ?_
 refine rM ?_
 refine d9 (S9 rfl rfl rfl) ?_
 refine rB ?_
 refine rM ?_
 refine x9 (fun g1=>?_) (fun g1=>?_)
 ·
  have g1':=j8 g1
  refine rM ?_
  refine x9 (fun _=>?_) (nc g1)
  refine rB ?_
  refine d9 (M9 rfl rfl g1 rfl) ?_
  refine c9 ?_
  refine j9 rfl (fun h2=>?_) (fun h2=>?_)
  ·
   have h2':=j8 h2
   refine m9<|k9<|r9<|l9<|rM ?_
   refine rB ?_
   refine rM ?_
   refine rM ?_
   obtain⟨z3,hz4,b5⟩:=t9 (xs:=code) (n:=(m:Int)) (by omega) (by omega)
   refine d9 (P9 rfl (by kernel_rfl) rfl rfl b5 hz4) ?_
   refine d9 (c8 rfl (by kernel_rfl) rfl rfl) ?_
   refine d9 (vH rfl Tryz.underlying5 Tryz.underlying3 rfl) ?_
   refine rB ?_
   refine rB ?_
   refine d9 (RS rfl rfl rfl fL) ?_
   refine rA<|c9<|i9<|l9 ?_
   refine rM ?_
   refine rB ?_
   refine rA<|c9 ?_
   refine n8 ?_ (ih0 (m + 1,gP (IntKind.i64.wrap ((IntKind.i64.wrap ((IntKind.i64.wrap (h * 131)) +(IntKind.i64.wrap z3))) + 7)) 1073741823) (by(try dsimp only);omega) (by(try dsimp only);omega))
   exact⟨⟨rfl,⟨rfl,⟨rfl,⟨(i6 (s8 (by omega) (by omega))),trivial⟩⟩⟩⟩,trivial,rfl⟩
  ·
   have h2':=l8 h2
   refine R9 rfl<|w9<|rM ?_
   refine rM ?_
   refine d9 (oD [(0,1),(1,1),(2,1)] [.slice none 0 0,.int .i64 0,.int .i64 0]) ?_
   refine d9 (X9 0 rfl rfl rfl rfl) ?_
   refine rA<|c9 ?_
   refine w7 Tryz.func52 (.tmp rfl .nil) h ?_ ?_ (hL:=⟨rfl,trivial⟩) <;>(try clear ih0)
   ·(try dsimp only) <;> trivial
   ·rfl
 ·
  have g1':=l8 g1
  refine x9 (C9 g1) (fun _=>?_)
  refine d9 (H9 rfl rfl g1 rfl) ?_
  refine c9 ?_
  refine j9 rfl (C9 rfl) (fun _=>?_)
  refine R9 rfl<|w9<|rM ?_
  refine rM ?_
  refine d9 (oD [(0,1),(1,1),(2,1)] [.slice none 0 0,.int .i64 0,.int .i64 0]) ?_
  refine d9 (X9 0 rfl rfl rfl rfl) ?_
  refine rA<|c9 ?_
  refine w7 Tryz.func52 (.tmp rfl .nil) h ?_ ?_ (hL:=⟨rfl,trivial⟩) <;>(try clear ih0)
  ·(try dsimp only) <;> trivial
  ·rfl
theorem O2:Pu Tryz.prog 131 [] [(0,some (.row none 76 true 3 (d8 Z9 f9 a8) T8))] 1 (.c (.own 0)):=by
 refine u6 Tryz.func131 fun w S=>?_
 refine w9<|rA<|o7 ?_
 refine d9 (oD [(0,1),(1,1),(2,1)] [.string (JY ([])),.int .i64 0,.bool false]) ?_
 refine d9 (oD [(0,1),(1,1),(2,1)] [.string (JY ([])),.int .i64 0,.bool false]) ?_
 refine d9 (oD [(0,1),(1,1),(2,1)] [.string (JY ([])),.int .i64 0,.bool false]) ?_
 refine d9 (oD [(0,1),(1,1),(2,1)] [.string (JY ([])),.int .i64 0,.bool false]) ?_
 refine d9 (oD [(0,1),(1,1),(2,1)] [.string (JY ([])),.int .i64 0,.bool false]) ?_
 refine d9 (i7 0 (e:=76) (sz:=3) (zs:=[.string (JY ([])),.int .i64 0,.bool false]) (enc:=(d8 Z9 f9 a8)) [(([97]:List UInt8),2,true),(([98]:List UInt8),1,true),(([112]:List UInt8),2,false),(([113]:List UInt8),2,false),(([114]:List UInt8),1,false)] rfl rfl (by kernel_rfl) rfl rfl rfl rfl rfl rfl rfl rfl (.cons .sc (.cons .sc (.cons .sc (.cons .sc (.cons .sc (.cons .sc (.cons .sc (.cons .sc (.cons .sc (.cons .sc (.cons .sc (.cons .sc (.cons .sc (.cons .sc (.cons .sc .nil))))))))))))))) rfl) ?_
 refine rA<|c9 ?_
 refine tk Tryz.func131 (.tmp rfl .nil) ?_ (hL:=⟨E7 ?_,trivial⟩)
 all_goals rfl
theorem OT (code:List Int)(i h:Int)(hc:code.length≤1048576)(hi0:0≤i)(hi1:i≤code.length):MS Tryz.prog 59 [.c (.ptr 0 0)] [.t none (.sl 1 f6 code),.t none (.v (.int .i64 i)),.t none (.v (.int .i64 h))] (fun(⟨x,i2,h2⟩:Int × Int × Int)=>(0≤x∧x≤255)∧0≤i2∧i2≤code.length) (fun(⟨x,i2,h2⟩:Int × Int × Int)=>[.t none (.sl 1 f6 code),.t none (.v (.int .i64 i2)),.t none (.v (.int .i64 h2))]) (fun(⟨x,i2,h2⟩:Int × Int × Int)=>[]) 1 (fun(⟨x,i2,h2⟩:Int × Int × Int)=> .c (.t none (.v (.int .i64 x)))):=by
 refine J7 Tryz.func59 rfl (Nat.le_of_ble_eq_true rfl) fun v0 w S M hM=>?_
 refine w9<|rA<|o7 ?_
 refine rM ?_
 refine rM ?_
 refine d9 (AR rfl rfl) ?_
 refine rF 2 ?_
 refine d9 (aQ rfl (i:=0) rfl pL) ?_
 refine rB ?_
 refine rB ?_
 refine d9 (AR rfl rfl) ?_
 refine rF 2 ?_
 refine d9 (EU (n:=1) (by kernel_rfl) rfl rfl rfl rfl rfl rfl) ?_
 refine c9<|k9 ?_
 refine tY ?_
 refine dT 0 rfl pM ?_
 refine dT 1 rfl (WX rfl) ?_
 refine dT 2 rfl (pF 2) ?_
 refine dT 3 rfl (vT (i:=0) rfl pL) ?_
 refine dT 4 rfl (lG rfl rfl rfl) ?_
 refine dT 5 rfl pM ?_
 refine dT 6 rfl (WX rfl) ?_
 refine dT 7 rfl (pF 2) ?_
 refine dT 8 rfl (vT (i:=0) rfl pL) ?_
 refine dT 9 rfl (lG rfl rfl rfl) ?_
 refine dT 10 rfl (oR rfl rfl YH) ?_
 refine dT 11 rfl (oR rfl rfl fL) ?_
 refine dT 12 rfl pA ?_
 refine dE ?_
 refine k9<|k9 ?_
 refine tY ?_
 refine dT 0 rfl pM ?_
 refine dT 1 rfl (WX rfl) ?_
 refine dT 2 rfl (pF 1) ?_
 refine dT 3 rfl (vT (i:=0) rfl pL) ?_
 refine dT 4 rfl pM ?_
 refine dT 5 rfl (WX rfl) ?_
 refine dT 6 rfl (pF 0) ?_
 refine dT 7 rfl (vT (i:=0) rfl pL) ?_
 refine dT 8 rfl (BZ rfl rfl) ?_
 refine dT 9 rfl pB ?_
 refine dE ?_
 refine j9 rfl (fun h1=>?_) (fun h1=>?_)
 ·
  have h1':=j8 h1
  refine k9 ?_
  refine tY ?_
  refine dT 0 rfl pM ?_
  refine dT 1 rfl pM ?_
  refine dT 2 rfl (WX rfl) ?_
  refine dT 3 rfl (pF 0) ?_
  refine dT 4 rfl (vT (i:=0) rfl pL) ?_
  refine dT 5 rfl pM ?_
  refine dT 6 rfl (WX rfl) ?_
  refine dT 7 rfl (pF 1) ?_
  refine dT 8 rfl (vT (i:=0) rfl pL) ?_
  obtain⟨z2,hz3,b4⟩:=t9 (xs:=code) (n:=i) (by omega) (by omega)
  refine dT 9 rfl (w8 (by kernel_rfl) rfl rfl b4 hz3) ?_
  refine dT 10 rfl (t7 (by kernel_rfl) rfl rfl) ?_
  refine dT 11 rfl (FL Tryz.underlying5 Tryz.underlying3 rfl) ?_
  refine dT 12 rfl pB ?_
  refine dT 13 rfl (oR rfl rfl fL) ?_
  refine dT 14 rfl pA ?_
  refine dE ?_
  refine l9<|rM ?_
  refine rM ?_
  refine d9 (AR rfl rfl) ?_
  refine rF 1 ?_
  refine d9 (aQ rfl (i:=0) rfl pL) ?_
  refine rB ?_
  refine d9 (AR rfl rfl) ?_
  refine rF 1 ?_
  refine d9 (EU (n:=1) (by kernel_rfl) rfl rfl rfl rfl rfl rfl) ?_
  refine o7<|rM ?_
  refine rA<|c9 ?_
  refine w7 Tryz.func59 (.tmp rfl .nil) (⟨gP (IntKind.i64.wrap ((gP (OI (Int.fdiv (IntKind.i64.wrap ((IntKind.i64.wrap (h * 6364136223846793005)) + 1442695040888963407)) (2 ^ 33)) (Int.fdiv (IntKind.i64.wrap ((IntKind.i64.wrap (h * 6364136223846793005)) + 1442695040888963407)) (2 ^ 45))) 255) +(IntKind.i64.wrap z2))) 255,IntKind.i64.wrap (i + 1),IntKind.i64.wrap ((IntKind.i64.wrap (h * 6364136223846793005)) + 1442695040888963407)⟩) ?_ ?_ (hL:=⟨rfl,trivial⟩)
  ·(try dsimp only) <;>(exact⟨cL _,by(have:=s8 (x:=i + 1) (by omega) (by omega);omega)⟩)
  ·rfl
 ·
  have h1':=l8 h1
  refine m9<|w9<|rM ?_
  refine rA<|c9 ?_
  refine w7 Tryz.func59 (.tmp rfl .nil) (⟨gP (OI (Int.fdiv (IntKind.i64.wrap ((IntKind.i64.wrap (h * 6364136223846793005)) + 1442695040888963407)) (2 ^ 33)) (Int.fdiv (IntKind.i64.wrap ((IntKind.i64.wrap (h * 6364136223846793005)) + 1442695040888963407)) (2 ^ 45))) 255,i,IntKind.i64.wrap ((IntKind.i64.wrap (h * 6364136223846793005)) + 1442695040888963407)⟩) ?_ ?_ (hL:=⟨rfl,trivial⟩)
  ·(try dsimp only) <;>(exact⟨cL _,by omega⟩)
  ·rfl
theorem A9 (code:List Int)(i h n:Int)(hc:code.length≤1048576)(hi0:0≤i)(hi1:i≤code.length)(hn:1≤n)(hn2:n≤256):MS Tryz.prog 19 [.c (.ptr 0 0),.c (.t none (.v (.int .i64 n)))] [.t none (.sl 1 f6 code),.t none (.v (.int .i64 i)),.t none (.v (.int .i64 h))] (fun(⟨x,i2,h2⟩:Int × Int × Int)=>(0≤x∧x≤n - 1)∧0≤i2∧i2≤code.length) (fun(⟨x,i2,h2⟩:Int × Int × Int)=>[.t none (.sl 1 f6 code),.t none (.v (.int .i64 i2)),.t none (.v (.int .i64 h2))]) (fun(⟨x,i2,h2⟩:Int × Int × Int)=>[]) 1 (fun(⟨x,i2,h2⟩:Int × Int × Int)=> .c (.t none (.v (.int .i64 x)))):=by
 refine J7 Tryz.func19 rfl (Nat.le_of_ble_eq_true rfl) fun v0 w S M hM=>?_
 refine w9<|rA<|c9<|k9<|w9 ?_
 refine rM ?_
 refine rB<|c9 ?_
 refine j9 rfl (fun h1=>?_) (fun h1=>?_)
 ·
  have h1':=j8 h1
  exfalso;omega
 ·
  have h1':=l8 h1
  refine m9<|k9<|w9<|rM ?_
  refine rB<|c9 ?_
  refine j9 rfl (fun h2=>?_) (fun h2=>?_)
  ·
   have h2':=j8 h2
   refine w9<|rM ?_
   refine p7 (s9 0 1 2 (pv:=some v0) (N9 Tryz.func59) (OT code i h (by omega) (by omega) (by omega)) rfl rfl (.cur rfl .nil) rfl (fun⟨_,_,_⟩=>rfl) (fun _=>rfl) (fun⟨_,_,_⟩=>rfl) rfl rfl) ?_
   rintro⟨⟨x3,i24,h25⟩,hq6⟩
   try dsimp only at hq6
   try dsimp only
   obtain⟨q7,q8⟩:=hq6
   refine rM ?_
   refine d9 (RS rfl rfl rfl (QH (by omega))) ?_
   refine rA<|c9 ?_
   refine w7 Tryz.func19 (.tmp rfl .nil) (⟨Int.tmod x3 n,i24,h25⟩) ?_ ?_ (hL:=⟨rfl,trivial⟩)
   ·(try dsimp only) <;>(exact⟨VL (by omega) (by omega),by omega⟩)
   ·rfl
  ·
   have h2':=l8 h2
   exfalso;omega
theorem J6 (code:List Int)(i h n:Int)(hc:code.length≤1048576)(hi0:0≤i)(hi1:i≤code.length)(hn:1≤n)(hn2:n≤256):MS Tryz.prog 18 [.c (.ptr 0 0),.c (.t none (.v (.int .i64 n)))] [.t none (.sl 1 f6 code),.t none (.v (.int .i64 i)),.t none (.v (.int .i64 h))] (fun(⟨b,i2,h2⟩:Bool × Int × Int)=>0≤i2∧i2≤code.length) (fun(⟨b,i2,h2⟩:Bool × Int × Int)=>[.t none (.sl 1 f6 code),.t none (.v (.int .i64 i2)),.t none (.v (.int .i64 h2))]) (fun(⟨b,i2,h2⟩:Bool × Int × Int)=>[]) 1 (fun(⟨b,i2,h2⟩:Bool × Int × Int)=> .c (.t none (.v (.bool b)))):=by
 refine J7 Tryz.func18 rfl (Nat.le_of_ble_eq_true rfl) fun v0 w S M hM=>?_
 refine w9<|rA<|o7 ?_
 refine rM ?_
 refine rM ?_
 refine p7 (s9 0 1 2 (pv:=some v0) (N9 Tryz.func19) (A9 code i h n (by omega) (by omega) (by omega) (by omega) (by omega)) rfl rfl (.cur rfl (.cons rfl .nil)) rfl (fun⟨_,_,_⟩=>rfl) (fun _=>rfl) (fun⟨_,_,_⟩=>rfl) rfl rfl) ?_
 rintro⟨⟨x1,i22,h23⟩,hq4⟩
 try dsimp only at hq4
 try dsimp only
 obtain⟨q5,q6⟩:=hq4
 refine rB ?_
 refine rA<|c9 ?_
 refine w7 Tryz.func18 (.tmp rfl .nil) (⟨decide (x1=0),i22,h23⟩) ?_ ?_ (hL:=⟨rfl,trivial⟩)
 ·(try dsimp only) <;> omega
 ·rfl
theorem H2 (k:Int)(hk: -4611686018427387904≤k∧k≤4611686018427387904):Pu Tryz.prog 33 [.c (.t none (.v (.int .i64 k)))] [] 0 (.c (.t none (.v (.int .i64 (-1 - k))))):=by
 refine u6 Tryz.func33 fun w S=>?_
 refine w9<|rA<|o7 ?_
 refine rM ?_
 refine rB ?_
 refine rA<|c9 ?_
 refine tk Tryz.func33 (.tmp rfl .nil) ?_
 all_goals(refine qX ?_;exact s8 (by omega) (by omega))
theorem xY (code:List Int)(i h n:Int)(hc:code.length≤1048576)(hi0:0≤i)(hi1:i≤code.length)(hn:0≤n)(hn2:n≤256):MS Tryz.prog 162 [.c (.ptr 0 0),.c (.t none (.v (.int .i64 n)))] [.t none (.sl 1 f6 code),.t none (.v (.int .i64 i)),.t none (.v (.int .i64 h))] (fun(⟨x,i2,h2⟩:Int × Int × Int)=>(-256≤x∧x≤2)∧0≤i2∧i2≤code.length) (fun(⟨x,i2,h2⟩:Int × Int × Int)=>[.t none (.sl 1 f6 code),.t none (.v (.int .i64 i2)),.t none (.v (.int .i64 h2))]) (fun(⟨x,i2,h2⟩:Int × Int × Int)=>[]) 1 (fun(⟨x,i2,h2⟩:Int × Int × Int)=> .c (.t none (.v (.int .i64 x)))):=by
 refine J7 Tryz.func162 rfl (Nat.le_of_ble_eq_true rfl) fun v0 w S M hM=>?_
 refine w9<|rA<|c9<|k9<|w9 ?_
 refine rM ?_
 refine rB ?_
 refine rM ?_
 refine x9 (fun g1=>?_) (fun g1=>?_)
 ·
  have g1':=j8 g1
  refine rM ?_
  refine x9 (fun _=>?_) (nc g1)
  refine p7 (s9 0 1 2 (pv:=some v0) (N9 Tryz.func18) (J6 code i h 2 (by omega) (by omega) (by omega) (by omega) (by omega)) rfl rfl (.cur rfl (.cons rfl .nil)) rfl (fun⟨_,_,_⟩=>rfl) (fun _=>rfl) (fun⟨_,_,_⟩=>rfl) rfl rfl) ?_
  rintro⟨⟨b2,i23,h24⟩,hq5⟩
  try dsimp only at hq5
  try dsimp only
  refine d9 (M9 rfl rfl g1 rfl) ?_
  refine c9 ?_
  refine j9 rfl (fun h7=>?_) (fun h7=>?_)
  ·
   have h7':=h7
   refine w9<|rM ?_
   refine rM ?_
   refine p7 (s9 0 2 3 (pv:=some v0) (N9 Tryz.func19) (A9 code i23 h24 n (by omega) (by omega) (by omega) (by omega) (by omega)) rfl rfl (.cur rfl (.cons rfl .nil)) rfl (fun⟨_,_,_⟩=>rfl) (fun _=>rfl) (fun⟨_,_,_⟩=>rfl) rfl rfl) ?_
   rintro⟨⟨x8,i29,h210⟩,hq11⟩
   try dsimp only at hq11
   try dsimp only
   obtain⟨q12,q13⟩:=hq11
   refine d9 (n9 3 3 false (N9 Tryz.func33) (H2 x8 (by omega)) rfl (.cons rfl (.c .t0) .nil) rfl rfl rfl) ?_
   refine rA<|c9 ?_
   refine w7 Tryz.func162 (.tmp rfl .nil) (⟨-1 - x8,i29,h210⟩) ?_ ?_ (hL:=⟨rfl,trivial⟩)
   ·(try dsimp only) <;>(((try simp only [IntKind.wrap_i64] at *);omega))
   ·rfl
  ·
   have h7':=h7
   refine m9<|w9<|rM ?_
   refine p7 (s9 0 2 3 (pv:=some v0) (N9 Tryz.func19) (A9 code i23 h24 3 (by omega) (by omega) (by omega) (by omega) (by omega)) rfl rfl (.cur rfl (.cons rfl .nil)) rfl (fun⟨_,_,_⟩=>rfl) (fun _=>rfl) (fun⟨_,_,_⟩=>rfl) rfl rfl) ?_
   rintro⟨⟨x14,i215,h216⟩,hq17⟩
   try dsimp only at hq17
   try dsimp only
   obtain⟨q18,q19⟩:=hq17
   refine rA<|c9 ?_
   refine w7 Tryz.func162 (.tmp rfl .nil) (⟨x14,i215,h216⟩) ?_ ?_ (hL:=⟨rfl,trivial⟩)
   ·(try dsimp only) <;>(((try simp only [IntKind.wrap_i64] at *);omega))
   ·rfl
 ·
  have g1':=l8 g1
  refine x9 (C9 g1) (fun _=>?_)
  refine d9 (H9 rfl rfl g1 rfl) ?_
  refine c9 ?_
  refine j9 rfl (C9 rfl) (fun _=>?_)
  refine m9<|w9<|rM ?_
  refine p7 (s9 0 1 2 (pv:=some v0) (N9 Tryz.func19) (A9 code i h 3 (by omega) (by omega) (by omega) (by omega) (by omega)) rfl rfl (.cur rfl (.cons rfl .nil)) rfl (fun⟨_,_,_⟩=>rfl) (fun _=>rfl) (fun⟨_,_,_⟩=>rfl) rfl rfl) ?_
  rintro⟨⟨x20,i221,h222⟩,hq23⟩
  try dsimp only at hq23
  try dsimp only
  obtain⟨q24,q25⟩:=hq23
  refine rA<|c9 ?_
  refine w7 Tryz.func162 (.tmp rfl .nil) (⟨x20,i221,h222⟩) ?_ ?_ (hL:=⟨rfl,trivial⟩)
  ·(try dsimp only) <;>(((try simp only [IntKind.wrap_i64] at *);omega))
  ·rfl
theorem o5 (code:List Int)(i h r n:Int)(hc:code.length≤1048576)(hi0:0≤i)(hi1:i≤code.length)(hr:0≤r∧r≤4)(hn:0≤n∧n≤256):MS Tryz.prog 132 [.c (.ptr 0 0),.c (.t none (.v (.int .i64 r))),.c (.t none (.v (.int .i64 n)))] [.t none (.sl 1 f6 code),.t none (.v (.int .i64 i)),.t none (.v (.int .i64 h))] (fun(⟨ts,i2,h2⟩:(List Int) × Int × Int)=>(1≤ts.length∧ts.length≤2)∧(∀x∈ts, -256≤x∧x≤2)∧0≤i2∧i2≤code.length) (fun(⟨ts,i2,h2⟩:(List Int) × Int × Int)=>[.t none (.sl 1 f6 code),.t none (.v (.int .i64 i2)),.t none (.v (.int .i64 h2))]) (fun(⟨ts,i2,h2⟩:(List Int) × Int × Int)=>[(4,some (.row none 3 true 1 f9 ts))]) 5 (fun(⟨ts,i2,h2⟩:(List Int) × Int × Int)=> .agg [.t none (.v (.int .i64 r)),.own 4]):=by
 refine J7 Tryz.func132 rfl (Nat.le_of_ble_eq_true rfl) fun v0 w S M hM=>?_
 have ar:=KK hr
 refine w9 ?_
 refine d9 (I9 1 (zs:=[.int .i64 0,.slice none 0 0]) rfl rfl (by kernel_rfl) rfl) ?_
 refine o7 ?_
 refine d9 (n9 2 3 false (N9 Tryz.func131) (O2) rfl .nil rfl rfl rfl) ?_
 refine rA<|o7 ?_
 refine rM ?_
 refine d9 (oD [(0,1),(1,1)] [.int .i64 0,.slice none 0 0]) ?_
 refine d9 (I9 3 (zs:=[.int .i64 0,.slice none 0 0]) rfl rfl (by kernel_rfl) rfl) ?_
 refine rS 2<|c9<|k9<|r9 ?_
 refine I6 4 (b:=3) (o:=1) (et:=3) (sz:=1) true f9 rfl rfl rfl ?_
 refine L9 (fun(ts,i3,h3)=>⟨[(0,some (.c (.ptr 0 0))),(1,some (.c (.t none (.v (.int .i64 r))))),(2,some (.c (.t none (.v (.int .i64 n))))),(6,some (.c (.ptr 1 0))),(7,some (.c (.own 2))),(8,some (.c (.ptr 3 0)))],[(0,some (.pbox v0 [.t none (.sl 1 f6 code),.t none (.v (.int .i64 i3)),.t none (.v (.int .i64 h3))])),(1,some (.box [.t none (.v (.int .i64 0)),.t none (.v (.slice none 0 0))])),(2,some (.row none 76 true 3 (d8 Z9 f9 a8) T8)),(3,some (.box [.t none (.v (.int .i64 r)),.own 4])),(4,some (.row none 3 true 1 f9 ts))],5⟩:List Int × Int × Int→St) (fun(ts,i3,h3)=>((ts.length:Int)≤uH r)∧(∀x∈ts, -256≤x∧x≤2)∧(0≤i3∧i3≤code.length)) (fun(ts,i3,h3)=>2 - ts.length) ([],i,h) ⟨⟨rfl,⟨rfl,⟨rfl,⟨rfl,⟨rfl,⟨rfl,trivial⟩⟩⟩⟩⟩⟩,⟨rfl,⟨rfl,⟨rfl,⟨rfl,⟨rfl,trivial⟩⟩⟩⟩⟩,rfl⟩ (by exact⟨by simp;omega,fun x hx=>by simp at hx,by omega⟩) ?_
 rintro⟨ts,i3,h3⟩ hI ih0
 try dsimp only at hI ih0
 obtain⟨j1,j2,j3⟩:=hI
 refine k9<|k9 ?_
 refine tY ?_
 refine dT 0 rfl (pF 1) ?_
 refine dT 1 rfl pL ?_
 refine dT 2 rfl (J2 rfl rfl rfl) ?_
 refine dT 3 rfl pM ?_
 refine dT 4 rfl pM ?_
 obtain⟨z1,hz2,b3⟩:=t9 (xs:=T8) (n:=r) (by omega) (by(rw [u7];omega))
 refine dT 5 rfl (T9 (by kernel_rfl) rfl rfl rfl b3 (f8 b3 hz2)) ?_
 refine dT 6 rfl (C4 (off:=1) (by kernel_rfl) rfl) ?_
 refine dT 7 rfl (E8 (by kernel_rfl) rfl rfl rfl hz2) ?_
 refine dT 8 rfl pB ?_
 refine dE ?_
 refine j9 rfl (fun h4=>?_) (fun h4=>?_)
 ·
  have h4':=j8 h4
  refine m9<|r9 ?_
  refine tD (fun i=>!(Nat.beq i 4||Nat.beq i 6||Nat.beq i 8)) ?_
  refine y7 0 rfl rfl (by kernel_rfl) (by kernel_rfl) (by kernel_rfl) (W7 (off:=1) (by kernel_rfl) rfl) ?_
  refine dT 2 rfl pM ?_
  refine dT 3 rfl pM ?_
  refine d7 1 4 rfl rfl (by kernel_rfl) rfl rfl (V0 oL) (s9 0 5 6 (pv:=some v0) (N9 Tryz.func162) (xY code i3 h3 n (by omega) (by omega) (by omega) (by omega) (by omega)) rfl rfl (.cur rfl (.cons rfl .nil)) rfl (fun⟨_,_,_⟩=>rfl) (fun _=>rfl) (fun⟨_,_,_⟩=>rfl) rfl rfl) ?_ ?_
  ·
   rintro⟨⟩
   refine lZ 4 rfl (s9 0 5 6 (pv:=some v0) (N9 Tryz.func162) (xY code i3 h3 n (by omega) (by omega) (by omega) (by omega) (by omega)) rfl rfl (.cur rfl (.cons rfl .nil)) rfl (fun⟨_,_,_⟩=>rfl) (fun _=>rfl) (fun⟨_,_,_⟩=>rfl) rfl rfl) ?_
   rintro⟨⟨x11,i212,h213⟩,hq14⟩
   try dsimp only at hq14
   try dsimp only
   obtain⟨q15,q16⟩:=hq14
   refine dO 5 rfl (G8 6 (e:=3) (sz:=1) (zs:=[.int .i64 0]) rfl rfl (by kernel_rfl) rfl rfl rfl rfl rfl) ?_
   refine dO 6 rfl (i8 4 (e:=3) (sz:=1) (by':=8) x11 rfl (by kernel_rfl) rfl rfl rfl rfl rfl rfl (.cons .sc .nil) rfl (by omega) (by omega)) ?_
   refine dT 7 rfl (pF 1) ?_
   refine dO 8 rfl (oS 1) ?_
   refine dE ?_
   refine i9 ?_
   have sg:=OZ hz2
   refine n8 ?_ (ih0 (ts++[x11],i212,h213) (by(try dsimp only);(simp;omega)) (by(try dsimp only);exact⟨by(simp only [List.length_append,List.length_singleton];omega),m7 j2 (by assumption),by omega⟩))
   exact⟨⟨rfl,⟨rfl,⟨rfl,⟨rfl,⟨rfl,⟨rfl,trivial⟩⟩⟩⟩⟩⟩,⟨rfl,⟨rfl,⟨rfl,⟨rfl,⟨rfl,trivial⟩⟩⟩⟩⟩,rfl⟩
  ·
   rintro⟨⟨x5,i26,h27⟩,hq8⟩
   try dsimp only at hq8
   try dsimp only
   obtain⟨q9,q10⟩:=hq8
   refine dT 1 rfl pL ?_
   refine dO 5 rfl (G8 6 (e:=3) (sz:=1) (zs:=[.int .i64 0]) rfl rfl (by kernel_rfl) rfl rfl rfl rfl rfl) ?_
   refine dO 6 rfl (i8 4 (e:=3) (sz:=1) (by':=8) x5 rfl (by kernel_rfl) rfl rfl rfl rfl rfl rfl (.cons .sc .nil) rfl (by omega) (by omega)) ?_
   refine dT 7 rfl (pF 1) ?_
   refine dO 8 rfl (oS 1) ?_
   refine dE ?_
   refine i9 ?_
   have sg:=OZ hz2
   refine n8 ?_ (ih0 (ts++[x5],i26,h27) (by(try dsimp only);(simp;omega)) (by(try dsimp only);exact⟨by(simp only [List.length_append,List.length_singleton];omega),m7 j2 (by assumption),by omega⟩))
   exact⟨⟨rfl,⟨rfl,⟨rfl,⟨rfl,⟨rfl,⟨rfl,trivial⟩⟩⟩⟩⟩⟩,⟨rfl,⟨rfl,⟨rfl,⟨rfl,⟨rfl,trivial⟩⟩⟩⟩⟩,rfl⟩
 ·
  have h4':=l8 h4
  refine R9 rfl<|w9<|rC 2 ?_
  refine rS 2<|c9 ?_
  refine w7 Tryz.func132 (r8 2 .nil) (⟨ts,i3,h3⟩) ?_ ?_ (hL:=⟨rfl,⟨rfl,trivial⟩⟩) <;>(try clear ih0)
  ·(try dsimp only) <;>((have sg:=OZ hz2);exact⟨by omega,j2,by omega⟩)
  ·rfl
theorem DX (a b:List Int)(ha:a.length≤4611686018427387904)(hb:b.length≤4611686018427387904):Pu Tryz.prog 80 [.c (.t none (.sl 1 f9 a)),.c (.t none (.sl 1 f9 b))] [] 0 (.c (.t none (.v (.int .i64 (T6 a b))))):=by
 refine u6 Tryz.func80 fun w S=>?_
 refine w9<|rA<|c9<|k9<|w9 ?_
 refine rA<|c9<|r9 ?_
 refine L9 (fun m=>⟨[(0,some (.c (.t none (.sl 1 f9 a)))),(1,some (.c (.t none (.sl 1 f9 b)))),(5,some (.c (.t none (.v (.int .i64 ((m:Int)))))))],[],0⟩:Nat→St) (fun m=>m≤a.length∧m≤b.length∧a.take m=b.take m) (fun m=>a.length - m) 0 ⟨⟨rfl,⟨rfl,⟨rfl,trivial⟩⟩⟩,trivial,rfl⟩ (by exact⟨Nat.zero_le _,Nat.zero_le _,rfl⟩) ?_
 rintro m hI ih0
 try dsimp only at hI ih0
 obtain⟨i1,i2,i3⟩:=hI
 refine k9<|w9<|rM ?_
 refine rM ?_
 refine d9 (S9 rfl rfl rfl) ?_
 refine rB ?_
 refine rM ?_
 refine x9 (fun g1=>?_) (fun g1=>?_)
 ·
  have g1':=j8 g1
  refine rM ?_
  refine x9 (fun _=>?_) (nc g1)
  refine rM ?_
  refine x9 (fun _=>?_) (nc g1)
  refine d9 (S9 rfl rfl rfl) ?_
  refine x9 (fun _=>?_) (nc g1)
  refine rB ?_
  refine d9 (M9 rfl rfl g1 rfl) ?_
  refine c9 ?_
  refine j9 rfl (fun h2=>?_) (fun h2=>?_)
  ·
   have h2':=j8 h2
   refine m9<|k9<|r9<|k9<|k9 ?_
   refine tY ?_
   refine dT 0 rfl pM ?_
   refine dT 1 rfl pM ?_
   obtain⟨z3,hz4,b5⟩:=t9 (xs:=a) (n:=(m:Int)) (by omega) (by omega)
   refine dT 2 rfl (w8 (by kernel_rfl) rfl rfl b5 hz4) ?_
   refine dT 3 rfl (t7 (by kernel_rfl) rfl rfl) ?_
   refine dT 4 rfl pM ?_
   refine dT 5 rfl pM ?_
   obtain⟨z6,hz7,b8⟩:=t9 (xs:=b) (n:=(m:Int)) (by omega) (by omega)
   refine dT 6 rfl (w8 (by kernel_rfl) rfl rfl b8 hz7) ?_
   refine dT 7 rfl (t7 (by kernel_rfl) rfl rfl) ?_
   refine dT 8 rfl pB ?_
   refine dE ?_
   refine j9 rfl (fun h9=>?_) (fun h9=>?_)
   ·
    have h9':=j8 h9
    refine w9<|rA<|c9 ?_
    refine tk Tryz.func80 (.tmp rfl .nil) ?_ <;>(try clear ih0)
    all_goals(refine qX ?_;(rw [(XV i3 (by assumption) (by assumption)).1 (by omega)];done))
   ·
    have h9':=l8 h9
    refine m9<|k9 ?_
    refine tY ?_
    refine dT 0 rfl pM ?_
    refine dT 1 rfl pM ?_
    refine dT 2 rfl (w8 (by kernel_rfl) rfl rfl b5 hz4) ?_
    refine dT 3 rfl (t7 (by kernel_rfl) rfl rfl) ?_
    refine dT 4 rfl pM ?_
    refine dT 5 rfl pM ?_
    refine dT 6 rfl (w8 (by kernel_rfl) rfl rfl b8 hz7) ?_
    refine dT 7 rfl (t7 (by kernel_rfl) rfl rfl) ?_
    refine dT 8 rfl pB ?_
    refine dE ?_
    refine j9 rfl (fun h10=>?_) (fun h10=>?_)
    ·
     have h10':=j8 h10
     refine w9<|rA<|c9 ?_
     refine tk Tryz.func80 (.tmp rfl .nil) ?_ <;>(try clear ih0)
     all_goals(refine qX ?_;(rw [(XV i3 (by assumption) (by assumption)).2 (by omega)];done))
    ·
     have h10':=l8 h10
     refine m9<|i9<|l9<|rM ?_
     refine rB ?_
     refine rA<|c9 ?_
     refine n8 ?_ (ih0 (m + 1) (by(try dsimp only);omega) (by(try dsimp only);exact⟨by omega,by omega,oZ i3 (FW (by assumption) (by assumption) (by omega))⟩))
     exact⟨⟨rfl,⟨rfl,⟨(i6 (s8 (by omega) (by omega))),trivial⟩⟩⟩,trivial,rfl⟩
  ·
   have h2':=l8 h2
   refine R9 rfl<|k9<|w9<|rM ?_
   refine d9 (S9 rfl rfl rfl) ?_
   refine rM ?_
   refine d9 (S9 rfl rfl rfl) ?_
   refine rB<|c9 ?_
   refine j9 rfl (fun h11=>?_) (fun h11=>?_)
   ·
    have h11':=j8 h11
    refine w9<|rA<|c9 ?_
    refine tk Tryz.func80 (.tmp rfl .nil) ?_ <;>(try clear ih0)
    all_goals(refine qX ?_;(rw [(f4 i3 i1 i2).1 (by omega) (by omega)];done))
   ·
    have h11':=l8 h11
    refine m9<|k9<|w9<|rM ?_
    refine d9 (S9 rfl rfl rfl) ?_
    refine rM ?_
    refine d9 (S9 rfl rfl rfl) ?_
    refine rB<|c9 ?_
    refine j9 rfl (fun h12=>?_) (fun h12=>?_)
    ·
     have h12':=j8 h12
     refine w9<|rA<|c9 ?_
     refine tk Tryz.func80 (.tmp rfl .nil) ?_ <;>(try clear ih0)
     all_goals(refine qX ?_;(rw [(f4 i3 i1 i2).2.1 (by omega) (by omega)];done))
    ·
     have h12':=l8 h12
     refine m9<|w9<|rA<|c9 ?_
     refine tk Tryz.func80 (.tmp rfl .nil) ?_ <;>(try clear ih0)
     all_goals(refine qX ?_;(rw [(f4 i3 i1 i2).2.2 (by omega) (by omega)];done))
 ·
  have g1':=l8 g1
  refine x9 (C9 g1) (fun _=>?_)
  refine x9 (C9 g1) (fun _=>?_)
  refine x9 (C9 g1) (fun _=>?_)
  refine d9 (H9 rfl rfl g1 rfl) ?_
  refine c9 ?_
  refine j9 rfl (C9 rfl) (fun _=>?_)
  refine R9 rfl<|k9<|w9<|rM ?_
  refine d9 (S9 rfl rfl rfl) ?_
  refine rM ?_
  refine d9 (S9 rfl rfl rfl) ?_
  refine rB<|c9 ?_
  refine j9 rfl (fun h13=>?_) (fun h13=>?_)
  ·
   have h13':=j8 h13
   refine w9<|rA<|c9 ?_
   refine tk Tryz.func80 (.tmp rfl .nil) ?_ <;>(try clear ih0)
   all_goals(refine qX ?_;(rw [(f4 i3 i1 i2).1 (by omega) (by omega)];done))
  ·
   have h13':=l8 h13
   refine m9<|k9<|w9<|rM ?_
   refine d9 (S9 rfl rfl rfl) ?_
   refine rM ?_
   refine d9 (S9 rfl rfl rfl) ?_
   refine rB<|c9 ?_
   refine j9 rfl (fun h14=>?_) (fun h14=>?_)
   ·
    have h14':=j8 h14
    refine w9<|rA<|c9 ?_
    refine tk Tryz.func80 (.tmp rfl .nil) ?_ <;>(try clear ih0)
    all_goals(refine qX ?_;(rw [(f4 i3 i1 i2).2.1 (by omega) (by omega)];done))
   ·
    have h14':=l8 h14
    refine m9<|w9<|rA<|c9 ?_
    refine tk Tryz.func80 (.tmp rfl .nil) ?_ <;>(try clear ih0)
    all_goals(refine qX ?_;(rw [(f4 i3 i1 i2).2.2 (by omega) (by omega)];done))
theorem C5 (r:Int)(l:List Int)(r2:Int)(l2:List Int)(hl:l.length≤1048576)(hl2:l2.length≤1048576):Pu Tryz.prog 37 [.agg [.t none (.v (.int .i64 r)),.t none (.sl 1 f9 l)],.agg [.t none (.v (.int .i64 r2)),.t none (.sl 1 f9 l2)]] [] 0 (.c (.t none (.v (.int .i64 (S8 (r,l) (r2,l2)))))):=by
 refine u6 Tryz.func37 fun w S=>?_
 refine w9 ?_
 refine d9 (X9 0 rfl rfl rfl rfl) ?_
 refine d9 (X9 1 rfl rfl rfl rfl) ?_
 refine rA<|c9<|k9<|w9 ?_
 refine rF 0 ?_
 refine rL ?_
 refine rF 0 ?_
 refine rL ?_
 refine rB<|c9 ?_
 refine j9 rfl (fun h1=>?_) (fun h1=>?_)
 ·
  have h1':=j8 h1
  refine w9<|rA<|c9 ?_
  refine tk Tryz.func37 (.tmp rfl .nil) ?_
  all_goals(refine qX ?_;unfold S8;(rw [if_pos (by assumption)];done))
 ·
  have h1':=l8 h1
  refine m9<|k9<|w9<|rF 0 ?_
  refine rL ?_
  refine rF 0 ?_
  refine rL ?_
  refine rB<|c9 ?_
  refine j9 rfl (fun h2=>?_) (fun h2=>?_)
  ·
   have h2':=j8 h2
   refine w9<|rA<|c9 ?_
   refine tk Tryz.func37 (.tmp rfl .nil) ?_
   all_goals(refine qX ?_;unfold S8;(rw [if_neg (by assumption),if_pos (by assumption)];done))
  ·
   have h2':=l8 h2
   refine m9<|w9<|rF 1 ?_
   refine rL ?_
   refine rF 1 ?_
   refine rL ?_
   refine d9 (n9 2 2 false (N9 Tryz.func80) (DX l l2 (by omega) (by omega)) rfl (.cons rfl (.c .t0) (.cons rfl (.c .t0) .nil)) rfl rfl rfl) ?_
   refine rA<|c9 ?_
   refine tk Tryz.func37 (.tmp rfl .nil) ?_
   all_goals(refine qX ?_;unfold S8;(rw [if_neg (by assumption),if_neg (by assumption)];done))
theorem IY (rs:V9)(fs:p9)(r:Int)(ts:List Int)(hfs:l7 (fun(x:Int ×(List Int))=>x.2.length) fs≤1048576)(hts:ts.length≤1048576):Pu Tryz.prog 79 [.agg [.t none (.sl 3 (d8 Z9 f9 a8) rs),.t none (.sl 2 (E9 f9 (B9 1 f9)) fs)],.agg [.t none (.v (.int .i64 r)),.t none (.sl 1 f9 ts)]] [] 0 (.c (.t none (.v (.int .i64 (V1 (fun x=>decide (S8 x (r,ts)=0)) fs))))):=by
 refine u6 Tryz.func79 fun w S=>?_
 have gl:=L8 (f:=(fun(x:Int ×(List Int))=>x.2.length)) (l:=fs)
 refine w9 ?_
 refine d9 (X9 0 rfl rfl rfl rfl) ?_
 refine d9 (X9 1 rfl rfl rfl rfl) ?_
 refine rA<|c9<|k9<|w9 ?_
 refine rA<|c9<|r9 ?_
 refine L9 (fun m=>⟨[(2,some (.c (.ptr 0 0))),(3,some (.c (.ptr 1 0))),(5,some (.c (.t none (.v (.int .i64 ((m:Int)))))))],[(0,some (.box [.t none (.sl 3 (d8 Z9 f9 a8) rs),.t none (.sl 2 (E9 f9 (B9 1 f9)) fs)])),(1,some (.box [.t none (.v (.int .i64 r)),.t none (.sl 1 f9 ts)]))],2⟩:Nat→St) (fun m=>m≤fs.length∧∀j z,j < m→fs[j]? =some z→(fun x=>decide (S8 x (r,ts)=0)) z=false) (fun m=>fs.length - m) 0 ⟨⟨rfl,⟨rfl,⟨rfl,trivial⟩⟩⟩,⟨rfl,⟨rfl,trivial⟩⟩,rfl⟩ (by exact⟨Nat.zero_le _,fun j z h=>by omega⟩) ?_
 rintro m hI ih0
 try dsimp only at hI ih0
 obtain⟨i1,i2⟩:=hI
 refine k9<|w9<|rM ?_
 refine rF 1 ?_
 refine rL ?_
 refine d9 (S9 rfl rfl rfl) ?_
 refine rB<|c9 ?_
 refine j9 rfl (fun h1=>?_) (fun h1=>?_)
 ·
  have h1':=j8 h1
  refine m9<|k9<|r9<|k9 ?_
  refine tY ?_
  refine dT 0 rfl (pF 1) ?_
  refine dT 1 rfl pL ?_
  refine dT 2 rfl pM ?_
  obtain⟨z2,hz3,b4⟩:=t9 (xs:=fs) (n:=(m:Int)) (by omega) (by omega)
  refine dT 3 rfl (w8 (by kernel_rfl) rfl rfl b4 hz3) ?_
  refine dT 4 rfl (p6 (n:=2) (by kernel_rfl) (by kernel_rfl) rfl rfl) ?_
  refine dT 5 rfl (pC 2) ?_
  refine dO 6 rfl (n9 2 2 false (N9 Tryz.func37) (C5 z2.1 z2.2 r ts (by(have e1:=j6 (f:=(fun(x:Int ×(List Int))=>x.2.length)) (l:=fs) (m:=m) (by assumption);(try dsimp only at e1);omega)) (by omega)) rfl (.cons rfl (.agg (.cons .t0 (.cons .t0 .nil))) (.cons rfl (.agg (.cons .t0 (.cons .t0 .nil))) .nil)) rfl rfl rfl) ?_
  refine dT 7 rfl pB ?_
  refine dE ?_
  refine j9 rfl (fun h5=>?_) (fun h5=>?_)
  ·
   have h5':=j8 h5
   refine w9<|rM ?_
   refine rA<|c9 ?_
   refine tk Tryz.func79 (.tmp rfl .nil) ?_ <;>(try clear ih0)
   all_goals(rw [SZ i2 (by assumption) (by assumption)])
  ·
   have h5':=l8 h5
   refine m9<|i9<|l9<|rM ?_
   refine rB ?_
   refine rA<|c9 ?_
   refine n8 ?_ (ih0 (m + 1) (by(try dsimp only);omega) (by(try dsimp only);exact⟨by omega,W4 i2 (by assumption) rfl (by assumption)⟩))
   exact⟨⟨rfl,⟨rfl,⟨(i6 (s8 (by omega) (by omega))),trivial⟩⟩⟩,⟨rfl,⟨rfl,trivial⟩⟩,rfl⟩
 ·
  have h1':=l8 h1
  refine R9 rfl<|w9<|rA<|c9 ?_
  refine tk Tryz.func79 (.tmp rfl .nil) ?_ <;>(try clear ih0)
  all_goals(rw [C0 i2 (by omega)])
theorem jZ (r:Int)(ts:List Int)(hl:ts.length≤1048576):Pu Tryz.prog 70 [.agg [.t none (.v (.int .i64 r)),.t none (.sl 1 f9 ts)]] [(2,some (.row none 3 true 1 f9 ts))] 3 (.agg [.t none (.v (.int .i64 r)),.own 2]):=by
 refine u6 Tryz.func70 fun w S=>?_
 refine w9 ?_
 refine d9 (X9 0 rfl rfl rfl rfl) ?_
 refine d9 (I9 1 (zs:=[.int .i64 0,.slice none 0 0]) rfl rfl (by kernel_rfl) rfl) ?_
 refine c9<|k9 ?_
 refine tD (fun i=>!(Nat.beq i 5||Nat.beq i 7)) ?_
 refine dT 3 rfl (pF 1) ?_
 refine dT 4 rfl pL ?_
 refine O8 0 2 rfl rfl (by kernel_rfl) rfl rfl (oF 0) (C7 2 (e:=3) (sz:=1) (zs:=[.int .i64 0]) f9 rfl rfl (by kernel_rfl) rfl) ?_ ?_
 ·
  refine O8 1 2 rfl rfl (by kernel_rfl) rfl rfl oL (C7 2 (e:=3) (sz:=1) (zs:=[.int .i64 0]) f9 rfl rfl (by kernel_rfl) rfl) ?_ ?_
  ·
   refine dO 2 rfl (C7 2 (e:=3) (sz:=1) (zs:=[.int .i64 0]) f9 rfl rfl (by kernel_rfl) rfl) ?_
   refine dO 5 rfl (a7 2 (e:=3) (sz:=1) (by':=8) rfl (by kernel_rfl) rfl rfl rfl rfl (fun _ _=>⟨_,rfl⟩) (by(simp;omega)) (by(simp;omega))) ?_
   refine dT 6 rfl (pX [(0,1),(1,1)] [.int .i64 0,.slice none 0 0]) ?_
   refine dO 7 rfl (oS 2) ?_
   refine dE ?_
   refine tk Tryz.func70 (r8 2 .nil) ?_ (hL:=⟨E7 ?_,trivial⟩)
   all_goals rfl
  ·
   refine O8 1 5 rfl rfl (by kernel_rfl) rfl rfl oL (a7 2 (e:=3) (sz:=1) (by':=8) rfl (by kernel_rfl) rfl rfl rfl rfl (fun _ _=>⟨_,rfl⟩) (by(simp;omega)) (by(simp;omega))) ?_ ?_
   ·
    refine dO 5 rfl (a7 2 (e:=3) (sz:=1) (by':=8) rfl (by kernel_rfl) rfl rfl rfl rfl (fun _ _=>⟨_,rfl⟩) (by(simp;omega)) (by(simp;omega))) ?_
    refine dT 6 rfl (pX [(0,1),(1,1)] [.int .i64 0,.slice none 0 0]) ?_
    refine dO 7 rfl (oS 2) ?_
    refine dE ?_
    refine tk Tryz.func70 (r8 2 .nil) ?_ (hL:=⟨E7 ?_,trivial⟩)
    all_goals rfl
   ·
    refine dT 1 rfl pL ?_
    refine dT 6 rfl (pX [(0,1),(1,1)] [.int .i64 0,.slice none 0 0]) ?_
    refine dO 7 rfl (oS 2) ?_
    refine dE ?_
    refine tk Tryz.func70 (r8 2 .nil) ?_ (hL:=⟨E7 ?_,trivial⟩)
    all_goals rfl
 ·
  refine O8 0 5 rfl rfl (by kernel_rfl) rfl rfl (oF 0) (a7 2 (e:=3) (sz:=1) (by':=8) rfl (by kernel_rfl) rfl rfl rfl rfl (fun _ _=>⟨_,rfl⟩) (by(simp;omega)) (by(simp;omega))) ?_ ?_
  ·
   refine O8 1 5 rfl rfl (by kernel_rfl) rfl rfl oL (a7 2 (e:=3) (sz:=1) (by':=8) rfl (by kernel_rfl) rfl rfl rfl rfl (fun _ _=>⟨_,rfl⟩) (by(simp;omega)) (by(simp;omega))) ?_ ?_
   ·
    refine dO 5 rfl (a7 2 (e:=3) (sz:=1) (by':=8) rfl (by kernel_rfl) rfl rfl rfl rfl (fun _ _=>⟨_,rfl⟩) (by(simp;omega)) (by(simp;omega))) ?_
    refine dT 6 rfl (pX [(0,1),(1,1)] [.int .i64 0,.slice none 0 0]) ?_
    refine dO 7 rfl (oS 2) ?_
    refine dE ?_
    refine tk Tryz.func70 (r8 2 .nil) ?_ (hL:=⟨E7 ?_,trivial⟩)
    all_goals rfl
   ·
    refine dT 1 rfl pL ?_
    refine dT 6 rfl (pX [(0,1),(1,1)] [.int .i64 0,.slice none 0 0]) ?_
    refine dO 7 rfl (oS 2) ?_
    refine dE ?_
    refine tk Tryz.func70 (r8 2 .nil) ?_ (hL:=⟨E7 ?_,trivial⟩)
    all_goals rfl
  ·
   refine dT 0 rfl (pF 0) ?_
   refine dT 1 rfl pL ?_
   refine dT 6 rfl (pX [(0,1),(1,1)] [.int .i64 0,.slice none 0 0]) ?_
   refine dO 7 rfl (oS 2) ?_
   refine dE ?_
   refine tk Tryz.func70 (r8 2 .nil) ?_ (hL:=⟨E7 ?_,trivial⟩)
   all_goals rfl
theorem U7 (rs:V9)(fs:p9)(r:Int)(ts:List Int)(hfs:l7 (fun(x:Int ×(List Int))=>x.2.length) fs≤1048576)(hts:ts.length≤1048576):Pu Tryz.prog 35 [.agg [.t none (.sl 3 (d8 Z9 f9 a8) rs),.t none (.sl 2 (E9 f9 (B9 1 f9)) fs)],.agg [.t none (.v (.int .i64 r)),.t none (.sl 1 f9 ts)]] [] 0 (.agg [.t none (.sl 3 (d8 Z9 f9 a8) rs),.t none (.sl 2 (E9 f9 (B9 1 f9)) (c4 fs (r,ts)))]):=by
 refine u6 Tryz.func35 fun w S=>?_
 have gl:=L8 (f:=(fun(x:Int ×(List Int))=>x.2.length)) (l:=fs)
 refine w9 ?_
 refine d9 (X9 0 rfl rfl rfl rfl) ?_
 refine d9 (X9 1 rfl rfl rfl rfl) ?_
 refine d9 (I9 2 (zs:=[.slice none 0 0,.slice none 0 0]) rfl rfl (by kernel_rfl) rfl) ?_
 refine c9<|k9<|w9<|rC 2 ?_
 refine rC 2 ?_
 refine d9 (n9 3 3 false (N9 Tryz.func79) (IY rs fs r ts (by omega) (by omega)) rfl (.cons rfl (.agg (.cons .t0 (.cons .t0 .nil))) (.cons rfl (.agg (.cons .t0 (.cons .t0 .nil))) .nil)) rfl rfl rfl) ?_
 refine rB<|c9 ?_
 refine j9 rfl (fun h1=>?_) (fun h1=>?_)
 ·
  have h1':=j8 h1
  refine w9<|rC 2 ?_
  refine rS 2<|c9 ?_
  refine tk Tryz.func35 (r8 2 .nil) ?_ <;>(try clear ih0)
  all_goals(refine GW ?_ ?_ <;> first | rfl | exact(DP (by assumption)).symm)
 ·
  have h1':=l8 h1
  refine m9<|w9<|rA<|c9<|k9<|r9 ?_
  refine L9 (fun m=>⟨[(2,some (.c (.ptr 0 0))),(3,some (.c (.ptr 1 0))),(4,some (.c (.ptr 2 0))),(5,some (.c (.t none (.v (.int .i64 ((m:Int)))))))],[(0,some (.box [.t none (.sl 3 (d8 Z9 f9 a8) rs),.t none (.sl 2 (E9 f9 (B9 1 f9)) fs)])),(1,some (.box [.t none (.v (.int .i64 r)),.t none (.sl 1 f9 ts)])),(2,some (.box [.t none (.v (.slice none 0 0)),.t none (.v (.slice none 0 0))]))],3⟩:Nat→St) (fun m=>m≤fs.length∧∀j y,j < m→fs[j]? =some y→S8 y (r,ts) < 0) (fun m=>fs.length - m) 0 ⟨⟨rfl,⟨rfl,⟨rfl,⟨rfl,trivial⟩⟩⟩⟩,⟨rfl,⟨rfl,⟨rfl,trivial⟩⟩⟩,rfl⟩ (by exact⟨Nat.zero_le _,fun j y h=>by omega⟩) ?_
  rintro m hI ih0
  try dsimp only at hI ih0
  obtain⟨i1,i2⟩:=hI
  refine k9<|k9 ?_
  refine tY ?_
  refine dT 0 rfl pM ?_
  refine dT 1 rfl (pF 1) ?_
  refine dT 2 rfl pL ?_
  refine dT 3 rfl (BZ rfl rfl) ?_
  refine dT 4 rfl pB ?_
  refine dT 5 rfl pM ?_
  refine dH 6 rfl (fun _=>pF 1) (fun g2=>?_) (fun g2=>?_)
  ·
   have g2':=j8 g2
   refine dH 7 rfl (fun _=>pL) (fun _=>?_) (nc g2)
   refine dH 8 rfl (fun _=>pM) (fun _=>?_) (nc g2)
   obtain⟨z3,hz4,b5⟩:=t9 (xs:=fs) (n:=(m:Int)) (by omega) (by omega)
   refine dH 9 rfl (fun _=>w8 (by kernel_rfl) rfl rfl b5 hz4) (fun _=>?_) (nc g2)
   refine dH 10 rfl (fun _=>p6 (n:=2) (by kernel_rfl) (by kernel_rfl) rfl rfl) (fun _=>?_) (nc g2)
   refine dH 11 rfl (fun _=>pC 2) (fun _=>?_) (nc g2)
   refine s6 12 rfl rfl (by kernel_rfl) rfl rfl rfl (fun _=>(n9 3 3 false (N9 Tryz.func37) (C5 z3.1 z3.2 r ts (by(have e1:=j6 (f:=(fun(x:Int ×(List Int))=>x.2.length)) (l:=fs) (m:=m) (by assumption);(try dsimp only at e1);omega)) (by omega)) rfl (.cons rfl (.agg (.cons .t0 (.cons .t0 .nil))) (.cons rfl (.agg (.cons .t0 (.cons .t0 .nil))) .nil)) rfl rfl rfl)) (fun _=>?_) (nc g2)
   refine dH 13 rfl (fun _=>pB) (fun _=>?_) (nc g2)
   refine dT 14 rfl (H8 rfl g2 rfl) ?_
   refine dE ?_
   refine j9 rfl (fun h6=>?_) (fun h6=>?_)
   ·
    have h6':=j8 h6
    refine m9<|r9<|l9<|rM ?_
    refine rB ?_
    refine rA<|c9<|i9 ?_
    refine n8 ?_ (ih0 (m + 1) (by(try dsimp only);omega) (by(try dsimp only);exact⟨by omega,zK i2 hz4 rfl (by assumption)⟩))
    exact⟨⟨rfl,⟨rfl,⟨rfl,⟨(i6 (s8 (by omega) (by omega))),trivial⟩⟩⟩⟩,⟨rfl,⟨rfl,⟨rfl,trivial⟩⟩⟩,rfl⟩
   ·
    have h6':=l8 h6
    refine R9 rfl<|k9 ?_
    refine tD (fun i=>!(Nat.beq i 7)) ?_
    refine dT 0 rfl (pC 2) ?_
    refine dT 3 rfl (pF 1) ?_
    refine dT 4 rfl pL ?_
    refine dT 5 rfl pM ?_
    refine dT 6 rfl (kP (by kernel_rfl) rfl (.l rfl (by omega) (by omega))) ?_
    refine dO 1 rfl (n9 3 6 false (N9 Tryz.func70) (jZ r ts (by omega)) rfl (.cons rfl (.agg (.cons .t0 (.cons .t0 .nil))) .nil) rfl rfl rfl) ?_
    refine dO 2 rfl (i7 6 (e:=57) (sz:=2) (zs:=[.int .i64 0,.slice none 0 0]) (enc:=(E9 f9 (B9 1 f9))) [(r,ts)] rfl rfl (by kernel_rfl) rfl rfl rfl rfl rfl rfl rfl rfl (.cons .sc (.take (.own rfl) rfl .nil)) rfl) ?_
    refine uV 6 rfl (K9 rfl) ?_
    refine dO 7 rfl (X7 6 (e:=57) (sz:=2) (by':=32) rfl (by kernel_rfl) rfl rfl rfl rfl (by(simp only [List.length_append,List.length_take,List.length_drop,List.length_cons,List.length_nil];omega)) (by(simp only [List.length_append,List.length_take,List.length_drop,List.length_cons,List.length_nil];omega))) ?_
    refine dT 8 rfl pA ?_
    refine dE ?_
    refine k9 ?_
    refine tD (fun i=>!(Nat.beq i 7||Nat.beq i 9||Nat.beq i 11)) ?_
    refine y7 0 rfl rfl (by kernel_rfl) (by kernel_rfl) (by kernel_rfl) (W7 (off:=0) (by kernel_rfl) rfl) ?_
    refine dT 3 rfl (pF 1) ?_
    refine dT 4 rfl pL ?_
    refine dT 5 rfl pM ?_
    refine dT 6 rfl (kP (by kernel_rfl) rfl (.h rfl (by omega) (by omega))) ?_
    refine y7 8 rfl rfl (by kernel_rfl) (by kernel_rfl) (by kernel_rfl) (V4 rfl) ?_
    refine O8 1 2 rfl rfl (by kernel_rfl) rfl rfl oL (C7 7 (e:=57) (sz:=2) (zs:=[.int .i64 0,.slice none 0 0]) (E9 f9 (B9 1 f9)) rfl rfl (by kernel_rfl) rfl) ?_ ?_
    ·
     refine dO 2 rfl (C7 7 (e:=57) (sz:=2) (zs:=[.int .i64 0,.slice none 0 0]) (E9 f9 (B9 1 f9)) rfl rfl (by kernel_rfl) rfl) ?_
     refine uV 7 rfl (K9 rfl) ?_
     refine dO 7 rfl (X7 7 (e:=57) (sz:=2) (by':=32) rfl (by kernel_rfl) rfl rfl rfl rfl (by(simp only [List.length_append,List.length_take,List.length_drop,List.length_cons,List.length_nil];omega)) (by(simp only [List.length_append,List.length_take,List.length_drop,List.length_cons,List.length_nil];omega))) ?_
     refine c6 6 rfl (K9 rfl) ?_
     refine dO 9 rfl (X7 7 (e:=57) (sz:=2) (by':=32) rfl (by kernel_rfl) rfl rfl rfl rfl (by(simp only [List.length_append,List.length_take,List.length_drop,List.length_cons,List.length_nil];omega)) (by(simp only [List.length_append,List.length_take,List.length_drop,List.length_cons,List.length_nil];omega))) ?_
     refine dT 10 rfl (pX [(0,1),(1,1)] [.slice none 0 0,.slice none 0 0]) ?_
     refine dO 11 rfl (oS 2) ?_
     refine dE ?_
     refine o9 7 rfl (K9 rfl) ?_
     refine tk Tryz.func35 (r8 2 .nil) ?_ <;>(try clear ih0)
     all_goals(refine GW ?_ ?_ <;> first | rfl | (rw [W2 (m:=m) (by assumption) i2 i1 (fun y hy=>by(have e7:=Option.some.inj (hy.symm.trans hz4);subst e7;assumption))];simp))
    ·
     refine uV 7 rfl (K9 rfl) ?_
     refine O8 1 7 rfl rfl (by kernel_rfl) rfl rfl oL (X7 7 (e:=57) (sz:=2) (by':=32) rfl (by kernel_rfl) rfl rfl rfl rfl (by(simp only [List.length_append,List.length_take,List.length_drop,List.length_cons,List.length_nil];omega)) (by(simp only [List.length_append,List.length_take,List.length_drop,List.length_cons,List.length_nil];omega))) ?_ ?_
     ·
      refine dO 7 rfl (X7 7 (e:=57) (sz:=2) (by':=32) rfl (by kernel_rfl) rfl rfl rfl rfl (by(simp only [List.length_append,List.length_take,List.length_drop,List.length_cons,List.length_nil];omega)) (by(simp only [List.length_append,List.length_take,List.length_drop,List.length_cons,List.length_nil];omega))) ?_
      refine c6 6 rfl (K9 rfl) ?_
      refine dO 9 rfl (X7 7 (e:=57) (sz:=2) (by':=32) rfl (by kernel_rfl) rfl rfl rfl rfl (by(simp only [List.length_append,List.length_take,List.length_drop,List.length_cons,List.length_nil];omega)) (by(simp only [List.length_append,List.length_take,List.length_drop,List.length_cons,List.length_nil];omega))) ?_
      refine dT 10 rfl (pX [(0,1),(1,1)] [.slice none 0 0,.slice none 0 0]) ?_
      refine dO 11 rfl (oS 2) ?_
      refine dE ?_
      refine o9 7 rfl (K9 rfl) ?_
      refine tk Tryz.func35 (r8 2 .nil) ?_ <;>(try clear ih0)
      all_goals(refine GW ?_ ?_ <;> first | rfl | (rw [W2 (m:=m) (by assumption) i2 i1 (fun y hy=>by(have e7:=Option.some.inj (hy.symm.trans hz4);subst e7;assumption))];simp))
     ·
      refine c6 6 rfl (K9 rfl) ?_
      refine O8 1 9 rfl rfl (by kernel_rfl) rfl rfl oL (X7 7 (e:=57) (sz:=2) (by':=32) rfl (by kernel_rfl) rfl rfl rfl rfl (by(simp only [List.length_append,List.length_take,List.length_drop,List.length_cons,List.length_nil];omega)) (by(simp only [List.length_append,List.length_take,List.length_drop,List.length_cons,List.length_nil];omega))) ?_ ?_
      ·
       refine dO 9 rfl (X7 7 (e:=57) (sz:=2) (by':=32) rfl (by kernel_rfl) rfl rfl rfl rfl (by(simp only [List.length_append,List.length_take,List.length_drop,List.length_cons,List.length_nil];omega)) (by(simp only [List.length_append,List.length_take,List.length_drop,List.length_cons,List.length_nil];omega))) ?_
       refine dT 10 rfl (pX [(0,1),(1,1)] [.slice none 0 0,.slice none 0 0]) ?_
       refine dO 11 rfl (oS 2) ?_
       refine dE ?_
       refine o9 7 rfl (K9 rfl) ?_
       refine tk Tryz.func35 (r8 2 .nil) ?_ <;>(try clear ih0)
       all_goals(refine GW ?_ ?_ <;> first | rfl | (rw [W2 (m:=m) (by assumption) i2 i1 (fun y hy=>by(have e7:=Option.some.inj (hy.symm.trans hz4);subst e7;assumption))];simp))
      ·
       refine dT 1 rfl pL ?_
       refine dT 10 rfl (pX [(0,1),(1,1)] [.slice none 0 0,.slice none 0 0]) ?_
       refine dO 11 rfl (oS 2) ?_
       refine dE ?_
       refine o9 7 rfl (K9 rfl) ?_
       refine tk Tryz.func35 (r8 2 .nil) ?_ <;>(try clear ih0)
       all_goals(refine GW ?_ ?_ <;> first | rfl | (rw [W2 (m:=m) (by assumption) i2 i1 (fun y hy=>by(have e7:=Option.some.inj (hy.symm.trans hz4);subst e7;assumption))];simp))
  ·
   have g2':=l8 g2
   refine dG 7 (C9 g2) (fun _=>?_)
   refine dG 8 (C9 g2) (fun _=>?_)
   refine dG 9 (C9 g2) (fun _=>?_)
   refine dG 10 (C9 g2) (fun _=>?_)
   refine dG 11 (C9 g2) (fun _=>?_)
   refine dG 12 (C9 g2) (fun _=>?_)
   refine dG 13 (C9 g2) (fun _=>?_)
   refine dT 14 rfl (o8 rfl g2 rfl) ?_
   refine dE ?_
   refine j9 rfl (C9 rfl) (fun _=>?_)
   refine R9 rfl<|k9 ?_
   refine tD (fun i=>!(Nat.beq i 7)) ?_
   refine dT 0 rfl (pC 2) ?_
   refine dT 3 rfl (pF 1) ?_
   refine dT 4 rfl pL ?_
   refine dT 5 rfl pM ?_
   refine dT 6 rfl (kP (by kernel_rfl) rfl (.l rfl (by omega) (by omega))) ?_
   refine dO 1 rfl (n9 3 6 false (N9 Tryz.func70) (jZ r ts (by omega)) rfl (.cons rfl (.agg (.cons .t0 (.cons .t0 .nil))) .nil) rfl rfl rfl) ?_
   refine dO 2 rfl (i7 6 (e:=57) (sz:=2) (zs:=[.int .i64 0,.slice none 0 0]) (enc:=(E9 f9 (B9 1 f9))) [(r,ts)] rfl rfl (by kernel_rfl) rfl rfl rfl rfl rfl rfl rfl rfl (.cons .sc (.take (.own rfl) rfl .nil)) rfl) ?_
   refine uV 6 rfl (K9 rfl) ?_
   refine dO 7 rfl (X7 6 (e:=57) (sz:=2) (by':=32) rfl (by kernel_rfl) rfl rfl rfl rfl (by(simp only [List.length_append,List.length_take,List.length_drop,List.length_cons,List.length_nil];omega)) (by(simp only [List.length_append,List.length_take,List.length_drop,List.length_cons,List.length_nil];omega))) ?_
   refine dT 8 rfl pA ?_
   refine dE ?_
   refine k9 ?_
   refine tD (fun i=>!(Nat.beq i 7||Nat.beq i 9||Nat.beq i 11)) ?_
   refine y7 0 rfl rfl (by kernel_rfl) (by kernel_rfl) (by kernel_rfl) (W7 (off:=0) (by kernel_rfl) rfl) ?_
   refine dT 3 rfl (pF 1) ?_
   refine dT 4 rfl pL ?_
   refine dT 5 rfl pM ?_
   refine dT 6 rfl (kP (by kernel_rfl) rfl (.h rfl (by omega) (by omega))) ?_
   refine y7 8 rfl rfl (by kernel_rfl) (by kernel_rfl) (by kernel_rfl) (V4 rfl) ?_
   refine O8 1 2 rfl rfl (by kernel_rfl) rfl rfl oL (C7 7 (e:=57) (sz:=2) (zs:=[.int .i64 0,.slice none 0 0]) (E9 f9 (B9 1 f9)) rfl rfl (by kernel_rfl) rfl) ?_ ?_
   ·
    refine dO 2 rfl (C7 7 (e:=57) (sz:=2) (zs:=[.int .i64 0,.slice none 0 0]) (E9 f9 (B9 1 f9)) rfl rfl (by kernel_rfl) rfl) ?_
    refine uV 7 rfl (K9 rfl) ?_
    refine dO 7 rfl (X7 7 (e:=57) (sz:=2) (by':=32) rfl (by kernel_rfl) rfl rfl rfl rfl (by(simp only [List.length_append,List.length_take,List.length_drop,List.length_cons,List.length_nil];omega)) (by(simp only [List.length_append,List.length_take,List.length_drop,List.length_cons,List.length_nil];omega))) ?_
    refine c6 6 rfl (K9 rfl) ?_
    refine dO 9 rfl (X7 7 (e:=57) (sz:=2) (by':=32) rfl (by kernel_rfl) rfl rfl rfl rfl (by(simp only [List.length_append,List.length_take,List.length_drop,List.length_cons,List.length_nil];omega)) (by(simp only [List.length_append,List.length_take,List.length_drop,List.length_cons,List.length_nil];omega))) ?_
    refine dT 10 rfl (pX [(0,1),(1,1)] [.slice none 0 0,.slice none 0 0]) ?_
    refine dO 11 rfl (oS 2) ?_
    refine dE ?_
    refine o9 7 rfl (K9 rfl) ?_
    refine tk Tryz.func35 (r8 2 .nil) ?_ <;>(try clear ih0)
    all_goals(refine GW ?_ ?_ <;> first | rfl | (rw [W2 (m:=m) (by assumption) i2 i1 (fun y hy=>by(have e7:=(List.getElem?_eq_some_iff.1 hy).1;omega))];simp))
   ·
    refine uV 7 rfl (K9 rfl) ?_
    refine O8 1 7 rfl rfl (by kernel_rfl) rfl rfl oL (X7 7 (e:=57) (sz:=2) (by':=32) rfl (by kernel_rfl) rfl rfl rfl rfl (by(simp only [List.length_append,List.length_take,List.length_drop,List.length_cons,List.length_nil];omega)) (by(simp only [List.length_append,List.length_take,List.length_drop,List.length_cons,List.length_nil];omega))) ?_ ?_
    ·
     refine dO 7 rfl (X7 7 (e:=57) (sz:=2) (by':=32) rfl (by kernel_rfl) rfl rfl rfl rfl (by(simp only [List.length_append,List.length_take,List.length_drop,List.length_cons,List.length_nil];omega)) (by(simp only [List.length_append,List.length_take,List.length_drop,List.length_cons,List.length_nil];omega))) ?_
     refine c6 6 rfl (K9 rfl) ?_
     refine dO 9 rfl (X7 7 (e:=57) (sz:=2) (by':=32) rfl (by kernel_rfl) rfl rfl rfl rfl (by(simp only [List.length_append,List.length_take,List.length_drop,List.length_cons,List.length_nil];omega)) (by(simp only [List.length_append,List.length_take,List.length_drop,List.length_cons,List.length_nil];omega))) ?_
     refine dT 10 rfl (pX [(0,1),(1,1)] [.slice none 0 0,.slice none 0 0]) ?_
     refine dO 11 rfl (oS 2) ?_
     refine dE ?_
     refine o9 7 rfl (K9 rfl) ?_
     refine tk Tryz.func35 (r8 2 .nil) ?_ <;>(try clear ih0)
     all_goals(refine GW ?_ ?_ <;> first | rfl | (rw [W2 (m:=m) (by assumption) i2 i1 (fun y hy=>by(have e7:=(List.getElem?_eq_some_iff.1 hy).1;omega))];simp))
    ·
     refine c6 6 rfl (K9 rfl) ?_
     refine O8 1 9 rfl rfl (by kernel_rfl) rfl rfl oL (X7 7 (e:=57) (sz:=2) (by':=32) rfl (by kernel_rfl) rfl rfl rfl rfl (by(simp only [List.length_append,List.length_take,List.length_drop,List.length_cons,List.length_nil];omega)) (by(simp only [List.length_append,List.length_take,List.length_drop,List.length_cons,List.length_nil];omega))) ?_ ?_
     ·
      refine dO 9 rfl (X7 7 (e:=57) (sz:=2) (by':=32) rfl (by kernel_rfl) rfl rfl rfl rfl (by(simp only [List.length_append,List.length_take,List.length_drop,List.length_cons,List.length_nil];omega)) (by(simp only [List.length_append,List.length_take,List.length_drop,List.length_cons,List.length_nil];omega))) ?_
      refine dT 10 rfl (pX [(0,1),(1,1)] [.slice none 0 0,.slice none 0 0]) ?_
      refine dO 11 rfl (oS 2) ?_
      refine dE ?_
      refine o9 7 rfl (K9 rfl) ?_
      refine tk Tryz.func35 (r8 2 .nil) ?_ <;>(try clear ih0)
      all_goals(refine GW ?_ ?_ <;> first | rfl | (rw [W2 (m:=m) (by assumption) i2 i1 (fun y hy=>by(have e7:=(List.getElem?_eq_some_iff.1 hy).1;omega))];simp))
     ·
      refine dT 1 rfl pL ?_
      refine dT 10 rfl (pX [(0,1),(1,1)] [.slice none 0 0,.slice none 0 0]) ?_
      refine dO 11 rfl (oS 2) ?_
      refine dE ?_
      refine o9 7 rfl (K9 rfl) ?_
      refine tk Tryz.func35 (r8 2 .nil) ?_ <;>(try clear ih0)
      all_goals(refine GW ?_ ?_ <;> first | rfl | (rw [W2 (m:=m) (by assumption) i2 i1 (fun y hy=>by(have e7:=(List.getElem?_eq_some_iff.1 hy).1;omega))];simp))
theorem i5 (rs:V9)(fs:p9)(hrs:rs.length≤1048576)(hfs:l7 (fun(x:Int ×(List Int))=>x.2.length) fs≤1048576):Pu Tryz.prog 28 [.agg [.t none (.sl 3 (d8 Z9 f9 a8) rs),.t none (.sl 2 (E9 f9 (B9 1 f9)) fs)]] [(2,some (.row none 76 true 3 (d8 Z9 f9 a8) rs)),(4,some (.row none 57 true 2 (E9 f9 (B9 1 f9)) fs))] 5 (.agg [.own 2,.own 4]):=by
 refine u6 Tryz.func28 fun w S=>?_
 have gl:=L8 (f:=(fun(x:Int ×(List Int))=>x.2.length)) (l:=fs)
 refine w9 ?_
 refine d9 (X9 0 rfl rfl rfl rfl) ?_
 refine d9 (I9 1 (zs:=[.slice none 0 0,.slice none 0 0]) rfl rfl (by kernel_rfl) rfl) ?_
 refine o7 ?_
 refine d9 (C7 2 (e:=76) (sz:=3) (zs:=[.string (JY ([])),.int .i64 0,.bool false]) (d8 Z9 f9 a8) rfl rfl (by kernel_rfl) rfl) ?_
 refine rF 0 ?_
 refine rL ?_
 refine d9 (a7 2 (e:=76) (sz:=3) (by':=32) rfl (by kernel_rfl) rfl rfl rfl rfl (fun _ j=>by rcases j with _ | _ | j <;> exact⟨_,rfl⟩) (by(simp;omega)) (by(simp;omega))) ?_
 refine d9 (oD [(0,1),(1,1)] [.slice none 0 0,.slice none 0 0]) ?_
 refine d9 (I9 3 (zs:=[.slice none 0 0,.slice none 0 0]) rfl rfl (by kernel_rfl) rfl) ?_
 refine rS 2<|c9<|k9<|w9 ?_
 refine rA<|c9<|r9 ?_
 refine I6 4 (b:=3) (o:=1) (et:=57) (sz:=2) true (E9 f9 (B9 1 f9)) rfl rfl rfl ?_
 refine L9 (fun m=>⟨[(1,some (.c (.ptr 0 0))),(2,some (.c (.ptr 1 0))),(3,some (.c (.ptr 3 0))),(4,some (.c (.t none (.v (.int .i64 ((m:Int)))))))],[(0,some (.box [.t none (.sl 3 (d8 Z9 f9 a8) rs),.t none (.sl 2 (E9 f9 (B9 1 f9)) fs)])),(1,some (.box [.t none (.v (.slice none 0 0)),.t none (.v (.slice none 0 0))])),(2,some (.row none 76 true 3 (d8 Z9 f9 a8) ([]++rs))),(3,some (.box [.own 2,.own 4])),(4,some (.row none 57 true 2 (E9 f9 (B9 1 f9)) (fs.take m)))],5⟩:Nat→St) (fun m=>m≤fs.length) (fun m=>fs.length - m) 0 ⟨⟨rfl,⟨rfl,⟨rfl,⟨rfl,trivial⟩⟩⟩⟩,⟨rfl,⟨rfl,⟨rfl,⟨rfl,⟨rfl,trivial⟩⟩⟩⟩⟩,rfl⟩ (by exact Nat.zero_le _) ?_
 rintro m hI ih0
 try dsimp only at hI ih0
 have i1:=hI
 refine k9<|w9<|rM ?_
 refine rF 1 ?_
 refine rL ?_
 refine d9 (S9 rfl rfl rfl) ?_
 refine rB<|c9 ?_
 refine j9 rfl (fun h1=>?_) (fun h1=>?_)
 ·
  have h1':=j8 h1
  refine m9<|k9<|r9 ?_
  refine tD (fun i=>!(Nat.beq i 9||Nat.beq i 11)) ?_
  refine dT 0 rfl (pF 1) ?_
  refine dT 1 rfl pL ?_
  refine dT 2 rfl (pF 1) ?_
  refine dT 3 rfl pL ?_
  refine dT 4 rfl pM ?_
  obtain⟨z2,hz3,b4⟩:=t9 (xs:=fs) (n:=(m:Int)) (by omega) (by omega)
  refine dT 5 rfl (w8 (by kernel_rfl) rfl rfl b4 hz3) ?_
  refine dT 6 rfl (p6 (n:=2) (by kernel_rfl) (by kernel_rfl) rfl rfl) ?_
  refine dO 7 rfl (n9 5 8 false (N9 Tryz.func70) (jZ z2.1 z2.2 (by(have e1:=j6 (f:=(fun(x:Int ×(List Int))=>x.2.length)) (l:=fs) (m:=m) (by assumption);(try dsimp only at e1);omega))) rfl (.cons rfl (.agg (.cons .t0 (.cons .t0 .nil))) .nil) rfl rfl rfl) ?_
  refine dO 8 rfl (G8 8 (e:=57) (sz:=2) (zs:=[.int .i64 0,.slice none 0 0]) rfl rfl (by kernel_rfl) rfl rfl rfl rfl rfl) ?_
  refine dO 9 rfl (i8 4 (e:=57) (sz:=2) (by':=32) ((z2.1,z2.2)) rfl (by kernel_rfl) rfl rfl rfl rfl rfl rfl (.cons .sc (.take (.own rfl) rfl .nil)) rfl (by(simp;omega)) (by(simp;omega))) ?_
  refine dT 10 rfl (pF 1) ?_
  refine dO 11 rfl (oS 1) ?_
  refine dE ?_
  refine i9<|l9<|rM ?_
  refine rB ?_
  refine rA<|c9 ?_
  refine n8 ?_ (ih0 (m + 1) (by(try dsimp only);omega) (by(try dsimp only);omega))
  exact⟨⟨rfl,⟨rfl,⟨rfl,⟨(i6 (s8 (by omega) (by omega))),trivial⟩⟩⟩⟩,⟨rfl,⟨rfl,⟨rfl,⟨rfl,⟨(E7 (jS hz3)),trivial⟩⟩⟩⟩⟩,rfl⟩
 ·
  have h1':=l8 h1
  refine R9 rfl<|w9<|rC 2 ?_
  refine rS 2<|c9 ?_
  refine tk Tryz.func28 (r8 2 .nil) ?_ (hL:=⟨E7 ?_,⟨E7 ?_,trivial⟩⟩) <;>(try clear ih0)
  all_goals first | rfl | ((rw [List.take_of_length_le (by omega)]))
theorem eY (code:List Int)(i h most:Int)(hc:code.length≤1048576)(hi0:0≤i)(hi1:i≤code.length)(hm:0≤most∧most≤5):MS Tryz.prog 101 [.c (.ptr 0 0),.c (.t none (.v (.int .i64 most)))] [.t none (.sl 1 f6 code),.t none (.v (.int .i64 i)),.t none (.v (.int .i64 h))] (fun(⟨fs,i2,h2⟩:p9 × Int × Int)=>fs.length≤5∧(∀a∈fs,fY a)∧0≤i2∧i2≤code.length) (fun(⟨fs,i2,h2⟩:p9 × Int × Int)=>[.t none (.sl 1 f6 code),.t none (.v (.int .i64 i2)),.t none (.v (.int .i64 h2))]) (fun(⟨fs,i2,h2⟩:p9 × Int × Int)=>[(3,some (.row none 76 true 3 (d8 Z9 f9 a8) T8)),(4,some (.row none 57 true 2 (E9 f9 (B9 1 f9)) fs))]) 5 (fun(⟨fs,i2,h2⟩:p9 × Int × Int)=> .agg [.own 3,.own 4]):=by
 refine J7 Tryz.func101 rfl (Nat.le_of_ble_eq_true rfl) fun v0 w S M hM=>?_
 refine w9 ?_
 refine d9 (I9 1 (zs:=[.slice none 0 0,.slice none 0 0]) rfl rfl (by kernel_rfl) rfl) ?_
 refine o7 ?_
 refine d9 (n9 2 3 false (N9 Tryz.func131) (O2) rfl .nil rfl rfl rfl) ?_
 refine d9 (oD [(0,1),(1,1)] [.slice none 0 0,.slice none 0 0]) ?_
 refine d9 (I9 3 (zs:=[.slice none 0 0,.slice none 0 0]) rfl rfl (by kernel_rfl) rfl) ?_
 refine rS 2<|c9<|k9<|w9 ?_
 refine rM ?_
 refine rM ?_
 refine rB ?_
 refine p7 (s9 0 4 5 (pv:=some v0) (N9 Tryz.func19) (A9 code i h (IntKind.i64.wrap (most + 1)) (by omega) (by omega) (by omega) (by(simp only [IntKind.wrap_i64] at *;omega)) (by(simp only [IntKind.wrap_i64] at *;omega))) rfl rfl (.cur rfl (.cons rfl .nil)) rfl (fun⟨_,_,_⟩=>rfl) (fun _=>rfl) (fun⟨_,_,_⟩=>rfl) rfl rfl) ?_
 rintro⟨⟨x1,i22,h23⟩,hq4⟩
 try dsimp only at hq4
 try dsimp only
 obtain⟨q5,q6⟩:=hq4
 refine rA<|c9<|r9 ?_
 refine o9 2 rfl (W9 (i:=2) hM rfl rfl rfl) ?_
 refine zR 3 1 (sz:=2) (E9 f9 (B9 1 f9)) rfl rfl ?_
 refine L9 (fun(kk,fs,i3,h3)=>⟨[(0,some (.c (.ptr 0 0))),(4,some (.c (.ptr 1 0))),(5,some (.c (.ptr 3 0))),(6,some (.c (.t none (.v (.int .i64 kk)))))],[(0,some (.pbox v0 [.t none (.sl 1 f6 code),.t none (.v (.int .i64 i3)),.t none (.v (.int .i64 h3))])),(1,some (.box [.t none (.v (.slice none 0 0)),.t none (.v (.slice none 0 0))])),(3,some (.box [.t none (.sl 3 (d8 Z9 f9 a8) T8),.t none (.sl 2 (E9 f9 (B9 1 f9)) fs)]))],5⟩:Int × p9 × Int × Int→St) (fun(kk,fs,i3,h3)=>(0≤kk∧kk≤5)∧((fs.length:Int) + kk≤5)∧(fs.length≤5)∧(∀a∈fs,fY a)∧(0≤i3∧i3≤code.length)) (fun(kk,fs,i3,h3)=>kk.toNat) (x1,[],i22,h23) ⟨⟨rfl,⟨rfl,⟨rfl,⟨rfl,trivial⟩⟩⟩⟩,⟨rfl,⟨rfl,⟨rfl,trivial⟩⟩⟩,rfl⟩ (by exact⟨(by(try dsimp only);((try simp only [IntKind.wrap_i64] at *);omega)),(by(try dsimp only);(try simp only [List.length_nil]);((try simp only [IntKind.wrap_i64] at *);omega)),(by simp),(fun a ha=>by simp at ha),(by(try dsimp only);omega)⟩) ?_
 rintro⟨kk,fs,i3,h3⟩ hI ih0
 try dsimp only at hI ih0
 obtain⟨b1,b2,b3,b4,b5⟩:=hI
 refine k9<|w9<|rM ?_
 refine rB<|c9 ?_
 refine j9 rfl (fun h7=>?_) (fun h7=>?_)
 ·
  have h7':=j8 h7
  refine m9<|k9<|r9 ?_
  refine tD (fun i=>!(Nat.beq i 3||Nat.beq i 4||Nat.beq i 6)) ?_
  refine y7 1 rfl rfl (by kernel_rfl) (by kernel_rfl) (by kernel_rfl) (V4 rfl) ?_
  refine dT 2 rfl pM ?_
  refine d7 0 3 rfl rfl (by kernel_rfl) rfl rfl (V0 (oC 2)) (s9 0 5 6 (pv:=some v0) (N9 Tryz.func19) (A9 code i3 h3 2 (by omega) (by omega) (by omega) (by omega) (by omega)) rfl rfl (.cur rfl (.cons rfl .nil)) rfl (fun⟨_,_,_⟩=>rfl) (fun _=>rfl) (fun⟨_,_,_⟩=>rfl) rfl rfl) ?_ ?_
  ·
   rintro⟨⟩
   refine lZ 3 rfl (s9 0 5 6 (pv:=some v0) (N9 Tryz.func19) (A9 code i3 h3 2 (by omega) (by omega) (by omega) (by omega) (by omega)) rfl rfl (.cur rfl (.cons rfl .nil)) rfl (fun⟨_,_,_⟩=>rfl) (fun _=>rfl) (fun⟨_,_,_⟩=>rfl) rfl rfl) ?_
   rintro⟨⟨x14,i215,h216⟩,hq17⟩
   try dsimp only at hq17
   try dsimp only
   obtain⟨q18,q19⟩:=hq17
   refine lZ 4 rfl (s9 0 6 11 (pv:=some v0) (N9 Tryz.func132) (o5 code i215 h216 x14 0 (by omega) (by omega) (by omega) (by omega) (by omega)) rfl rfl (.cur rfl (.cons rfl (.cons rfl .nil))) rfl (fun⟨_,_,_⟩=>rfl) (fun _=>rfl) (fun⟨_,_,_⟩=>rfl) rfl rfl) ?_
   rintro⟨⟨ts20,i221,h222⟩,hq23⟩
   try dsimp only at hq23
   try dsimp only
   obtain⟨q24,q25,q26⟩:=hq23
   have t1:1≤ts20.length∧ts20.length≤2:=(by assumption);have t2:∀x∈ts20, -256≤x∧x≤2:=(by assumption);have t3:∀x∈ts20, -256≤x∧x≤256:=fun x hx=>by have:=t2 x hx;omega
   refine c6 10 rfl (W9 (i:=10) hM rfl rfl rfl) ?_
   refine dO 5 rfl (n9 11 11 true (N9 Tryz.func35) (U7 T8 fs x14 ts20 (by(have e7:=L0 b4;omega)) (by omega)) rfl (.cons rfl (.agg (.cons .t0 (.cons .t0 .nil))) (.cons rfl (.agg (.cons .t0 (.cons .t0 .nil))) .nil)) rfl rfl rfl) ?_
   refine dO 6 rfl (oS 2) ?_
   refine dE ?_
   refine i9<|l9<|rM ?_
   refine rB ?_
   refine rA<|c9 ?_
   refine n8 ?_ (ih0 (IntKind.i64.wrap (kk - 1),c4 fs (x14,ts20),i221,h222) (by(try dsimp only);((try simp only [IntKind.wrap_i64] at *);omega)) (by(try dsimp only);exact⟨(by((try simp only [IntKind.wrap_i64] at *);omega)),nX b2 (by((try simp only [IntKind.wrap_i64] at *);omega)),SW b2 (by omega),T2 b4 ⟨by(try dsimp only);((try simp only [IntKind.wrap_i64] at *);omega),by(try dsimp only);omega,t3⟩,by omega⟩))
   exact⟨⟨rfl,⟨rfl,⟨rfl,⟨rfl,trivial⟩⟩⟩⟩,⟨rfl,⟨rfl,⟨rfl,trivial⟩⟩⟩,rfl⟩
  ·
   rintro⟨⟨x8,i29,h210⟩,hq11⟩
   try dsimp only at hq11
   try dsimp only
   obtain⟨q12,q13⟩:=hq11
   refine d7 0 4 rfl rfl (by kernel_rfl) rfl rfl (V0 (oC 2)) (s9 0 6 11 (pv:=some v0) (N9 Tryz.func132) (o5 code i29 h210 x8 0 (by omega) (by omega) (by omega) (by omega) (by omega)) rfl rfl (.cur rfl (.cons rfl (.cons rfl .nil))) rfl (fun⟨_,_,_⟩=>rfl) (fun _=>rfl) (fun⟨_,_,_⟩=>rfl) rfl rfl) ?_ ?_
   ·
    rintro⟨⟩
    refine lZ 4 rfl (s9 0 6 11 (pv:=some v0) (N9 Tryz.func132) (o5 code i29 h210 x8 0 (by omega) (by omega) (by omega) (by omega) (by omega)) rfl rfl (.cur rfl (.cons rfl (.cons rfl .nil))) rfl (fun⟨_,_,_⟩=>rfl) (fun _=>rfl) (fun⟨_,_,_⟩=>rfl) rfl rfl) ?_
    rintro⟨⟨ts34,i235,h236⟩,hq37⟩
    try dsimp only at hq37
    try dsimp only
    obtain⟨q38,q39,q40⟩:=hq37
    have t1:1≤ts34.length∧ts34.length≤2:=(by assumption);have t2:∀x∈ts34, -256≤x∧x≤2:=(by assumption);have t3:∀x∈ts34, -256≤x∧x≤256:=fun x hx=>by have:=t2 x hx;omega
    refine c6 10 rfl (W9 (i:=10) hM rfl rfl rfl) ?_
    refine dO 5 rfl (n9 11 11 true (N9 Tryz.func35) (U7 T8 fs x8 ts34 (by(have e7:=L0 b4;omega)) (by omega)) rfl (.cons rfl (.agg (.cons .t0 (.cons .t0 .nil))) (.cons rfl (.agg (.cons .t0 (.cons .t0 .nil))) .nil)) rfl rfl rfl) ?_
    refine dO 6 rfl (oS 2) ?_
    refine dE ?_
    refine i9<|l9<|rM ?_
    refine rB ?_
    refine rA<|c9 ?_
    refine n8 ?_ (ih0 (IntKind.i64.wrap (kk - 1),c4 fs (x8,ts34),i235,h236) (by(try dsimp only);((try simp only [IntKind.wrap_i64] at *);omega)) (by(try dsimp only);exact⟨(by((try simp only [IntKind.wrap_i64] at *);omega)),nX b2 (by((try simp only [IntKind.wrap_i64] at *);omega)),SW b2 (by omega),T2 b4 ⟨by(try dsimp only);((try simp only [IntKind.wrap_i64] at *);omega),by(try dsimp only);omega,t3⟩,by omega⟩))
    exact⟨⟨rfl,⟨rfl,⟨rfl,⟨rfl,trivial⟩⟩⟩⟩,⟨rfl,⟨rfl,⟨rfl,trivial⟩⟩⟩,rfl⟩
   ·
    rintro⟨⟨ts27,i228,h229⟩,hq30⟩
    try dsimp only at hq30
    try dsimp only
    obtain⟨q31,q32,q33⟩:=hq30
    have t1:1≤ts27.length∧ts27.length≤2:=(by assumption);have t2:∀x∈ts27, -256≤x∧x≤2:=(by assumption);have t3:∀x∈ts27, -256≤x∧x≤256:=fun x hx=>by have:=t2 x hx;omega
    refine dT 0 rfl (pC 2) ?_
    refine c6 10 rfl (W9 (i:=10) hM rfl rfl rfl) ?_
    refine dO 5 rfl (n9 11 11 true (N9 Tryz.func35) (U7 T8 fs x8 ts27 (by(have e7:=L0 b4;omega)) (by omega)) rfl (.cons rfl (.agg (.cons .t0 (.cons .t0 .nil))) (.cons rfl (.agg (.cons .t0 (.cons .t0 .nil))) .nil)) rfl rfl rfl) ?_
    refine dO 6 rfl (oS 2) ?_
    refine dE ?_
    refine i9<|l9<|rM ?_
    refine rB ?_
    refine rA<|c9 ?_
    refine n8 ?_ (ih0 (IntKind.i64.wrap (kk - 1),c4 fs (x8,ts27),i228,h229) (by(try dsimp only);((try simp only [IntKind.wrap_i64] at *);omega)) (by(try dsimp only);exact⟨(by((try simp only [IntKind.wrap_i64] at *);omega)),nX b2 (by((try simp only [IntKind.wrap_i64] at *);omega)),SW b2 (by omega),T2 b4 ⟨by(try dsimp only);((try simp only [IntKind.wrap_i64] at *);omega),by(try dsimp only);omega,t3⟩,by omega⟩))
    exact⟨⟨rfl,⟨rfl,⟨rfl,⟨rfl,trivial⟩⟩⟩⟩,⟨rfl,⟨rfl,⟨rfl,trivial⟩⟩⟩,rfl⟩
 ·
  have h7':=l8 h7
  refine R9 rfl<|w9<|rC 2 ?_
  refine d9 (n9 5 10 false (N9 Tryz.func28) (i5 T8 fs (by(rw [u7];omega)) (by(have e7:=L0 b4;omega))) rfl (.cons rfl (.agg (.cons .t0 (.cons .t0 .nil))) .nil) rfl rfl rfl) ?_
  refine rS 2<|c9 ?_
  refine T7 3 7 rfl rfl rfl ?_
  refine T7 4 9 rfl rfl rfl ?_
  refine w7 Tryz.func101 (r8 2 .nil) (⟨fs,i3,h3⟩) ?_ ?_ (hL:=⟨rfl,⟨rfl,⟨rfl,trivial⟩⟩⟩) <;>(try clear ih0)
  ·(try dsimp only) <;>(exact⟨by omega,b4,by omega⟩)
  ·rfl
theorem dY (code:List Int)(i h most n:Int)(hc:code.length≤1048576)(hi0:0≤i)(hi1:i≤code.length)(hm:0≤most∧most≤5)(hn:0≤n∧n≤256):MS Tryz.prog 102 [.c (.ptr 0 0),.c (.t none (.v (.int .i64 most))),.c (.t none (.v (.int .i64 n)))] [.t none (.sl 1 f6 code),.t none (.v (.int .i64 i)),.t none (.v (.int .i64 h))] (fun(⟨fs,i2,h2⟩:p9 × Int × Int)=>fs.length≤5∧(∀a∈fs,fY a)∧0≤i2∧i2≤code.length) (fun(⟨fs,i2,h2⟩:p9 × Int × Int)=>[.t none (.sl 1 f6 code),.t none (.v (.int .i64 i2)),.t none (.v (.int .i64 h2))]) (fun(⟨fs,i2,h2⟩:p9 × Int × Int)=>[(3,some (.row none 76 true 3 (d8 Z9 f9 a8) T8)),(4,some (.row none 57 true 2 (E9 f9 (B9 1 f9)) fs))]) 5 (fun(⟨fs,i2,h2⟩:p9 × Int × Int)=> .agg [.own 3,.own 4]):=by
 refine J7 Tryz.func102 rfl (Nat.le_of_ble_eq_true rfl) fun v0 w S M hM=>?_
 refine w9 ?_
 refine d9 (I9 1 (zs:=[.slice none 0 0,.slice none 0 0]) rfl rfl (by kernel_rfl) rfl) ?_
 refine o7 ?_
 refine d9 (n9 2 3 false (N9 Tryz.func131) (O2) rfl .nil rfl rfl rfl) ?_
 refine d9 (oD [(0,1),(1,1)] [.slice none 0 0,.slice none 0 0]) ?_
 refine d9 (I9 3 (zs:=[.slice none 0 0,.slice none 0 0]) rfl rfl (by kernel_rfl) rfl) ?_
 refine rS 2<|c9<|k9<|w9 ?_
 refine rM ?_
 refine rM ?_
 refine rB ?_
 refine p7 (s9 0 4 5 (pv:=some v0) (N9 Tryz.func19) (A9 code i h (IntKind.i64.wrap (most + 1)) (by omega) (by omega) (by omega) (by(simp only [IntKind.wrap_i64] at *;omega)) (by(simp only [IntKind.wrap_i64] at *;omega))) rfl rfl (.cur rfl (.cons rfl .nil)) rfl (fun⟨_,_,_⟩=>rfl) (fun _=>rfl) (fun⟨_,_,_⟩=>rfl) rfl rfl) ?_
 rintro⟨⟨x1,i22,h23⟩,hq4⟩
 try dsimp only at hq4
 try dsimp only
 obtain⟨q5,q6⟩:=hq4
 refine rA<|c9<|r9 ?_
 refine o9 2 rfl (W9 (i:=2) hM rfl rfl rfl) ?_
 refine zR 3 1 (sz:=2) (E9 f9 (B9 1 f9)) rfl rfl ?_
 refine L9 (fun(kk,fs,i3,h3)=>⟨[(0,some (.c (.ptr 0 0))),(2,some (.c (.t none (.v (.int .i64 n))))),(6,some (.c (.ptr 1 0))),(7,some (.c (.ptr 3 0))),(8,some (.c (.t none (.v (.int .i64 kk)))))],[(0,some (.pbox v0 [.t none (.sl 1 f6 code),.t none (.v (.int .i64 i3)),.t none (.v (.int .i64 h3))])),(1,some (.box [.t none (.v (.slice none 0 0)),.t none (.v (.slice none 0 0))])),(3,some (.box [.t none (.sl 3 (d8 Z9 f9 a8) T8),.t none (.sl 2 (E9 f9 (B9 1 f9)) fs)]))],5⟩:Int × p9 × Int × Int→St) (fun(kk,fs,i3,h3)=>(0≤kk∧kk≤5)∧((fs.length:Int) + kk≤5)∧(fs.length≤5)∧(∀a∈fs,fY a)∧(0≤i3∧i3≤code.length)) (fun(kk,fs,i3,h3)=>kk.toNat) (x1,[],i22,h23) ⟨⟨rfl,⟨rfl,⟨rfl,⟨rfl,⟨rfl,trivial⟩⟩⟩⟩⟩,⟨rfl,⟨rfl,⟨rfl,trivial⟩⟩⟩,rfl⟩ (by exact⟨(by(try dsimp only);((try simp only [IntKind.wrap_i64] at *);omega)),(by(try dsimp only);(try simp only [List.length_nil]);((try simp only [IntKind.wrap_i64] at *);omega)),(by simp),(fun a ha=>by simp at ha),(by(try dsimp only);omega)⟩) ?_
 rintro⟨kk,fs,i3,h3⟩ hI ih0
 try dsimp only at hI ih0
 obtain⟨b1,b2,b3,b4,b5⟩:=hI
 refine k9<|w9<|rM ?_
 refine rB<|c9 ?_
 refine j9 rfl (fun h7=>?_) (fun h7=>?_)
 ·
  have h7':=j8 h7
  refine m9<|k9<|r9 ?_
  refine tD (fun i=>!(Nat.beq i 3||Nat.beq i 6||Nat.beq i 8)) ?_
  refine y7 1 rfl rfl (by kernel_rfl) (by kernel_rfl) (by kernel_rfl) (V4 rfl) ?_
  refine dT 2 rfl pM ?_
  refine y7 5 rfl rfl (by kernel_rfl) (by kernel_rfl) (by kernel_rfl) (V4 rfl) ?_
  refine d7 0 3 rfl rfl (by kernel_rfl) rfl rfl (V0 (oC 2)) (s9 0 5 6 (pv:=some v0) (N9 Tryz.func19) (A9 code i3 h3 3 (by omega) (by omega) (by omega) (by omega) (by omega)) rfl rfl (.cur rfl (.cons rfl .nil)) rfl (fun⟨_,_,_⟩=>rfl) (fun _=>rfl) (fun⟨_,_,_⟩=>rfl) rfl rfl) ?_ ?_
  ·
   rintro⟨⟩
   refine lZ 3 rfl (s9 0 5 6 (pv:=some v0) (N9 Tryz.func19) (A9 code i3 h3 3 (by omega) (by omega) (by omega) (by omega) (by omega)) rfl rfl (.cur rfl (.cons rfl .nil)) rfl (fun⟨_,_,_⟩=>rfl) (fun _=>rfl) (fun⟨_,_,_⟩=>rfl) rfl rfl) ?_
   rintro⟨⟨x14,i215,h216⟩,hq17⟩
   try dsimp only at hq17
   try dsimp only
   obtain⟨q18,q19⟩:=hq17
   refine dT 4 rfl pB ?_
   refine lZ 6 rfl (s9 0 6 11 (pv:=some v0) (N9 Tryz.func132) (o5 code i215 h216 (IntKind.i64.wrap (2 + x14)) n (by omega) (by omega) (by omega) (by(simp only [IntKind.wrap_i64] at *;omega)) (by omega)) rfl rfl (.cur rfl (.cons rfl (.cons rfl .nil))) rfl (fun⟨_,_,_⟩=>rfl) (fun _=>rfl) (fun⟨_,_,_⟩=>rfl) rfl rfl) ?_
   rintro⟨⟨ts20,i221,h222⟩,hq23⟩
   try dsimp only at hq23
   try dsimp only
   obtain⟨q24,q25,q26⟩:=hq23
   have t1:1≤ts20.length∧ts20.length≤2:=(by assumption);have t2:∀x∈ts20, -256≤x∧x≤2:=(by assumption);have t3:∀x∈ts20, -256≤x∧x≤256:=fun x hx=>by have:=t2 x hx;omega
   refine c6 10 rfl (W9 (i:=10) hM rfl rfl rfl) ?_
   refine dO 7 rfl (n9 11 11 true (N9 Tryz.func35) (U7 T8 fs ((IntKind.i64.wrap (2 + x14))) ts20 (by(have e7:=L0 b4;omega)) (by omega)) rfl (.cons rfl (.agg (.cons .t0 (.cons .t0 .nil))) (.cons rfl (.agg (.cons .t0 (.cons .t0 .nil))) .nil)) rfl rfl rfl) ?_
   refine dO 8 rfl (oS 2) ?_
   refine dE ?_
   refine i9<|l9<|rM ?_
   refine rB ?_
   refine rA<|c9 ?_
   refine n8 ?_ (ih0 (IntKind.i64.wrap (kk - 1),c4 fs (((IntKind.i64.wrap (2 + x14))),ts20),i221,h222) (by(try dsimp only);((try simp only [IntKind.wrap_i64] at *);omega)) (by(try dsimp only);exact⟨(by((try simp only [IntKind.wrap_i64] at *);omega)),nX b2 (by((try simp only [IntKind.wrap_i64] at *);omega)),SW b2 (by omega),T2 b4 ⟨by(try dsimp only);((try simp only [IntKind.wrap_i64] at *);omega),by(try dsimp only);omega,t3⟩,by omega⟩))
   exact⟨⟨rfl,⟨rfl,⟨rfl,⟨rfl,⟨rfl,trivial⟩⟩⟩⟩⟩,⟨rfl,⟨rfl,⟨rfl,trivial⟩⟩⟩,rfl⟩
  ·
   rintro⟨⟨x8,i29,h210⟩,hq11⟩
   try dsimp only at hq11
   try dsimp only
   obtain⟨q12,q13⟩:=hq11
   refine dT 4 rfl pB ?_
   refine d7 0 6 rfl rfl (by kernel_rfl) rfl rfl (V0 (oC 2)) (s9 0 6 11 (pv:=some v0) (N9 Tryz.func132) (o5 code i29 h210 (IntKind.i64.wrap (2 + x8)) n (by omega) (by omega) (by omega) (by(simp only [IntKind.wrap_i64] at *;omega)) (by omega)) rfl rfl (.cur rfl (.cons rfl (.cons rfl .nil))) rfl (fun⟨_,_,_⟩=>rfl) (fun _=>rfl) (fun⟨_,_,_⟩=>rfl) rfl rfl) ?_ ?_
   ·
    rintro⟨⟩
    refine lZ 6 rfl (s9 0 6 11 (pv:=some v0) (N9 Tryz.func132) (o5 code i29 h210 (IntKind.i64.wrap (2 + x8)) n (by omega) (by omega) (by omega) (by(simp only [IntKind.wrap_i64] at *;omega)) (by omega)) rfl rfl (.cur rfl (.cons rfl (.cons rfl .nil))) rfl (fun⟨_,_,_⟩=>rfl) (fun _=>rfl) (fun⟨_,_,_⟩=>rfl) rfl rfl) ?_
    rintro⟨⟨ts34,i235,h236⟩,hq37⟩
    try dsimp only at hq37
    try dsimp only
    obtain⟨q38,q39,q40⟩:=hq37
    have t1:1≤ts34.length∧ts34.length≤2:=(by assumption);have t2:∀x∈ts34, -256≤x∧x≤2:=(by assumption);have t3:∀x∈ts34, -256≤x∧x≤256:=fun x hx=>by have:=t2 x hx;omega
    refine c6 10 rfl (W9 (i:=10) hM rfl rfl rfl) ?_
    refine dO 7 rfl (n9 11 11 true (N9 Tryz.func35) (U7 T8 fs ((IntKind.i64.wrap (2 + x8))) ts34 (by(have e7:=L0 b4;omega)) (by omega)) rfl (.cons rfl (.agg (.cons .t0 (.cons .t0 .nil))) (.cons rfl (.agg (.cons .t0 (.cons .t0 .nil))) .nil)) rfl rfl rfl) ?_
    refine dO 8 rfl (oS 2) ?_
    refine dE ?_
    refine i9<|l9<|rM ?_
    refine rB ?_
    refine rA<|c9 ?_
    refine n8 ?_ (ih0 (IntKind.i64.wrap (kk - 1),c4 fs (((IntKind.i64.wrap (2 + x8))),ts34),i235,h236) (by(try dsimp only);((try simp only [IntKind.wrap_i64] at *);omega)) (by(try dsimp only);exact⟨(by((try simp only [IntKind.wrap_i64] at *);omega)),nX b2 (by((try simp only [IntKind.wrap_i64] at *);omega)),SW b2 (by omega),T2 b4 ⟨by(try dsimp only);((try simp only [IntKind.wrap_i64] at *);omega),by(try dsimp only);omega,t3⟩,by omega⟩))
    exact⟨⟨rfl,⟨rfl,⟨rfl,⟨rfl,⟨rfl,trivial⟩⟩⟩⟩⟩,⟨rfl,⟨rfl,⟨rfl,trivial⟩⟩⟩,rfl⟩
   ·
    rintro⟨⟨ts27,i228,h229⟩,hq30⟩
    try dsimp only at hq30
    try dsimp only
    obtain⟨q31,q32,q33⟩:=hq30
    have t1:1≤ts27.length∧ts27.length≤2:=(by assumption);have t2:∀x∈ts27, -256≤x∧x≤2:=(by assumption);have t3:∀x∈ts27, -256≤x∧x≤256:=fun x hx=>by have:=t2 x hx;omega
    refine dT 0 rfl (pC 2) ?_
    refine c6 10 rfl (W9 (i:=10) hM rfl rfl rfl) ?_
    refine dO 7 rfl (n9 11 11 true (N9 Tryz.func35) (U7 T8 fs ((IntKind.i64.wrap (2 + x8))) ts27 (by(have e7:=L0 b4;omega)) (by omega)) rfl (.cons rfl (.agg (.cons .t0 (.cons .t0 .nil))) (.cons rfl (.agg (.cons .t0 (.cons .t0 .nil))) .nil)) rfl rfl rfl) ?_
    refine dO 8 rfl (oS 2) ?_
    refine dE ?_
    refine i9<|l9<|rM ?_
    refine rB ?_
    refine rA<|c9 ?_
    refine n8 ?_ (ih0 (IntKind.i64.wrap (kk - 1),c4 fs (((IntKind.i64.wrap (2 + x8))),ts27),i228,h229) (by(try dsimp only);((try simp only [IntKind.wrap_i64] at *);omega)) (by(try dsimp only);exact⟨(by((try simp only [IntKind.wrap_i64] at *);omega)),nX b2 (by((try simp only [IntKind.wrap_i64] at *);omega)),SW b2 (by omega),T2 b4 ⟨by(try dsimp only);((try simp only [IntKind.wrap_i64] at *);omega),by(try dsimp only);omega,t3⟩,by omega⟩))
    exact⟨⟨rfl,⟨rfl,⟨rfl,⟨rfl,⟨rfl,trivial⟩⟩⟩⟩⟩,⟨rfl,⟨rfl,⟨rfl,trivial⟩⟩⟩,rfl⟩
 ·
  have h7':=l8 h7
  refine R9 rfl<|w9<|rC 2 ?_
  refine d9 (n9 5 10 false (N9 Tryz.func28) (i5 T8 fs (by(rw [u7];omega)) (by(have e7:=L0 b4;omega))) rfl (.cons rfl (.agg (.cons .t0 (.cons .t0 .nil))) .nil) rfl rfl rfl) ?_
  refine rS 2<|c9 ?_
  refine T7 3 7 rfl rfl rfl ?_
  refine T7 4 9 rfl rfl rfl ?_
  refine w7 Tryz.func102 (r8 2 .nil) (⟨fs,i3,h3⟩) ?_ ?_ (hL:=⟨rfl,⟨rfl,⟨rfl,trivial⟩⟩⟩) <;>(try clear ih0)
  ·(try dsimp only) <;>(exact⟨by omega,b4,by omega⟩)
  ·rfl
theorem MU (code:List Int)(i h:Int)(hc:code.length≤1048576)(hi0:0≤i)(hi1:i≤code.length):MS Tryz.prog 53 [.c (.ptr 0 0)] [.t none (.sl 1 f6 code),.t none (.v (.int .i64 i)),.t none (.v (.int .i64 h))] (fun(⟨rs,fs,i2,h2⟩:V9 × p9 × Int × Int)=>oT rs fs∧0≤i2∧i2≤code.length) (fun(⟨rs,fs,i2,h2⟩:V9 × p9 × Int × Int)=>[.t none (.sl 1 f6 code),.t none (.v (.int .i64 i2)),.t none (.v (.int .i64 h2))]) (fun(⟨rs,fs,i2,h2⟩:V9 × p9 × Int × Int)=>[]) 1 (fun(⟨rs,fs,i2,h2⟩:V9 × p9 × Int × Int)=> .agg [.t none (.sl 3 (d8 Z9 f9 a8) rs),.t none (.sl 2 (E9 f9 (B9 1 f9)) fs)]):=by
 refine J7 Tryz.func53 rfl (Nat.le_of_ble_eq_true rfl) fun v0 w S M hM=>?_
 refine w9 ?_
 refine d9 (I9 1 (zs:=[.slice none 0 0,.slice none 0 0]) rfl rfl (by kernel_rfl) rfl) ?_
 refine o7<|rM ?_
 refine p7 (s9 0 2 7 (pv:=some v0) (N9 Tryz.func101) (eY code i h 3 (by omega) (by omega) (by omega) (by omega)) rfl rfl (.cur rfl (.cons rfl .nil)) rfl (fun⟨_,_,_⟩=>rfl) (fun _=>rfl) (fun⟨_,_,_⟩=>rfl) rfl rfl) ?_
 rintro⟨⟨fs1,i22,h23⟩,hq4⟩
 try dsimp only at hq4
 try dsimp only
 obtain⟨q5,q6,q7⟩:=hq4
 refine d9 (I9 7 (zs:=[.slice none 0 0,.slice none 0 0]) rfl rfl (by kernel_rfl) rfl) ?_
 refine rS 2<|o7 ?_
 refine rM ?_
 refine p7 (s9 0 8 13 (pv:=some v0) (N9 Tryz.func102) (dY code i22 h23 4 3 (by omega) (by omega) (by omega) (by omega) (by omega)) rfl rfl (.cur rfl (.cons rfl (.cons rfl .nil))) rfl (fun⟨_,_,_⟩=>rfl) (fun _=>rfl) (fun⟨_,_,_⟩=>rfl) rfl rfl) ?_
 rintro⟨⟨fs8,i29,h210⟩,hq11⟩
 try dsimp only at hq11
 try dsimp only
 obtain⟨q12,q13,q14⟩:=hq11
 have b4f:∀a∈fs8,fY a:=(by assumption)
 refine d9 (I9 13 (zs:=[.slice none 0 0,.slice none 0 0]) rfl rfl (by kernel_rfl) rfl) ?_
 refine rS 2<|c9<|k9<|w9 ?_
 refine rA<|c9<|r9 ?_
 refine o9 5 rfl (W9 (i:=5) hM rfl rfl rfl) ?_
 refine o9 6 rfl (W9 (i:=6) hM rfl rfl rfl) ?_
 refine o9 11 rfl (W9 (i:=11) hM rfl rfl rfl) ?_
 refine o9 12 rfl (W9 (i:=12) hM rfl rfl rfl) ?_
 refine L9 (fun(m,xs)=>⟨[(2,some (.c (.ptr 1 0))),(3,some (.c (.ptr 7 0))),(4,some (.c (.ptr 13 0))),(5,some (.c (.t none (.v (.int .i64 ((m:Int)))))))],[(0,some (.pbox v0 [.t none (.sl 1 f6 code),.t none (.v (.int .i64 i29)),.t none (.v (.int .i64 h210))])),(1,some (.box [.t none (.v (.slice none 0 0)),.t none (.v (.slice none 0 0))])),(7,some (.box [.t none (.sl 3 (d8 Z9 f9 a8) T8),.t none (.sl 2 (E9 f9 (B9 1 f9)) xs)])),(13,some (.box [.t none (.sl 3 (d8 Z9 f9 a8) T8),.t none (.sl 2 (E9 f9 (B9 1 f9)) fs8)]))],14⟩:Nat × p9→St) (fun(m,xs)=>m≤fs8.length∧xs.length≤5 + m∧(∀a∈xs,fY a)) (fun(m,xs)=>fs8.length - m) (0,fs1) ⟨⟨rfl,⟨rfl,⟨rfl,⟨rfl,trivial⟩⟩⟩⟩,⟨rfl,⟨rfl,⟨rfl,⟨rfl,trivial⟩⟩⟩⟩,rfl⟩ (by exact⟨Nat.zero_le _,by(try dsimp only);omega,by assumption⟩) ?_
 rintro⟨m,xs⟩ hI ih0
 try dsimp only at hI ih0
 obtain⟨b1,b2,b4⟩:=hI
 refine k9<|w9<|rM ?_
 refine rF 1 ?_
 refine rL ?_
 refine d9 (S9 rfl rfl rfl) ?_
 refine rB<|c9 ?_
 refine j9 rfl (fun h15=>?_) (fun h15=>?_)
 ·
  have h15':=j8 h15
  refine m9<|k9<|r9 ?_
  refine tD (fun i=>!(Nat.beq i 7)) ?_
  refine dT 0 rfl (pC 2) ?_
  refine dT 1 rfl (pF 1) ?_
  refine dT 2 rfl pL ?_
  refine dT 3 rfl pM ?_
  obtain⟨z16,hz17,b18⟩:=t9 (xs:=fs8) (n:=(m:Int)) (by omega) (by omega)
  refine dT 4 rfl (w8 (by kernel_rfl) rfl rfl b18 hz17) ?_
  refine dT 5 rfl (p6 (n:=2) (by kernel_rfl) (by kernel_rfl) rfl rfl) ?_
  refine dO 6 rfl (n9 14 14 true (N9 Tryz.func35) (U7 T8 xs z16.1 z16.2 (by(have e7:=L0 b4;omega)) (by(have e7:=(b4f _ (J8 (by assumption))).2.1;omega))) rfl (.cons rfl (.agg (.cons .t0 (.cons .t0 .nil))) (.cons rfl (.agg (.cons .t0 (.cons .t0 .nil))) .nil)) rfl rfl rfl) ?_
  refine dO 7 rfl (oS 2) ?_
  refine dE ?_
  refine i9<|l9<|rM ?_
  refine rB ?_
  refine rA<|c9 ?_
  refine n8 ?_ (ih0 (m + 1,c4 xs (z16.1,z16.2)) (by(try dsimp only);omega) (by(try dsimp only);exact⟨by omega,Nat.le_trans (BY _ _) (by omega),T2 b4 (b4f _ (J8 hz17))⟩))
  exact⟨⟨rfl,⟨rfl,⟨rfl,⟨(i6 (s8 (by omega) (by omega))),trivial⟩⟩⟩⟩,⟨rfl,⟨rfl,⟨rfl,⟨rfl,trivial⟩⟩⟩⟩,rfl⟩
 ·
  have h15':=l8 h15
  refine R9 rfl<|w9<|rC 2 ?_
  refine d9 (n9 14 19 false (N9 Tryz.func28) (i5 T8 xs (by(rw [u7];omega)) (by(have e7:=L0 b4;omega))) rfl (.cons rfl (.agg (.cons .t0 (.cons .t0 .nil))) .nil) rfl rfl rfl) ?_
  refine rS 2<|c9 ?_
  refine o9 16 rfl (W9 (i:=16) hM rfl rfl rfl) ?_
  refine o9 18 rfl (W9 (i:=18) hM rfl rfl rfl) ?_
  refine w7 Tryz.func53 (r8 2 .nil) (⟨T8,xs,i29,h210⟩) ?_ ?_ (hL:=⟨rfl,trivial⟩) <;>(try clear ih0)
  ·(try dsimp only) <;>(exact⟨⟨by decide,QX,by omega,b4⟩,by omega⟩)
  ·rfl
theorem xT (code:List Int)(i h:Int)(hc:code.length≤1048576)(hi0:0≤i)(hi1:i≤code.length):MS Tryz.prog 103 [.c (.ptr 0 0)] [.t none (.sl 1 f6 code),.t none (.v (.int .i64 i)),.t none (.v (.int .i64 h))] (fun(⟨b,hs,e,lv,rv,i2,h2⟩:p9 × p9 × Bool × Int × Int × Int × Int)=>yY (b,hs,e,lv,rv)∧hs.length≤2∧0≤i2∧i2≤code.length) (fun(⟨b,hs,e,lv,rv,i2,h2⟩:p9 × p9 × Bool × Int × Int × Int × Int)=>[.t none (.sl 1 f6 code),.t none (.v (.int .i64 i2)),.t none (.v (.int .i64 h2))]) (fun(⟨b,hs,e,lv,rv,i2,h2⟩:p9 × p9 × Bool × Int × Int × Int × Int)=>[(2,some (.row none 55 true 2 (E9 f9 (B9 1 f9)) b)),(3,some (.row none 55 true 2 (E9 f9 (B9 1 f9)) hs))]) 4 (fun(⟨b,hs,e,lv,rv,i2,h2⟩:p9 × p9 × Bool × Int × Int × Int × Int)=> .agg [.own 2,.own 3,.t none (.v (.bool e)),.t none (.v (.int .i64 lv)),.t none (.v (.int .i64 rv))]):=by
 refine J7 Tryz.func103 rfl (Nat.le_of_ble_eq_true rfl) fun v0 w S M hM=>?_
 refine w9 ?_
 refine d9 (I9 1 (zs:=[.slice none 0 0,.slice none 0 0,.bool false,.int .i64 0,.int .i64 0]) rfl rfl (by kernel_rfl) rfl) ?_
 refine o7 ?_
 refine d9 (i7 2 (e:=3) (sz:=1) (zs:=[.int .i64 0]) (enc:=f9) [0,1] rfl rfl (by kernel_rfl) rfl rfl rfl rfl rfl rfl rfl rfl (.cons .sc (.cons .sc .nil)) rfl) ?_
 refine d9 (oD [(0,1),(1,1)] [.int .i64 0,.slice none 0 0]) ?_
 refine d9 (I9 3 (zs:=[.int .i64 0,.slice none 0 0]) rfl rfl (by kernel_rfl) rfl) ?_
 refine rS 2<|c9<|k9<|w9 ?_
 refine rM ?_
 refine p7 (s9 0 4 5 (pv:=some v0) (N9 Tryz.func19) (A9 code i h 9 (by omega) (by omega) (by omega) (by omega) (by omega)) rfl rfl (.cur rfl (.cons rfl .nil)) rfl (fun⟨_,_,_⟩=>rfl) (fun _=>rfl) (fun⟨_,_,_⟩=>rfl) rfl rfl) ?_
 rintro⟨⟨x1,i22,h23⟩,hq4⟩
 try dsimp only at hq4
 try dsimp only
 obtain⟨q5,q6⟩:=hq4
 refine c9<|r9<|w9<|rB ?_
 refine rA<|c9 ?_
 refine j9 rfl (fun h7=>?_) (fun h7=>?_)
 ·
  have h7':=j8 h7
  refine w9<|rC 2 ?_
  refine d9 (i7 5 (e:=55) (sz:=2) (zs:=[.int .i64 0,.slice none 0 0]) (enc:=(E9 f9 (B9 1 f9))) [(0,[0,1])] rfl rfl (by kernel_rfl) rfl rfl rfl rfl rfl rfl rfl rfl (.cons .sc (.take (.own rfl) rfl .nil)) rfl) ?_
  refine d9 (i7 6 (e:=3) (sz:=1) (zs:=[.int .i64 0]) (enc:=f9) [0,2] rfl rfl (by kernel_rfl) rfl rfl rfl rfl rfl rfl rfl rfl (.cons .sc (.cons .sc .nil)) rfl) ?_
  refine d9 (oD [(0,1),(1,1)] [.int .i64 0,.slice none 0 0]) ?_
  refine d9 (i7 7 (e:=3) (sz:=1) (zs:=[.int .i64 0]) (enc:=f9) [2,1] rfl rfl (by kernel_rfl) rfl rfl rfl rfl rfl rfl rfl rfl (.cons .sc (.cons .sc .nil)) rfl) ?_
  refine d9 (oD [(0,1),(1,1)] [.int .i64 0,.slice none 0 0]) ?_
  refine d9 (i7 8 (e:=55) (sz:=2) (zs:=[.int .i64 0,.slice none 0 0]) (enc:=(E9 f9 (B9 1 f9))) [(2,[0,2]),(3,[2,1])] rfl rfl (by kernel_rfl) rfl rfl rfl rfl rfl rfl rfl rfl (.cons .sc (.take (.own rfl) rfl (.cons .sc (.take (.own rfl) rfl .nil)))) rfl) ?_
  refine d9 (oD [(0,1),(1,1),(2,1),(3,1),(4,1)] [.slice none 0 0,.slice none 0 0,.bool false,.int .i64 0,.int .i64 0]) ?_
  refine rS 5<|c9 ?_
  refine T7 2 5 rfl rfl rfl ?_
  refine T7 3 8 rfl rfl rfl ?_
  refine w7 Tryz.func103 (r8 5 .nil) (⟨[(0,[0,1])],[(2,[0,2]),(3,[2,1])],false,0,0,i22,h23⟩) ?_ ?_ (hL:=⟨rfl,⟨rfl,⟨rfl,trivial⟩⟩⟩)
  ·(try dsimp only) <;>(exact⟨by simp [yY,B2],by simp,by omega⟩)
  ·rfl
 ·
  have h7':=l8 h7
  refine w9<|rB ?_
  refine rA<|c9 ?_
  refine j9 rfl (fun h8=>?_) (fun h8=>?_)
  ·
   have h8':=j8 h8
   refine w9<|rC 2 ?_
   refine d9 (i7 5 (e:=55) (sz:=2) (zs:=[.int .i64 0,.slice none 0 0]) (enc:=(E9 f9 (B9 1 f9))) [(0,[0,1])] rfl rfl (by kernel_rfl) rfl rfl rfl rfl rfl rfl rfl rfl (.cons .sc (.take (.own rfl) rfl .nil)) rfl) ?_
   refine d9 (i7 6 (e:=3) (sz:=1) (zs:=[.int .i64 0]) (enc:=f9) [0,1] rfl rfl (by kernel_rfl) rfl rfl rfl rfl rfl rfl rfl rfl (.cons .sc (.cons .sc .nil)) rfl) ?_
   refine d9 (oD [(0,1),(1,1)] [.int .i64 0,.slice none 0 0]) ?_
   refine d9 (i7 7 (e:=55) (sz:=2) (zs:=[.int .i64 0,.slice none 0 0]) (enc:=(E9 f9 (B9 1 f9))) [(2,[0,1])] rfl rfl (by kernel_rfl) rfl rfl rfl rfl rfl rfl rfl rfl (.cons .sc (.take (.own rfl) rfl .nil)) rfl) ?_
   refine d9 (oD [(0,1),(1,1),(2,1),(3,1),(4,1)] [.slice none 0 0,.slice none 0 0,.bool false,.int .i64 0,.int .i64 0]) ?_
   refine rS 5<|c9 ?_
   refine T7 2 5 rfl rfl rfl ?_
   refine T7 3 7 rfl rfl rfl ?_
   refine w7 Tryz.func103 (r8 5 .nil) (⟨[(0,[0,1])],[(2,[0,1])],false,0,0,i22,h23⟩) ?_ ?_ (hL:=⟨rfl,⟨rfl,⟨rfl,trivial⟩⟩⟩)
   ·(try dsimp only) <;>(exact⟨by simp [yY,B2],by simp,by omega⟩)
   ·rfl
  ·
   have h8':=l8 h8
   refine w9<|rB ?_
   refine rA<|c9 ?_
   refine j9 rfl (fun h9=>?_) (fun h9=>?_)
   ·
    have h9':=j8 h9
    refine w9 ?_
    refine d9 (N4 5 (e:=3) (sz:=1) (zs:=[.int .i64 0]) (enc:=f9) 0 rfl rfl (by kernel_rfl) rfl rfl rfl rfl rfl rfl (.cons .sc .nil)) ?_
    refine d9 (oD [(0,1),(1,1)] [.int .i64 0,.slice none 0 0]) ?_
    refine d9 (i7 6 (e:=55) (sz:=2) (zs:=[.int .i64 0,.slice none 0 0]) (enc:=(E9 f9 (B9 1 f9))) [(1,[0])] rfl rfl (by kernel_rfl) rfl rfl rfl rfl rfl rfl rfl rfl (.cons .sc (.take (.own rfl) rfl .nil)) rfl) ?_
    refine d9 (i7 7 (e:=3) (sz:=1) (zs:=[.int .i64 0]) (enc:=f9) [0,1] rfl rfl (by kernel_rfl) rfl rfl rfl rfl rfl rfl rfl rfl (.cons .sc (.cons .sc .nil)) rfl) ?_
    refine d9 (oD [(0,1),(1,1)] [.int .i64 0,.slice none 0 0]) ?_
    refine d9 (i7 8 (e:=55) (sz:=2) (zs:=[.int .i64 0,.slice none 0 0]) (enc:=(E9 f9 (B9 1 f9))) [(2,[0,1])] rfl rfl (by kernel_rfl) rfl rfl rfl rfl rfl rfl rfl rfl (.cons .sc (.take (.own rfl) rfl .nil)) rfl) ?_
    refine d9 (oD [(0,1),(1,1),(2,1),(3,1),(4,1)] [.slice none 0 0,.slice none 0 0,.bool false,.int .i64 0,.int .i64 0]) ?_
    refine rS 5<|c9 ?_
    refine T7 2 6 rfl rfl rfl ?_
    refine T7 3 8 rfl rfl rfl ?_
    refine w7 Tryz.func103 (r8 5 .nil) (⟨[(1,[0])],[(2,[0,1])],false,0,0,i22,h23⟩) ?_ ?_ (hL:=⟨rfl,⟨rfl,⟨rfl,trivial⟩⟩⟩)
    ·(try dsimp only) <;>(exact⟨by simp [yY,B2],by simp,by omega⟩)
    ·rfl
   ·
    have h9':=l8 h9
    refine w9<|rB ?_
    refine rA<|c9 ?_
    refine j9 rfl (fun h10=>?_) (fun h10=>?_)
    ·
     have h10':=j8 h10
     refine w9 ?_
     refine d9 (i7 5 (e:=3) (sz:=1) (zs:=[.int .i64 0]) (enc:=f9) [0,1] rfl rfl (by kernel_rfl) rfl rfl rfl rfl rfl rfl rfl rfl (.cons .sc (.cons .sc .nil)) rfl) ?_
     refine d9 (oD [(0,1),(1,1)] [.int .i64 0,.slice none 0 0]) ?_
     refine d9 (i7 6 (e:=3) (sz:=1) (zs:=[.int .i64 0]) (enc:=f9) [0,2] rfl rfl (by kernel_rfl) rfl rfl rfl rfl rfl rfl rfl rfl (.cons .sc (.cons .sc .nil)) rfl) ?_
     refine d9 (oD [(0,1),(1,1)] [.int .i64 0,.slice none 0 0]) ?_
     refine d9 (i7 7 (e:=55) (sz:=2) (zs:=[.int .i64 0,.slice none 0 0]) (enc:=(E9 f9 (B9 1 f9))) [(2,[0,1]),(2,[0,2])] rfl rfl (by kernel_rfl) rfl rfl rfl rfl rfl rfl rfl rfl (.cons .sc (.take (.own rfl) rfl (.cons .sc (.take (.own rfl) rfl .nil)))) rfl) ?_
     refine d9 (oD [(0,1),(1,1),(2,1),(3,1),(4,1)] [.slice none 0 0,.slice none 0 0,.bool false,.int .i64 0,.int .i64 0]) ?_
     refine rS 5<|c9 ?_
     refine I6 8 (b:=1) (o:=1) (et:=55) (sz:=2) true (E9 f9 (B9 1 f9)) rfl rfl rfl ?_
     refine T7 2 7 rfl rfl rfl ?_
     refine T7 3 8 rfl rfl rfl ?_
     refine w7 Tryz.func103 (r8 5 .nil) (⟨[(2,[0,1]),(2,[0,2])],[],true,1,2,i22,h23⟩) ?_ ?_ (hL:=⟨rfl,⟨rfl,⟨rfl,trivial⟩⟩⟩)
     ·(try dsimp only) <;>(exact⟨by simp [yY,B2],by simp,by omega⟩)
     ·rfl
    ·
     have h10':=l8 h10
     refine w9<|rB ?_
     refine rA<|c9 ?_
     refine j9 rfl (fun h11=>?_) (fun h11=>?_)
     ·
      have h11':=j8 h11
      refine w9 ?_
      refine d9 (i7 5 (e:=3) (sz:=1) (zs:=[.int .i64 0]) (enc:=f9) [0,1] rfl rfl (by kernel_rfl) rfl rfl rfl rfl rfl rfl rfl rfl (.cons .sc (.cons .sc .nil)) rfl) ?_
      refine d9 (oD [(0,1),(1,1)] [.int .i64 0,.slice none 0 0]) ?_
      refine d9 (i7 6 (e:=3) (sz:=1) (zs:=[.int .i64 0]) (enc:=f9) [1,2] rfl rfl (by kernel_rfl) rfl rfl rfl rfl rfl rfl rfl rfl (.cons .sc (.cons .sc .nil)) rfl) ?_
      refine d9 (oD [(0,1),(1,1)] [.int .i64 0,.slice none 0 0]) ?_
      refine d9 (i7 7 (e:=55) (sz:=2) (zs:=[.int .i64 0,.slice none 0 0]) (enc:=(E9 f9 (B9 1 f9))) [(2,[0,1]),(3,[1,2])] rfl rfl (by kernel_rfl) rfl rfl rfl rfl rfl rfl rfl rfl (.cons .sc (.take (.own rfl) rfl (.cons .sc (.take (.own rfl) rfl .nil)))) rfl) ?_
      refine d9 (N4 8 (e:=3) (sz:=1) (zs:=[.int .i64 0]) (enc:=f9) 0 rfl rfl (by kernel_rfl) rfl rfl rfl rfl rfl rfl (.cons .sc .nil)) ?_
      refine d9 (oD [(0,1),(1,1)] [.int .i64 0,.slice none 0 0]) ?_
      refine d9 (i7 9 (e:=55) (sz:=2) (zs:=[.int .i64 0,.slice none 0 0]) (enc:=(E9 f9 (B9 1 f9))) [(4,[0])] rfl rfl (by kernel_rfl) rfl rfl rfl rfl rfl rfl rfl rfl (.cons .sc (.take (.own rfl) rfl .nil)) rfl) ?_
      refine d9 (oD [(0,1),(1,1),(2,1),(3,1),(4,1)] [.slice none 0 0,.slice none 0 0,.bool false,.int .i64 0,.int .i64 0]) ?_
      refine rS 5<|c9 ?_
      refine T7 2 7 rfl rfl rfl ?_
      refine T7 3 9 rfl rfl rfl ?_
      refine w7 Tryz.func103 (r8 5 .nil) (⟨[(2,[0,1]),(3,[1,2])],[(4,[0])],false,0,0,i22,h23⟩) ?_ ?_ (hL:=⟨rfl,⟨rfl,⟨rfl,trivial⟩⟩⟩)
      ·(try dsimp only) <;>(exact⟨by simp [yY,B2],by simp,by omega⟩)
      ·rfl
     ·
      have h11':=l8 h11
      refine w9<|rB ?_
      refine rA<|c9 ?_
      refine j9 rfl (fun h12=>?_) (fun h12=>?_)
      ·
       have h12':=j8 h12
       refine w9 ?_
       refine d9 (N4 5 (e:=3) (sz:=1) (zs:=[.int .i64 0]) (enc:=f9) 0 rfl rfl (by kernel_rfl) rfl rfl rfl rfl rfl rfl (.cons .sc .nil)) ?_
       refine d9 (oD [(0,1),(1,1)] [.int .i64 0,.slice none 0 0]) ?_
       refine d9 (i7 6 (e:=55) (sz:=2) (zs:=[.int .i64 0,.slice none 0 0]) (enc:=(E9 f9 (B9 1 f9))) [(4,[0])] rfl rfl (by kernel_rfl) rfl rfl rfl rfl rfl rfl rfl rfl (.cons .sc (.take (.own rfl) rfl .nil)) rfl) ?_
       refine d9 (i7 7 (e:=3) (sz:=1) (zs:=[.int .i64 0]) (enc:=f9) [0,1] rfl rfl (by kernel_rfl) rfl rfl rfl rfl rfl rfl rfl rfl (.cons .sc (.cons .sc .nil)) rfl) ?_
       refine d9 (oD [(0,1),(1,1)] [.int .i64 0,.slice none 0 0]) ?_
       refine d9 (i7 8 (e:=55) (sz:=2) (zs:=[.int .i64 0,.slice none 0 0]) (enc:=(E9 f9 (B9 1 f9))) [(3,[0,1])] rfl rfl (by kernel_rfl) rfl rfl rfl rfl rfl rfl rfl rfl (.cons .sc (.take (.own rfl) rfl .nil)) rfl) ?_
       refine d9 (oD [(0,1),(1,1),(2,1),(3,1),(4,1)] [.slice none 0 0,.slice none 0 0,.bool false,.int .i64 0,.int .i64 0]) ?_
       refine rS 5<|c9 ?_
       refine T7 2 6 rfl rfl rfl ?_
       refine T7 3 8 rfl rfl rfl ?_
       refine w7 Tryz.func103 (r8 5 .nil) (⟨[(4,[0])],[(3,[0,1])],false,0,0,i22,h23⟩) ?_ ?_ (hL:=⟨rfl,⟨rfl,⟨rfl,trivial⟩⟩⟩)
       ·(try dsimp only) <;>(exact⟨by simp [yY,B2],by simp,by omega⟩)
       ·rfl
      ·
       have h12':=l8 h12
       refine w9<|rB ?_
       refine rA<|c9 ?_
       refine j9 rfl (fun h13=>?_) (fun h13=>?_)
       ·
        have h13':=j8 h13
        refine w9 ?_
        refine d9 (i7 5 (e:=3) (sz:=1) (zs:=[.int .i64 0]) (enc:=f9) [0,1] rfl rfl (by kernel_rfl) rfl rfl rfl rfl rfl rfl rfl rfl (.cons .sc (.cons .sc .nil)) rfl) ?_
        refine d9 (oD [(0,1),(1,1)] [.int .i64 0,.slice none 0 0]) ?_
        refine d9 (i7 6 (e:=55) (sz:=2) (zs:=[.int .i64 0,.slice none 0 0]) (enc:=(E9 f9 (B9 1 f9))) [(2,[0,1])] rfl rfl (by kernel_rfl) rfl rfl rfl rfl rfl rfl rfl rfl (.cons .sc (.take (.own rfl) rfl .nil)) rfl) ?_
        refine d9 (N4 7 (e:=3) (sz:=1) (zs:=[.int .i64 0]) (enc:=f9) 1 rfl rfl (by kernel_rfl) rfl rfl rfl rfl rfl rfl (.cons .sc .nil)) ?_
        refine d9 (oD [(0,1),(1,1)] [.int .i64 0,.slice none 0 0]) ?_
        refine d9 (i7 8 (e:=55) (sz:=2) (zs:=[.int .i64 0,.slice none 0 0]) (enc:=(E9 f9 (B9 1 f9))) [(4,[1])] rfl rfl (by kernel_rfl) rfl rfl rfl rfl rfl rfl rfl rfl (.cons .sc (.take (.own rfl) rfl .nil)) rfl) ?_
        refine d9 (oD [(0,1),(1,1),(2,1),(3,1),(4,1)] [.slice none 0 0,.slice none 0 0,.bool false,.int .i64 0,.int .i64 0]) ?_
        refine rS 5<|c9 ?_
        refine T7 2 6 rfl rfl rfl ?_
        refine T7 3 8 rfl rfl rfl ?_
        refine w7 Tryz.func103 (r8 5 .nil) (⟨[(2,[0,1])],[(4,[1])],false,0,0,i22,h23⟩) ?_ ?_ (hL:=⟨rfl,⟨rfl,⟨rfl,trivial⟩⟩⟩)
        ·(try dsimp only) <;>(exact⟨by simp [yY,B2],by simp,by omega⟩)
        ·rfl
       ·
        have h13':=l8 h13
        refine w9<|rB ?_
        refine rA<|c9 ?_
        refine j9 rfl (fun h14=>?_) (fun h14=>?_)
        ·
         have h14':=j8 h14
         refine w9 ?_
         refine d9 (i7 5 (e:=3) (sz:=1) (zs:=[.int .i64 0]) (enc:=f9) [0,1] rfl rfl (by kernel_rfl) rfl rfl rfl rfl rfl rfl rfl rfl (.cons .sc (.cons .sc .nil)) rfl) ?_
         refine d9 (oD [(0,1),(1,1)] [.int .i64 0,.slice none 0 0]) ?_
         refine d9 (i7 6 (e:=55) (sz:=2) (zs:=[.int .i64 0,.slice none 0 0]) (enc:=(E9 f9 (B9 1 f9))) [(2,[0,1])] rfl rfl (by kernel_rfl) rfl rfl rfl rfl rfl rfl rfl rfl (.cons .sc (.take (.own rfl) rfl .nil)) rfl) ?_
         refine d9 (i7 7 (e:=3) (sz:=1) (zs:=[.int .i64 0]) (enc:=f9) [1,2] rfl rfl (by kernel_rfl) rfl rfl rfl rfl rfl rfl rfl rfl (.cons .sc (.cons .sc .nil)) rfl) ?_
         refine d9 (oD [(0,1),(1,1)] [.int .i64 0,.slice none 0 0]) ?_
         refine d9 (i7 8 (e:=55) (sz:=2) (zs:=[.int .i64 0,.slice none 0 0]) (enc:=(E9 f9 (B9 1 f9))) [(2,[1,2])] rfl rfl (by kernel_rfl) rfl rfl rfl rfl rfl rfl rfl rfl (.cons .sc (.take (.own rfl) rfl .nil)) rfl) ?_
         refine d9 (oD [(0,1),(1,1),(2,1),(3,1),(4,1)] [.slice none 0 0,.slice none 0 0,.bool false,.int .i64 0,.int .i64 0]) ?_
         refine rS 5<|c9 ?_
         refine T7 2 6 rfl rfl rfl ?_
         refine T7 3 8 rfl rfl rfl ?_
         refine w7 Tryz.func103 (r8 5 .nil) (⟨[(2,[0,1])],[(2,[1,2])],false,0,0,i22,h23⟩) ?_ ?_ (hL:=⟨rfl,⟨rfl,⟨rfl,trivial⟩⟩⟩)
         ·(try dsimp only) <;>(exact⟨by simp [yY,B2],by simp,by omega⟩)
         ·rfl
        ·
         have h14':=l8 h14
         refine m9<|i9<|w9 ?_
         refine d9 (i7 5 (e:=3) (sz:=1) (zs:=[.int .i64 0]) (enc:=f9) [0,1] rfl rfl (by kernel_rfl) rfl rfl rfl rfl rfl rfl rfl rfl (.cons .sc (.cons .sc .nil)) rfl) ?_
         refine d9 (oD [(0,1),(1,1)] [.int .i64 0,.slice none 0 0]) ?_
         refine d9 (i7 6 (e:=3) (sz:=1) (zs:=[.int .i64 0]) (enc:=f9) [1,0] rfl rfl (by kernel_rfl) rfl rfl rfl rfl rfl rfl rfl rfl (.cons .sc (.cons .sc .nil)) rfl) ?_
         refine d9 (oD [(0,1),(1,1)] [.int .i64 0,.slice none 0 0]) ?_
         refine d9 (i7 7 (e:=55) (sz:=2) (zs:=[.int .i64 0,.slice none 0 0]) (enc:=(E9 f9 (B9 1 f9))) [(3,[0,1]),(3,[1,0])] rfl rfl (by kernel_rfl) rfl rfl rfl rfl rfl rfl rfl rfl (.cons .sc (.take (.own rfl) rfl (.cons .sc (.take (.own rfl) rfl .nil)))) rfl) ?_
         refine d9 (oD [(0,1),(1,1),(2,1),(3,1),(4,1)] [.slice none 0 0,.slice none 0 0,.bool false,.int .i64 0,.int .i64 0]) ?_
         refine rS 5<|c9 ?_
         refine I6 8 (b:=1) (o:=1) (et:=55) (sz:=2) true (E9 f9 (B9 1 f9)) rfl rfl rfl ?_
         refine T7 2 7 rfl rfl rfl ?_
         refine T7 3 8 rfl rfl rfl ?_
         refine w7 Tryz.func103 (r8 5 .nil) (⟨[(3,[0,1]),(3,[1,0])],[],true,0,1,i22,h23⟩) ?_ ?_ (hL:=⟨rfl,⟨rfl,⟨rfl,trivial⟩⟩⟩)
         ·(try dsimp only) <;>(exact⟨by simp [yY,B2],by simp,by omega⟩)
         ·rfl
theorem D7 (code:List Int)(i h r vars:Int)(hc:code.length≤1048576)(hi0:0≤i)(hi1:i≤code.length)(hr:0≤r∧r≤4)(hv:1≤vars∧vars≤5):MS Tryz.prog 104 [.c (.ptr 0 0),.c (.t none (.v (.int .i64 r))),.c (.t none (.v (.int .i64 vars)))] [.t none (.sl 1 f6 code),.t none (.v (.int .i64 i)),.t none (.v (.int .i64 h))] (fun(⟨ts,i2,h2⟩:(List Int) × Int × Int)=>(1≤ts.length∧ts.length≤2)∧(∀x∈ts, -3≤x∧x≤4)∧0≤i2∧i2≤code.length) (fun(⟨ts,i2,h2⟩:(List Int) × Int × Int)=>[.t none (.sl 1 f6 code),.t none (.v (.int .i64 i2)),.t none (.v (.int .i64 h2))]) (fun(⟨ts,i2,h2⟩:(List Int) × Int × Int)=>[(4,some (.row none 3 true 1 f9 ts))]) 5 (fun(⟨ts,i2,h2⟩:(List Int) × Int × Int)=> .agg [.t none (.v (.int .i64 r)),.own 4]):=by
 refine J7 Tryz.func104 rfl (Nat.le_of_ble_eq_true rfl) fun v0 w S M hM=>?_
 have ar:=KK hr
 refine w9 ?_
 refine d9 (I9 1 (zs:=[.int .i64 0,.slice none 0 0]) rfl rfl (by kernel_rfl) rfl) ?_
 refine o7 ?_
 refine d9 (n9 2 3 false (N9 Tryz.func131) (O2) rfl .nil rfl rfl rfl) ?_
 refine rA<|o7 ?_
 refine rM ?_
 refine d9 (oD [(0,1),(1,1)] [.int .i64 0,.slice none 0 0]) ?_
 refine d9 (I9 3 (zs:=[.int .i64 0,.slice none 0 0]) rfl rfl (by kernel_rfl) rfl) ?_
 refine rS 2<|c9<|k9<|r9 ?_
 refine I6 4 (b:=3) (o:=1) (et:=3) (sz:=1) true f9 rfl rfl rfl ?_
 refine L9 (fun(ts,i3,h3)=>⟨[(0,some (.c (.ptr 0 0))),(1,some (.c (.t none (.v (.int .i64 r))))),(2,some (.c (.t none (.v (.int .i64 vars))))),(6,some (.c (.ptr 1 0))),(7,some (.c (.own 2))),(8,some (.c (.ptr 3 0)))],[(0,some (.pbox v0 [.t none (.sl 1 f6 code),.t none (.v (.int .i64 i3)),.t none (.v (.int .i64 h3))])),(1,some (.box [.t none (.v (.int .i64 0)),.t none (.v (.slice none 0 0))])),(2,some (.row none 76 true 3 (d8 Z9 f9 a8) T8)),(3,some (.box [.t none (.v (.int .i64 r)),.own 4])),(4,some (.row none 3 true 1 f9 ts))],5⟩:List Int × Int × Int→St) (fun(ts,i3,h3)=>((ts.length:Int)≤uH r)∧(∀x∈ts, -3≤x∧x≤4)∧(0≤i3∧i3≤code.length)) (fun(ts,i3,h3)=>2 - ts.length) ([],i,h) ⟨⟨rfl,⟨rfl,⟨rfl,⟨rfl,⟨rfl,⟨rfl,trivial⟩⟩⟩⟩⟩⟩,⟨rfl,⟨rfl,⟨rfl,⟨rfl,⟨rfl,trivial⟩⟩⟩⟩⟩,rfl⟩ (by exact⟨by simp;omega,fun x hx=>by simp at hx,by omega⟩) ?_
 rintro⟨ts,i3,h3⟩ hI ih0
 try dsimp only at hI ih0
 obtain⟨j1,j2,j3⟩:=hI
 refine k9<|k9 ?_
 refine tY ?_
 refine dT 0 rfl (pF 1) ?_
 refine dT 1 rfl pL ?_
 refine dT 2 rfl (J2 rfl rfl rfl) ?_
 refine dT 3 rfl pM ?_
 refine dT 4 rfl pM ?_
 obtain⟨z1,hz2,b3⟩:=t9 (xs:=T8) (n:=r) (by omega) (by(rw [u7];omega))
 refine dT 5 rfl (T9 (by kernel_rfl) rfl rfl rfl b3 (f8 b3 hz2)) ?_
 refine dT 6 rfl (C4 (off:=1) (by kernel_rfl) rfl) ?_
 refine dT 7 rfl (E8 (by kernel_rfl) rfl rfl rfl hz2) ?_
 refine dT 8 rfl pB ?_
 refine dE ?_
 refine j9 rfl (fun h4=>?_) (fun h4=>?_)
 ·
  have h4':=j8 h4
  refine m9<|r9<|w9<|rM ?_
  refine p7 (s9 0 5 6 (pv:=some v0) (N9 Tryz.func18) (J6 code i3 h3 14 (by omega) (by omega) (by omega) (by omega) (by omega)) rfl rfl (.cur rfl (.cons rfl .nil)) rfl (fun⟨_,_,_⟩=>rfl) (fun _=>rfl) (fun⟨_,_,_⟩=>rfl) rfl rfl) ?_
  rintro⟨⟨b5,i26,h27⟩,hq8⟩
  try dsimp only at hq8
  try dsimp only
  refine c9 ?_
  refine j9 rfl (fun h10=>?_) (fun h10=>?_)
  ·
   have h10':=h10
   refine tD (fun i=>!(Nat.beq i 3||Nat.beq i 6||Nat.beq i 8)) ?_
   refine y7 0 rfl rfl (by kernel_rfl) (by kernel_rfl) (by kernel_rfl) (W7 (off:=1) (by kernel_rfl) rfl) ?_
   refine dT 2 rfl pM ?_
   refine d7 1 3 rfl rfl (by kernel_rfl) rfl rfl (V0 oL) (s9 0 6 7 (pv:=some v0) (N9 Tryz.func19) (A9 code i26 h27 3 (by omega) (by omega) (by omega) (by omega) (by omega)) rfl rfl (.cur rfl (.cons rfl .nil)) rfl (fun⟨_,_,_⟩=>rfl) (fun _=>rfl) (fun⟨_,_,_⟩=>rfl) rfl rfl) ?_ ?_
   ·
    rintro⟨⟩
    refine lZ 3 rfl (s9 0 6 7 (pv:=some v0) (N9 Tryz.func19) (A9 code i26 h27 3 (by omega) (by omega) (by omega) (by omega) (by omega)) rfl rfl (.cur rfl (.cons rfl .nil)) rfl (fun⟨_,_,_⟩=>rfl) (fun _=>rfl) (fun⟨_,_,_⟩=>rfl) rfl rfl) ?_
    rintro⟨⟨x17,i218,h219⟩,hq20⟩
    try dsimp only at hq20
    try dsimp only
    obtain⟨q21,q22⟩:=hq20
    refine dT 4 rfl pB ?_
    refine dO 5 rfl (G8 7 (e:=3) (sz:=1) (zs:=[.int .i64 0]) rfl rfl (by kernel_rfl) rfl rfl rfl rfl rfl) ?_
    refine dO 6 rfl (i8 4 (e:=3) (sz:=1) (by':=8) (IntKind.i64.wrap ((-1) - x17)) rfl (by kernel_rfl) rfl rfl rfl rfl rfl rfl (.cons .sc .nil) rfl (by omega) (by omega)) ?_
    refine dT 7 rfl (pF 1) ?_
    refine dO 8 rfl (oS 1) ?_
    refine dE ?_
    refine i9 ?_
    have sg:=OZ hz2
    refine n8 ?_ (ih0 (ts++[IntKind.i64.wrap ((-1) - x17)],i218,h219) (by(try dsimp only);(simp;omega)) (by(try dsimp only);exact⟨by(simp only [List.length_append,List.length_singleton];omega),m7 j2 (by(try simp only [IntKind.wrap_i64]);omega),by omega⟩))
    exact⟨⟨rfl,⟨rfl,⟨rfl,⟨rfl,⟨rfl,⟨rfl,trivial⟩⟩⟩⟩⟩⟩,⟨rfl,⟨rfl,⟨rfl,⟨rfl,⟨rfl,trivial⟩⟩⟩⟩⟩,rfl⟩
   ·
    rintro⟨⟨x11,i212,h213⟩,hq14⟩
    try dsimp only at hq14
    try dsimp only
    obtain⟨q15,q16⟩:=hq14
    refine dT 1 rfl pL ?_
    refine dT 4 rfl pB ?_
    refine dO 5 rfl (G8 7 (e:=3) (sz:=1) (zs:=[.int .i64 0]) rfl rfl (by kernel_rfl) rfl rfl rfl rfl rfl) ?_
    refine dO 6 rfl (i8 4 (e:=3) (sz:=1) (by':=8) (IntKind.i64.wrap ((-1) - x11)) rfl (by kernel_rfl) rfl rfl rfl rfl rfl rfl (.cons .sc .nil) rfl (by omega) (by omega)) ?_
    refine dT 7 rfl (pF 1) ?_
    refine dO 8 rfl (oS 1) ?_
    refine dE ?_
    refine i9 ?_
    have sg:=OZ hz2
    refine n8 ?_ (ih0 (ts++[IntKind.i64.wrap ((-1) - x11)],i212,h213) (by(try dsimp only);(simp;omega)) (by(try dsimp only);exact⟨by(simp only [List.length_append,List.length_singleton];omega),m7 j2 (by(try simp only [IntKind.wrap_i64]);omega),by omega⟩))
    exact⟨⟨rfl,⟨rfl,⟨rfl,⟨rfl,⟨rfl,⟨rfl,trivial⟩⟩⟩⟩⟩⟩,⟨rfl,⟨rfl,⟨rfl,⟨rfl,⟨rfl,trivial⟩⟩⟩⟩⟩,rfl⟩
  ·
   have h10':=h10
   refine tD (fun i=>!(Nat.beq i 4||Nat.beq i 6||Nat.beq i 8)) ?_
   refine y7 0 rfl rfl (by kernel_rfl) (by kernel_rfl) (by kernel_rfl) (W7 (off:=1) (by kernel_rfl) rfl) ?_
   refine dT 2 rfl pM ?_
   refine dT 3 rfl pM ?_
   refine d7 1 4 rfl rfl (by kernel_rfl) rfl rfl (V0 oL) (s9 0 6 7 (pv:=some v0) (N9 Tryz.func19) (A9 code i26 h27 vars (by omega) (by omega) (by omega) (by omega) (by omega)) rfl rfl (.cur rfl (.cons rfl .nil)) rfl (fun⟨_,_,_⟩=>rfl) (fun _=>rfl) (fun⟨_,_,_⟩=>rfl) rfl rfl) ?_ ?_
   ·
    rintro⟨⟩
    refine lZ 4 rfl (s9 0 6 7 (pv:=some v0) (N9 Tryz.func19) (A9 code i26 h27 vars (by omega) (by omega) (by omega) (by omega) (by omega)) rfl rfl (.cur rfl (.cons rfl .nil)) rfl (fun⟨_,_,_⟩=>rfl) (fun _=>rfl) (fun⟨_,_,_⟩=>rfl) rfl rfl) ?_
    rintro⟨⟨x29,i230,h231⟩,hq32⟩
    try dsimp only at hq32
    try dsimp only
    obtain⟨q33,q34⟩:=hq32
    refine dO 5 rfl (G8 7 (e:=3) (sz:=1) (zs:=[.int .i64 0]) rfl rfl (by kernel_rfl) rfl rfl rfl rfl rfl) ?_
    refine dO 6 rfl (i8 4 (e:=3) (sz:=1) (by':=8) x29 rfl (by kernel_rfl) rfl rfl rfl rfl rfl rfl (.cons .sc .nil) rfl (by omega) (by omega)) ?_
    refine dT 7 rfl (pF 1) ?_
    refine dO 8 rfl (oS 1) ?_
    refine dE ?_
    refine i9 ?_
    have sg:=OZ hz2
    refine n8 ?_ (ih0 (ts++[x29],i230,h231) (by(try dsimp only);(simp;omega)) (by(try dsimp only);exact⟨by(simp only [List.length_append,List.length_singleton];omega),m7 j2 (by(try simp only [IntKind.wrap_i64]);omega),by omega⟩))
    exact⟨⟨rfl,⟨rfl,⟨rfl,⟨rfl,⟨rfl,⟨rfl,trivial⟩⟩⟩⟩⟩⟩,⟨rfl,⟨rfl,⟨rfl,⟨rfl,⟨rfl,trivial⟩⟩⟩⟩⟩,rfl⟩
   ·
    rintro⟨⟨x23,i224,h225⟩,hq26⟩
    try dsimp only at hq26
    try dsimp only
    obtain⟨q27,q28⟩:=hq26
    refine dT 1 rfl pL ?_
    refine dO 5 rfl (G8 7 (e:=3) (sz:=1) (zs:=[.int .i64 0]) rfl rfl (by kernel_rfl) rfl rfl rfl rfl rfl) ?_
    refine dO 6 rfl (i8 4 (e:=3) (sz:=1) (by':=8) x23 rfl (by kernel_rfl) rfl rfl rfl rfl rfl rfl (.cons .sc .nil) rfl (by omega) (by omega)) ?_
    refine dT 7 rfl (pF 1) ?_
    refine dO 8 rfl (oS 1) ?_
    refine dE ?_
    refine i9 ?_
    have sg:=OZ hz2
    refine n8 ?_ (ih0 (ts++[x23],i224,h225) (by(try dsimp only);(simp;omega)) (by(try dsimp only);exact⟨by(simp only [List.length_append,List.length_singleton];omega),m7 j2 (by(try simp only [IntKind.wrap_i64]);omega),by omega⟩))
    exact⟨⟨rfl,⟨rfl,⟨rfl,⟨rfl,⟨rfl,⟨rfl,trivial⟩⟩⟩⟩⟩⟩,⟨rfl,⟨rfl,⟨rfl,⟨rfl,⟨rfl,trivial⟩⟩⟩⟩⟩,rfl⟩
 ·
  have h4':=l8 h4
  refine R9 rfl<|w9<|rC 2 ?_
  refine rS 2<|c9 ?_
  refine w7 Tryz.func104 (r8 2 .nil) (⟨ts,i3,h3⟩) ?_ ?_ (hL:=⟨rfl,⟨rfl,trivial⟩⟩) <;>(try clear ih0)
  ·(try dsimp only) <;>((have sg:=OZ hz2);exact⟨by omega,j2,by omega⟩)
  ·rfl
theorem HZ (U:Nat→Value)(l:List Int)(x:Int)(hl:l.length≤1099511627776):Mu Tryz.prog 118 [.c (.own 0),.c (.t none (.v (.int .i64 x)))] [(0,some (.row (some (U 0)) 3 true 1 f9 l))] 1 [(0,some (.row none 3 true 1 f9 (U3 l x)))] 1 (.c (.own 0)):=by
 refine AY Tryz.func118 rfl (Nat.le_of_ble_eq_true rfl) fun w S M=>?_
 refine w9<|rA<|o7 ?_
 refine rA<|c9<|k9<|r9 ?_
 refine L9 (fun m=>⟨[(0,some (.c (.own 0))),(1,some (.c (.t none (.v (.int .i64 x))))),(4,some (.c (.t none (.v (.slice none 0 0))))),(5,some (.c (.t none (.v (.int .i64 ((m:Int)))))))],[(0,some (.row (some (U 0)) 3 true 1 f9 l))],1⟩:Nat→St) (fun m=>m≤l.length∧∀j y,j < m→l[j]? =some y→y < x) (fun m=>l.length - m) 0 ⟨⟨rfl,⟨rfl,⟨rfl,⟨rfl,trivial⟩⟩⟩⟩,⟨rfl,trivial⟩,rfl⟩ (by exact⟨Nat.zero_le _,fun j z h=>by omega⟩) ?_
 rintro m hI ih0
 try dsimp only at hI ih0
 obtain⟨i1,i2⟩:=hI
 refine k9<|w9<|rM ?_
 refine rM ?_
 refine d9 (M7 rfl rfl rfl rfl) ?_
 refine rB ?_
 refine rM ?_
 refine x9 (fun g1=>?_) (fun g1=>?_)
 ·
  have g1':=j8 g1
  refine rM ?_
  refine x9 (fun _=>?_) (nc g1)
  refine rM ?_
  refine x9 (fun _=>?_) (nc g1)
  obtain⟨z2,hz3,b4⟩:=t9 (xs:=l) (n:=(m:Int)) (by omega) (by omega)
  refine d9 (t8 rfl (by kernel_rfl) rfl rfl rfl b4 (f8 b4 hz3)) ?_
  refine x9 (fun _=>?_) (nc g1)
  refine d9 (p8 rfl (by kernel_rfl) rfl rfl rfl hz3) ?_
  refine x9 (fun _=>?_) (nc g1)
  refine rM ?_
  refine x9 (fun _=>?_) (nc g1)
  refine rB ?_
  refine d9 (M9 rfl rfl g1 rfl) ?_
  refine c9 ?_
  refine j9 rfl (fun h5=>?_) (fun h5=>?_)
  ·
   have h5':=j8 h5
   refine m9<|r9<|l9<|rM ?_
   refine rB ?_
   refine rA<|c9<|i9 ?_
   refine n8 ?_ (ih0 (m + 1) (by(try dsimp only);omega) (by(try dsimp only);exact⟨by omega,cI i2 (by assumption) rfl (by omega)⟩))
   exact⟨⟨rfl,⟨rfl,⟨rfl,⟨(i6 (s8 (by omega) (by omega))),trivial⟩⟩⟩⟩,⟨rfl,trivial⟩,rfl⟩
  ·
   have h5':=l8 h5
   refine R9 rfl<|k9<|w9<|rM ?_
   refine rM ?_
   refine d9 (M7 rfl rfl rfl rfl) ?_
   refine rB ?_
   refine rM ?_
   refine x9 (fun g6=>?_) (fun g6=>?_)
   ·
    have g6':=j8 g6
    refine rM ?_
    refine x9 (fun _=>?_) (nc g6)
    refine rM ?_
    refine x9 (fun _=>?_) (nc g6)
    refine d9 (t8 rfl (by kernel_rfl) rfl rfl rfl b4 (f8 b4 hz3)) ?_
    refine x9 (fun _=>?_) (nc g6)
    refine d9 (p8 rfl (by kernel_rfl) rfl rfl rfl hz3) ?_
    refine x9 (fun _=>?_) (nc g6)
    refine rM ?_
    refine x9 (fun _=>?_) (nc g6)
    refine rB ?_
    refine d9 (M9 rfl rfl g6 rfl) ?_
    refine c9 ?_
    refine j9 rfl (fun h7=>?_) (fun h7=>?_)
    ·
     have h7':=j8 h7
     refine w9<|rM ?_
     refine rA<|c9 ?_
     refine mZ 0 rfl ?_
     refine ER Tryz.func118 (.tmp rfl .nil) ?_ (hL:=⟨E7 ?_,trivial⟩) <;>(try clear ih0)
     all_goals first | rfl | ((rw [CU i2 (by assumption) (by omega)];done))
    ·
     have h7':=l8 h7
     refine m9<|w9<|rM ?_
     refine d9 (N4 1 (e:=3) (sz:=1) (zs:=[.int .i64 0]) (enc:=f9) x rfl rfl (by kernel_rfl) rfl rfl rfl rfl rfl rfl (.cons .sc .nil)) ?_
     refine rM ?_
     refine rM ?_
     refine d9 (iZ rfl (by kernel_rfl) rfl rfl (.l rfl (by omega) (by omega))) ?_
     refine d9 (a7 1 (e:=3) (sz:=1) (by':=8) rfl (by kernel_rfl) rfl rfl rfl rfl (fun _ _=>⟨_,rfl⟩) (by(simp only [List.length_append,List.length_take,List.length_drop,List.length_cons,List.length_nil];omega)) (by(simp only [List.length_append,List.length_take,List.length_drop,List.length_cons,List.length_nil];omega))) ?_
     refine rA<|o7 ?_
     refine d9 (C7 2 (e:=3) (sz:=1) (zs:=[.int .i64 0]) f9 rfl rfl (by kernel_rfl) rfl) ?_
     refine rM ?_
     refine rM ?_
     refine d9 (iZ rfl (by kernel_rfl) rfl rfl (.h rfl (by omega) (by omega))) ?_
     refine d9 (a7 2 (e:=3) (sz:=1) (by':=8) rfl (by kernel_rfl) rfl rfl rfl rfl (fun _ _=>⟨_,rfl⟩) (by(simp only [List.length_append,List.length_take,List.length_drop,List.length_cons,List.length_nil];omega)) (by(simp only [List.length_append,List.length_take,List.length_drop,List.length_cons,List.length_nil];omega))) ?_
     refine rM ?_
     refine d9 (fX 2 (e:=3) (sz:=1) (by':=8) rfl (by kernel_rfl) rfl rfl rfl rfl rfl (by decide) (fun _ _=>⟨_,rfl⟩) (by(simp only [List.length_append,List.length_take,List.length_drop,List.length_cons,List.length_nil];omega)) (by(simp only [List.length_append,List.length_take,List.length_drop,List.length_cons,List.length_nil];omega))) ?_
     refine rA<|c9 ?_
     refine UY 4 2 rfl rfl ?_
     refine ER Tryz.func118 (.tmp rfl .nil) ?_ (hL:=⟨E7 ?_,trivial⟩) <;>(try clear ih0)
     all_goals first | rfl | ((rw [wW i2 i1 (fun y hy=>by(have e7:=Option.some.inj (hy.symm.trans hz3);omega))];simp))
   ·
    have g6':=l8 g6
    refine x9 (C9 g6) (fun _=>?_)
    refine x9 (C9 g6) (fun _=>?_)
    refine x9 (C9 g6) (fun _=>?_)
    refine x9 (C9 g6) (fun _=>?_)
    refine x9 (C9 g6) (fun _=>?_)
    refine d9 (H9 rfl rfl g6 rfl) ?_
    refine c9 ?_
    refine j9 rfl (C9 rfl) (fun _=>?_)
    refine m9<|w9<|rM ?_
    refine d9 (N4 1 (e:=3) (sz:=1) (zs:=[.int .i64 0]) (enc:=f9) x rfl rfl (by kernel_rfl) rfl rfl rfl rfl rfl rfl (.cons .sc .nil)) ?_
    refine rM ?_
    refine rM ?_
    refine d9 (iZ rfl (by kernel_rfl) rfl rfl (.l rfl (by omega) (by omega))) ?_
    refine d9 (a7 1 (e:=3) (sz:=1) (by':=8) rfl (by kernel_rfl) rfl rfl rfl rfl (fun _ _=>⟨_,rfl⟩) (by omega) (by omega)) ?_
    refine rA<|o7 ?_
    refine d9 (C7 2 (e:=3) (sz:=1) (zs:=[.int .i64 0]) f9 rfl rfl (by kernel_rfl) rfl) ?_
    refine rM ?_
    refine rM ?_
    refine d9 (iZ rfl (by kernel_rfl) rfl rfl (.h rfl (by omega) (by omega))) ?_
    refine d9 (a7 2 (e:=3) (sz:=1) (by':=8) rfl (by kernel_rfl) rfl rfl rfl rfl (fun _ _=>⟨_,rfl⟩) (by omega) (by omega)) ?_
    refine rM ?_
    refine d9 (fX 2 (e:=3) (sz:=1) (by':=8) rfl (by kernel_rfl) rfl rfl rfl rfl rfl (by decide) (fun _ _=>⟨_,rfl⟩) (by omega) (by omega)) ?_
    refine rA<|c9 ?_
    refine UY 4 2 rfl rfl ?_
    refine ER Tryz.func118 (.tmp rfl .nil) ?_ (hL:=⟨E7 ?_,trivial⟩) <;>(try clear ih0)
    all_goals first | rfl | ((rw [wW i2 i1 (fun y hy=>by(have e7:=Option.some.inj (hy.symm.trans hz3);omega))];simp))
 ·
  have g1':=l8 g1
  refine x9 (C9 g1) (fun _=>?_)
  refine x9 (C9 g1) (fun _=>?_)
  refine x9 (C9 g1) (fun _=>?_)
  refine x9 (C9 g1) (fun _=>?_)
  refine x9 (C9 g1) (fun _=>?_)
  refine d9 (H9 rfl rfl g1 rfl) ?_
  refine c9 ?_
  refine j9 rfl (C9 rfl) (fun _=>?_)
  refine R9 rfl<|k9<|w9<|rM ?_
  refine rM ?_
  refine d9 (M7 rfl rfl rfl rfl) ?_
  refine rB ?_
  refine rM ?_
  refine x9 (fun g8=>?_) (fun g8=>?_)
  ·
   have g8':=j8 g8
   refine rM ?_
   refine x9 (fun _=>?_) (nc g8)
   refine rM ?_
   refine x9 (fun _=>?_) (nc g8)
   obtain⟨z9,hz10,b11⟩:=t9 (xs:=l) (n:=(m:Int)) (by omega) (by omega)
   refine d9 (t8 rfl (by kernel_rfl) rfl rfl rfl b11 (f8 b11 hz10)) ?_
   refine x9 (fun _=>?_) (nc g8)
   refine d9 (p8 rfl (by kernel_rfl) rfl rfl rfl hz10) ?_
   refine x9 (fun _=>?_) (nc g8)
   refine rM ?_
   refine x9 (fun _=>?_) (nc g8)
   refine rB ?_
   refine d9 (M9 rfl rfl g8 rfl) ?_
   refine c9 ?_
   refine j9 rfl (fun h12=>?_) (fun h12=>?_)
   ·
    have h12':=j8 h12
    refine w9<|rM ?_
    refine rA<|c9 ?_
    refine mZ 0 rfl ?_
    refine ER Tryz.func118 (.tmp rfl .nil) ?_ (hL:=⟨E7 ?_,trivial⟩) <;>(try clear ih0)
    all_goals first | rfl | ((rw [CU i2 (by assumption) (by omega)];done))
   ·
    have h12':=l8 h12
    refine m9<|w9<|rM ?_
    refine d9 (N4 1 (e:=3) (sz:=1) (zs:=[.int .i64 0]) (enc:=f9) x rfl rfl (by kernel_rfl) rfl rfl rfl rfl rfl rfl (.cons .sc .nil)) ?_
    refine rM ?_
    refine rM ?_
    refine d9 (iZ rfl (by kernel_rfl) rfl rfl (.l rfl (by omega) (by omega))) ?_
    refine d9 (a7 1 (e:=3) (sz:=1) (by':=8) rfl (by kernel_rfl) rfl rfl rfl rfl (fun _ _=>⟨_,rfl⟩) (by omega) (by omega)) ?_
    refine rA<|o7 ?_
    refine d9 (C7 2 (e:=3) (sz:=1) (zs:=[.int .i64 0]) f9 rfl rfl (by kernel_rfl) rfl) ?_
    refine rM ?_
    refine rM ?_
    refine d9 (iZ rfl (by kernel_rfl) rfl rfl (.h rfl (by omega) (by omega))) ?_
    refine d9 (a7 2 (e:=3) (sz:=1) (by':=8) rfl (by kernel_rfl) rfl rfl rfl rfl (fun _ _=>⟨_,rfl⟩) (by omega) (by omega)) ?_
    refine rM ?_
    refine d9 (fX 2 (e:=3) (sz:=1) (by':=8) rfl (by kernel_rfl) rfl rfl rfl rfl rfl (by decide) (fun _ _=>⟨_,rfl⟩) (by omega) (by omega)) ?_
    refine rA<|c9 ?_
    refine UY 4 2 rfl rfl ?_
    refine ER Tryz.func118 (.tmp rfl .nil) ?_ (hL:=⟨E7 ?_,trivial⟩) <;>(try clear ih0)
    all_goals first | rfl | ((rw [wW i2 i1 (fun y hy=>by(have e7:=Option.some.inj (hy.symm.trans hz10);omega))];simp))
  ·
   have g8':=l8 g8
   refine x9 (C9 g8) (fun _=>?_)
   refine x9 (C9 g8) (fun _=>?_)
   refine x9 (C9 g8) (fun _=>?_)
   refine x9 (C9 g8) (fun _=>?_)
   refine x9 (C9 g8) (fun _=>?_)
   refine d9 (H9 rfl rfl g8 rfl) ?_
   refine c9 ?_
   refine j9 rfl (C9 rfl) (fun _=>?_)
   refine m9<|w9<|rM ?_
   refine d9 (N4 1 (e:=3) (sz:=1) (zs:=[.int .i64 0]) (enc:=f9) x rfl rfl (by kernel_rfl) rfl rfl rfl rfl rfl rfl (.cons .sc .nil)) ?_
   refine rM ?_
   refine rM ?_
   refine d9 (iZ rfl (by kernel_rfl) rfl rfl (.l rfl (by omega) (by omega))) ?_
   refine d9 (a7 1 (e:=3) (sz:=1) (by':=8) rfl (by kernel_rfl) rfl rfl rfl rfl (fun _ _=>⟨_,rfl⟩) (by(simp only [List.length_append,List.length_take,List.length_drop,List.length_cons,List.length_nil];omega)) (by(simp only [List.length_append,List.length_take,List.length_drop,List.length_cons,List.length_nil];omega))) ?_
   refine rA<|o7 ?_
   refine d9 (C7 2 (e:=3) (sz:=1) (zs:=[.int .i64 0]) f9 rfl rfl (by kernel_rfl) rfl) ?_
   refine rM ?_
   refine rM ?_
   refine d9 (iZ rfl (by kernel_rfl) rfl rfl (.h rfl (by omega) (by omega))) ?_
   refine d9 (a7 2 (e:=3) (sz:=1) (by':=8) rfl (by kernel_rfl) rfl rfl rfl rfl (fun _ _=>⟨_,rfl⟩) (by(simp only [List.length_append,List.length_take,List.length_drop,List.length_cons,List.length_nil];omega)) (by(simp only [List.length_append,List.length_take,List.length_drop,List.length_cons,List.length_nil];omega))) ?_
   refine rM ?_
   refine d9 (fX 2 (e:=3) (sz:=1) (by':=8) rfl (by kernel_rfl) rfl rfl rfl rfl rfl (by decide) (fun _ _=>⟨_,rfl⟩) (by(simp only [List.length_append,List.length_take,List.length_drop,List.length_cons,List.length_nil];omega)) (by(simp only [List.length_append,List.length_take,List.length_drop,List.length_cons,List.length_nil];omega))) ?_
   refine rA<|c9 ?_
   refine UY 4 2 rfl rfl ?_
   refine ER Tryz.func118 (.tmp rfl .nil) ?_ (hL:=⟨E7 ?_,trivial⟩) <;>(try clear ih0)
   all_goals first | rfl | ((rw [wW i2 i1 (fun y hy=>by(have e7:=(List.getElem?_eq_some_iff.1 hy).1;omega))];simp))
theorem K5 (l:List (Int × List Int))(hl:l7 (fun(x:Int ×(List Int))=>x.2.length) l≤1048576):Pu Tryz.prog 75 [.c (.t none (.sl 2 (E9 f9 (B9 1 f9)) l))] [(0,some (.row none 3 true 1 f9 (G9 (F9 l))))] 1 (.c (.own 0)):=by
 refine u6 Tryz.func75 fun w S=>?_
 have gl:=L8 (f:=(fun(x:Int ×(List Int))=>x.2.length)) (l:=l);have gv:=H7 l
 refine w9<|rA<|o7 ?_
 refine d9 (C7 0 (e:=3) (sz:=1) (zs:=[.int .i64 0]) f9 rfl rfl (by kernel_rfl) rfl) ?_
 refine rA<|c9<|k9<|w9 ?_
 refine rA<|c9<|r9 ?_
 refine L9 (fun m=>⟨[(0,some (.c (.t none (.sl 2 (E9 f9 (B9 1 f9)) l)))),(2,some (.c (.t none (.v (.slice none 0 0))))),(3,some (.c (.own 0))),(4,some (.c (.t none (.v (.int .i64 ((m:Int)))))))],[(0,some (.row none 3 true 1 f9 (G9 (F9 (l.take m)))))],1⟩:Nat→St) (fun m=>m≤l.length) (fun m=>l.length - m) 0 ⟨⟨rfl,⟨rfl,⟨rfl,⟨rfl,trivial⟩⟩⟩⟩,⟨rfl,trivial⟩,rfl⟩ (by exact Nat.zero_le _) ?_
 rintro m hI ih0
 try dsimp only at hI ih0
 have i1:=hI
 refine k9<|w9<|rM ?_
 refine rM ?_
 refine d9 (S9 rfl rfl rfl) ?_
 refine rB<|c9 ?_
 refine j9 rfl (fun h1=>?_) (fun h1=>?_)
 ·
  have h1':=j8 h1
  refine m9<|k9<|r9<|w9<|rA<|c9<|r9 ?_
  refine L9 (fun n=>⟨[(0,some (.c (.t none (.sl 2 (E9 f9 (B9 1 f9)) l)))),(2,some (.c (.t none (.v (.slice none 0 0))))),(3,some (.c (.own 0))),(4,some (.c (.t none (.v (.int .i64 ((m:Int))))))),(5,some (.c (.t none (.v (.int .i64 ((n:Int)))))))],[(0,some (.row none 3 true 1 f9 (G9 (F9 (l.take m)++C6 ((l.getD m (0,[])).2.take n)))))],1⟩:Nat→St) (fun n=>n≤(l.getD m (0,[])).2.length) (fun n=>(l.getD m (0,[])).2.length - n) 0 ⟨⟨rfl,⟨rfl,⟨rfl,⟨rfl,⟨rfl,trivial⟩⟩⟩⟩⟩,⟨(E7 (by rw [EV,List.append_nil])),trivial⟩,rfl⟩ (by exact Nat.zero_le _) ?_
  rintro n hI ih1
  try dsimp only at hI ih1
  have j1:=hI;have hzv:=cJ (l:=l) (m:=m) (by omega);have vp:=NU (n:=n) hzv;(have e1:=j6 (f:=(fun(x:Int ×(List Int))=>x.2.length)) (l:=l) (m:=m) hzv;(try dsimp only at e1));have sl:=F7 (F9 (l.take m)++C6 ((l.getD m (0,[])).2.take n));rw [List.length_append] at sl
  refine k9<|w9<|rM ?_
  refine rM ?_
  refine rM ?_
  obtain⟨z2,hz3,b4⟩:=t9 (xs:=l) (n:=(m:Int)) (by omega) (by omega)
  refine d9 (P9 rfl (by kernel_rfl) rfl rfl b4 hz3) ?_
  refine d9 (K1 rfl (off:=1) (by kernel_rfl) rfl) ?_
  refine d9 (c8 rfl (by kernel_rfl) rfl rfl) ?_
  refine d9 (S9 rfl rfl rfl) ?_
  refine rB<|c9 ?_
  refine j9 rfl (fun h5=>?_) (fun h5=>?_)
  ·
   have h5':=j8 h5
   refine m9<|k9<|r9<|w9<|rM ?_
   refine rM ?_
   refine d9 (P9 rfl (by kernel_rfl) rfl rfl b4 hz3) ?_
   refine d9 (K1 rfl (off:=1) (by kernel_rfl) rfl) ?_
   refine d9 (c8 rfl (by kernel_rfl) rfl rfl) ?_
   refine rM ?_
   obtain⟨z6,hz7,b8⟩:=t9 (xs:=z2.2) (n:=(n:Int)) (by omega) (by omega)
   refine d9 (P9 rfl (by kernel_rfl) rfl rfl b8 hz7) ?_
   refine d9 (c8 rfl (by kernel_rfl) rfl rfl) ?_
   refine rB<|c9 ?_
   refine j9 rfl (fun h9=>?_) (fun h9=>?_)
   ·
    have h9':=j8 h9
    refine l9<|rM ?_
    refine rM ?_
    refine rM ?_
    refine d9 (P9 rfl (by kernel_rfl) rfl rfl b4 hz3) ?_
    refine d9 (K1 rfl (off:=1) (by kernel_rfl) rfl) ?_
    refine d9 (c8 rfl (by kernel_rfl) rfl rfl) ?_
    refine rM ?_
    refine d9 (P9 rfl (by kernel_rfl) rfl rfl b8 hz7) ?_
    refine d9 (c8 rfl (by kernel_rfl) rfl rfl) ?_
    refine d9 (kX 0 (l':=U3 (G9 (F9 (l.take m)++C6 ((l.getD m (0,[])).2.take n))) z6) (N9 Tryz.func118) (fun U=>HZ U  (G9 (F9 (l.take m)++C6 ((l.getD m (0,[])).2.take n))) z6 (by omega)) rfl rfl (.cons rfl (.own rfl) (.cons rfl .t0 .nil))) ?_
    refine rA<|c9<|i9<|l9 ?_
    refine rM ?_
    refine rB ?_
    refine rA<|c9 ?_
    have gd3:=Option.some.inj (hzv.symm.trans hz3);have gd4:=congrArg (fun q=>q.2.length) gd3;(try dsimp only at gd4);have hx9:(l.getD m (0,[])).2[n]? =some z6:=by rw [gd3];exact hz7
    refine n8 ?_ (ih1 (n + 1) (by(try dsimp only);omega) (by(try dsimp only);omega))
    exact⟨⟨rfl,⟨rfl,⟨rfl,⟨rfl,⟨(i6 (s8 (by omega) (by omega))),trivial⟩⟩⟩⟩⟩,⟨(E7 (by(rw [xV hx9 (by omega),← List.append_assoc,nV];done))),trivial⟩,rfl⟩
   ·
    have h9':=l8 h9
    refine m9<|i9<|l9<|rM ?_
    refine rB ?_
    refine rA<|c9 ?_
    have gd3:=Option.some.inj (hzv.symm.trans hz3);have gd4:=congrArg (fun q=>q.2.length) gd3;(try dsimp only at gd4);have hx9:(l.getD m (0,[])).2[n]? =some z6:=by rw [gd3];exact hz7
    refine n8 ?_ (ih1 (n + 1) (by(try dsimp only);omega) (by(try dsimp only);omega))
    exact⟨⟨rfl,⟨rfl,⟨rfl,⟨rfl,⟨(i6 (s8 (by omega) (by omega))),trivial⟩⟩⟩⟩⟩,⟨(E7 (by(rw [DV hx9 (by omega)];done))),trivial⟩,rfl⟩
  ·
   have h5':=l8 h5
   refine R9 rfl<|i9<|l9<|rM ?_
   refine rB ?_
   refine rA<|c9 ?_
   have gd3:=Option.some.inj (hzv.symm.trans hz3)
   refine n8 ?_ (ih0 (m + 1) (by(try dsimp only);omega) (by(try dsimp only);omega))
   exact⟨⟨rfl,⟨rfl,⟨rfl,⟨(i6 (s8 (by omega) (by omega))),trivial⟩⟩⟩⟩,⟨(E7 (by rw [TX hzv,gd3];congr 3;exact List.take_of_length_le (by rw [gd3] at j1;omega))),trivial⟩,rfl⟩
 ·
  have h1':=l8 h1
  refine R9 rfl<|w9<|rM ?_
  refine rA<|c9 ?_
  refine tk Tryz.func75 (.tmp rfl .nil) ?_ (hL:=⟨E7 ?_,trivial⟩) <;>(try clear ih0) <;>(try clear ih1)
  all_goals first | rfl | ((rw [jX (by omega)]))
theorem IX (code:List Int)(i h:Int)(hc:code.length≤1048576)(hi0:0≤i)(hi1:i≤code.length):MS Tryz.prog 54 [.c (.ptr 0 0)] [.t none (.sl 1 f6 code),.t none (.v (.int .i64 i)),.t none (.v (.int .i64 h))] (fun(⟨b,hs,e,lv,rv,i2,h2⟩:p9 × p9 × Bool × Int × Int × Int × Int)=>yY (b,hs,e,lv,rv)∧hs.length≤2∧0≤i2∧i2≤code.length) (fun(⟨b,hs,e,lv,rv,i2,h2⟩:p9 × p9 × Bool × Int × Int × Int × Int)=>[.t none (.sl 1 f6 code),.t none (.v (.int .i64 i2)),.t none (.v (.int .i64 h2))]) (fun(⟨b,hs,e,lv,rv,i2,h2⟩:p9 × p9 × Bool × Int × Int × Int × Int)=>[(5,some (.row none 55 true 2 (E9 f9 (B9 1 f9)) b)),(6,some (.row none 55 true 2 (E9 f9 (B9 1 f9)) hs))]) 7 (fun(⟨b,hs,e,lv,rv,i2,h2⟩:p9 × p9 × Bool × Int × Int × Int × Int)=> .agg [.own 5,.own 6,.t none (.v (.bool e)),.t none (.v (.int .i64 lv)),.t none (.v (.int .i64 rv))]):=by
 refine J7 Tryz.func54 rfl (Nat.le_of_ble_eq_true rfl) fun v0 w S M hM=>?_
 refine w9 ?_
 refine d9 (I9 1 (zs:=[.slice none 0 0,.slice none 0 0,.bool false,.int .i64 0,.int .i64 0]) rfl rfl (by kernel_rfl) rfl) ?_
 refine c9<|k9<|w9<|rM ?_
 refine p7 (s9 0 2 3 (pv:=some v0) (N9 Tryz.func18) (J6 code i h 3 (by omega) (by omega) (by omega) (by omega) (by omega)) rfl rfl (.cur rfl (.cons rfl .nil)) rfl (fun⟨_,_,_⟩=>rfl) (fun _=>rfl) (fun⟨_,_,_⟩=>rfl) rfl rfl) ?_
 rintro⟨⟨b1,i22,h23⟩,hq4⟩
 try dsimp only at hq4
 try dsimp only
 refine d9 (Q8 rfl rfl) ?_
 refine c9 ?_
 refine j9 rfl (fun h6=>?_) (fun h6=>?_)
 ·
  have h6':=(P4 h6)
  refine w9<|rM ?_
  refine p7 (s9 0 3 7 (pv:=some v0) (N9 Tryz.func103) (xT code i22 h23 (by omega) (by omega) (by omega)) rfl rfl (.cur rfl .nil) rfl (fun⟨_,_,_,_,_,_,_⟩=>rfl) (fun _=>rfl) (fun⟨_,_,_,_,_,_,_⟩=>rfl) rfl rfl) ?_
  rintro⟨⟨b7,hs8,e9,lv10,rv11,i212,h213⟩,hq14⟩
  try dsimp only at hq14
  try dsimp only
  obtain⟨q15,q16,q17⟩:=hq14
  refine rS 5<|c9 ?_
  refine w7 Tryz.func54 (r8 5 .nil) (⟨b7,hs8,e9,lv10,rv11,i212,h213⟩) ?_ ?_ (hL:=⟨rfl,⟨rfl,⟨rfl,trivial⟩⟩⟩) <;>(try clear ih0) <;>(try clear ih1)
  ·(try dsimp only) <;>((exact⟨by assumption,by assumption,by omega⟩))
  ·rfl
 ·
  have h6':=(O4 h6)
  refine m9<|w9 ?_
  refine d9 (oD [(0,1),(1,1),(2,1),(3,1),(4,1)] [.slice none 0 0,.slice none 0 0,.bool false,.int .i64 0,.int .i64 0]) ?_
  refine d9 (I9 3 (zs:=[.slice none 0 0,.slice none 0 0,.bool false,.int .i64 0,.int .i64 0]) rfl rfl (by kernel_rfl) rfl) ?_
  refine rS 5<|c9<|k9<|w9 ?_
  refine rM ?_
  refine p7 (s9 0 4 5 (pv:=some v0) (N9 Tryz.func19) (A9 code i22 h23 2 (by omega) (by omega) (by omega) (by omega) (by omega)) rfl rfl (.cur rfl (.cons rfl .nil)) rfl (fun⟨_,_,_⟩=>rfl) (fun _=>rfl) (fun⟨_,_,_⟩=>rfl) rfl rfl) ?_
  rintro⟨⟨x18,i219,h220⟩,hq21⟩
  try dsimp only at hq21
  try dsimp only
  obtain⟨q22,q23⟩:=hq21
  refine rB ?_
  refine rA<|c9<|r9 ?_
  refine I6 5 (b:=3) (o:=0) (et:=55) (sz:=2) true (E9 f9 (B9 1 f9)) rfl rfl rfl ?_
  refine I6 6 (b:=3) (o:=1) (et:=55) (sz:=2) true (E9 f9 (B9 1 f9)) rfl rfl rfl ?_
  refine L9 (fun(kk,bs,i3,h3)=>⟨[(0,some (.c (.ptr 0 0))),(2,some (.c (.ptr 1 0))),(3,some (.c (.ptr 3 0))),(4,some (.c (.t none (.v (.int .i64 kk)))))],[(0,some (.pbox v0 [.t none (.sl 1 f6 code),.t none (.v (.int .i64 i3)),.t none (.v (.int .i64 h3))])),(1,some (.box [.t none (.v (.slice none 0 0)),.t none (.v (.slice none 0 0)),.t none (.v (.bool false)),.t none (.v (.int .i64 0)),.t none (.v (.int .i64 0))])),(3,some (.box [.own 5,.own 6,.t none (.v (.bool false)),.t none (.v (.int .i64 0)),.t none (.v (.int .i64 0))])),(5,some (.row none 55 true 2 (E9 f9 (B9 1 f9)) bs)),(6,some (.row none 55 true 2 (E9 f9 (B9 1 f9)) ([])))],7⟩:Int × p9 × Int × Int→St) (fun(kk,bs,i3,h3)=>(0≤kk∧kk≤2)∧(1≤IntKind.i64.wrap (1 + x18)∧IntKind.i64.wrap (1 + x18)≤2)∧((bs.length:Int) + kk=IntKind.i64.wrap (1 + x18))∧(∀a∈bs,B2 a)∧(0≤i3∧i3≤code.length)) (fun(kk,bs,i3,h3)=>kk.toNat) (IntKind.i64.wrap (1 + x18),[],i219,h220) ⟨⟨rfl,⟨rfl,⟨rfl,⟨rfl,trivial⟩⟩⟩⟩,⟨rfl,⟨rfl,⟨rfl,⟨rfl,⟨rfl,trivial⟩⟩⟩⟩⟩,rfl⟩ (by exact⟨(by(try dsimp only);((try simp only [IntKind.wrap_i64] at *);omega)),(by(try dsimp only);((try simp only [IntKind.wrap_i64] at *);omega)),(by(try dsimp only);simp),(fun a ha=>by simp at ha),(by(try dsimp only);omega)⟩) ?_
  rintro⟨kk,bs,i3,h3⟩ hI ih0
  try dsimp only at hI ih0
  obtain⟨b1,b2,b3,b4,b5⟩:=hI
  refine k9<|w9<|rM ?_
  refine rB<|c9 ?_
  refine j9 rfl (fun h24=>?_) (fun h24=>?_)
  ·
   have h24':=j8 h24
   refine m9<|k9<|r9 ?_
   refine tD (fun i=>!(Nat.beq i 4||Nat.beq i 5||Nat.beq i 7||Nat.beq i 9)) ?_
   refine y7 0 rfl rfl (by kernel_rfl) (by kernel_rfl) (by kernel_rfl) (W7 (off:=0) (by kernel_rfl) rfl) ?_
   refine y7 2 rfl rfl (by kernel_rfl) (by kernel_rfl) (by kernel_rfl) (V4 rfl) ?_
   refine dT 3 rfl pM ?_
   refine d7 1 4 rfl rfl (by kernel_rfl) rfl rfl (V0 oL) (s9 0 7 8 (pv:=some v0) (N9 Tryz.func19) (A9 code i3 h3 5 (by omega) (by omega) (by omega) (by omega) (by omega)) rfl rfl (.cur rfl (.cons rfl .nil)) rfl (fun⟨_,_,_⟩=>rfl) (fun _=>rfl) (fun⟨_,_,_⟩=>rfl) rfl rfl) ?_ ?_
   ·
    rintro⟨⟩
    refine lZ 4 rfl (s9 0 7 8 (pv:=some v0) (N9 Tryz.func19) (A9 code i3 h3 5 (by omega) (by omega) (by omega) (by omega) (by omega)) rfl rfl (.cur rfl (.cons rfl .nil)) rfl (fun⟨_,_,_⟩=>rfl) (fun _=>rfl) (fun⟨_,_,_⟩=>rfl) rfl rfl) ?_
    rintro⟨⟨x31,i232,h233⟩,hq34⟩
    try dsimp only at hq34
    try dsimp only
    obtain⟨q35,q36⟩:=hq34
    refine lZ 5 rfl (s9 0 8 13 (pv:=some v0) (N9 Tryz.func104) (D7 code i232 h233 x31 3 (by omega) (by omega) (by omega) (by omega) (by omega)) rfl rfl (.cur rfl (.cons rfl (.cons rfl .nil))) rfl (fun⟨_,_,_⟩=>rfl) (fun _=>rfl) (fun⟨_,_,_⟩=>rfl) rfl rfl) ?_
    rintro⟨⟨ts37,i238,h239⟩,hq40⟩
    try dsimp only at hq40
    try dsimp only
    obtain⟨q41,q42,q43⟩:=hq40
    have hy9:∀x∈ts37, -3≤x∧x≤4:=(by assumption)
    refine dO 6 rfl (G8 13 (e:=55) (sz:=2) (zs:=[.int .i64 0,.slice none 0 0]) rfl rfl (by kernel_rfl) rfl rfl rfl rfl rfl) ?_
    refine dO 7 rfl (i8 5 (e:=55) (sz:=2) (by':=32) ((x31,ts37)) rfl (by kernel_rfl) rfl rfl rfl rfl rfl rfl (.cons .sc (.take (.own rfl) rfl .nil)) rfl (by omega) (by omega)) ?_
    refine dT 8 rfl (pF 0) ?_
    refine dO 9 rfl (oS 1) ?_
    refine dE ?_
    refine i9<|l9<|rM ?_
    refine rB ?_
    refine rA<|c9 ?_
    refine n8 ?_ (ih0 (IntKind.i64.wrap (kk - 1),bs++[(x31,ts37)],i238,h239) (by(try dsimp only);((try simp only [IntKind.wrap_i64] at *);omega)) (by(try dsimp only);exact⟨(by((try simp only [IntKind.wrap_i64] at *);omega)),b2,(by(simp only [List.length_append,List.length_singleton]);((try simp only [IntKind.wrap_i64] at *);omega)),m7 b4 ⟨(by((try simp only [IntKind.wrap_i64] at *);omega)),(by(try dsimp only);omega),(fun x hx=>by have e9:=hy9 x hx;omega)⟩,by omega⟩))
    exact⟨⟨rfl,⟨rfl,⟨rfl,⟨rfl,trivial⟩⟩⟩⟩,⟨rfl,⟨rfl,⟨rfl,⟨rfl,⟨rfl,trivial⟩⟩⟩⟩⟩,rfl⟩
   ·
    rintro⟨⟨x25,i226,h227⟩,hq28⟩
    try dsimp only at hq28
    try dsimp only
    obtain⟨q29,q30⟩:=hq28
    refine d7 1 5 rfl rfl (by kernel_rfl) rfl rfl (V0 oL) (s9 0 8 13 (pv:=some v0) (N9 Tryz.func104) (D7 code i226 h227 x25 3 (by omega) (by omega) (by omega) (by omega) (by omega)) rfl rfl (.cur rfl (.cons rfl (.cons rfl .nil))) rfl (fun⟨_,_,_⟩=>rfl) (fun _=>rfl) (fun⟨_,_,_⟩=>rfl) rfl rfl) ?_ ?_
    ·
     rintro⟨⟩
     refine lZ 5 rfl (s9 0 8 13 (pv:=some v0) (N9 Tryz.func104) (D7 code i226 h227 x25 3 (by omega) (by omega) (by omega) (by omega) (by omega)) rfl rfl (.cur rfl (.cons rfl (.cons rfl .nil))) rfl (fun⟨_,_,_⟩=>rfl) (fun _=>rfl) (fun⟨_,_,_⟩=>rfl) rfl rfl) ?_
     rintro⟨⟨ts51,i252,h253⟩,hq54⟩
     try dsimp only at hq54
     try dsimp only
     obtain⟨q55,q56,q57⟩:=hq54
     have hy9:∀x∈ts51, -3≤x∧x≤4:=(by assumption)
     refine dO 6 rfl (G8 13 (e:=55) (sz:=2) (zs:=[.int .i64 0,.slice none 0 0]) rfl rfl (by kernel_rfl) rfl rfl rfl rfl rfl) ?_
     refine dO 7 rfl (i8 5 (e:=55) (sz:=2) (by':=32) ((x25,ts51)) rfl (by kernel_rfl) rfl rfl rfl rfl rfl rfl (.cons .sc (.take (.own rfl) rfl .nil)) rfl (by omega) (by omega)) ?_
     refine dT 8 rfl (pF 0) ?_
     refine dO 9 rfl (oS 1) ?_
     refine dE ?_
     refine i9<|l9<|rM ?_
     refine rB ?_
     refine rA<|c9 ?_
     refine n8 ?_ (ih0 (IntKind.i64.wrap (kk - 1),bs++[(x25,ts51)],i252,h253) (by(try dsimp only);((try simp only [IntKind.wrap_i64] at *);omega)) (by(try dsimp only);exact⟨(by((try simp only [IntKind.wrap_i64] at *);omega)),b2,(by(simp only [List.length_append,List.length_singleton]);((try simp only [IntKind.wrap_i64] at *);omega)),m7 b4 ⟨(by((try simp only [IntKind.wrap_i64] at *);omega)),(by(try dsimp only);omega),(fun x hx=>by have e9:=hy9 x hx;omega)⟩,by omega⟩))
     exact⟨⟨rfl,⟨rfl,⟨rfl,⟨rfl,trivial⟩⟩⟩⟩,⟨rfl,⟨rfl,⟨rfl,⟨rfl,⟨rfl,trivial⟩⟩⟩⟩⟩,rfl⟩
    ·
     rintro⟨⟨ts44,i245,h246⟩,hq47⟩
     try dsimp only at hq47
     try dsimp only
     obtain⟨q48,q49,q50⟩:=hq47
     have hy9:∀x∈ts44, -3≤x∧x≤4:=(by assumption)
     refine dT 1 rfl pL ?_
     refine dO 6 rfl (G8 13 (e:=55) (sz:=2) (zs:=[.int .i64 0,.slice none 0 0]) rfl rfl (by kernel_rfl) rfl rfl rfl rfl rfl) ?_
     refine dO 7 rfl (i8 5 (e:=55) (sz:=2) (by':=32) ((x25,ts44)) rfl (by kernel_rfl) rfl rfl rfl rfl rfl rfl (.cons .sc (.take (.own rfl) rfl .nil)) rfl (by omega) (by omega)) ?_
     refine dT 8 rfl (pF 0) ?_
     refine dO 9 rfl (oS 1) ?_
     refine dE ?_
     refine i9<|l9<|rM ?_
     refine rB ?_
     refine rA<|c9 ?_
     refine n8 ?_ (ih0 (IntKind.i64.wrap (kk - 1),bs++[(x25,ts44)],i245,h246) (by(try dsimp only);((try simp only [IntKind.wrap_i64] at *);omega)) (by(try dsimp only);exact⟨(by((try simp only [IntKind.wrap_i64] at *);omega)),b2,(by(simp only [List.length_append,List.length_singleton]);((try simp only [IntKind.wrap_i64] at *);omega)),m7 b4 ⟨(by((try simp only [IntKind.wrap_i64] at *);omega)),(by(try dsimp only);omega),(fun x hx=>by have e9:=hy9 x hx;omega)⟩,by omega⟩))
     exact⟨⟨rfl,⟨rfl,⟨rfl,⟨rfl,trivial⟩⟩⟩⟩,⟨rfl,⟨rfl,⟨rfl,⟨rfl,⟨rfl,trivial⟩⟩⟩⟩⟩,rfl⟩
  ·
   have h24':=l8 h24
   refine R9 rfl<|w9<|rF 0 ?_
   refine rL ?_
   refine d9 (n9 7 8 false (N9 Tryz.func75) (K5 bs (by(have e7:=BV b4;omega))) rfl (.cons rfl (.c (.own rfl)) .nil) rfl rfl rfl) ?_
   refine rA<|c9<|k9<|w9 ?_
   refine rM ?_
   refine d9 (M7 rfl rfl rfl rfl) ?_
   refine rB ?_
   refine rM ?_
   refine x9 (fun g58=>?_) (fun g58=>?_)
   ·
    have g58':=j8 g58
    refine rM ?_
    refine x9 (fun _=>?_) (nc g58)
    refine p7 (s9 0 8 9 (pv:=some v0) (N9 Tryz.func18) (J6 code i3 h3 3 (by omega) (by omega) (by omega) (by omega) (by omega)) rfl rfl (.cur rfl (.cons rfl .nil)) rfl (fun⟨_,_,_⟩=>rfl) (fun _=>rfl) (fun⟨_,_,_⟩=>rfl) rfl rfl) ?_
    rintro⟨⟨b59,i260,h261⟩,hq62⟩
    try dsimp only at hq62
    try dsimp only
    refine d9 (M9 rfl rfl g58 rfl) ?_
    refine c9 ?_
    refine j9 rfl (fun h64=>?_) (fun h64=>?_)
    ·
     have h64':=h64
     refine w9<|rF 2 ?_
     refine rS 1<|o7 ?_
     refine rM ?_
     obtain⟨z65,hz66,b67⟩:=t9 (xs:=G9 (F9 bs)) (n:=0) (by omega) (by omega)
     refine d9 (t8 rfl (by kernel_rfl) rfl rfl rfl b67 (f8 b67 hz66)) ?_
     refine d9 (p8 rfl (by kernel_rfl) rfl rfl rfl hz66) ?_
     refine rF 3 ?_
     refine rS 1<|o7 ?_
     refine rM ?_
     obtain⟨z68,hz69,b70⟩:=t9 (xs:=G9 (F9 bs)) (n:=1) (by omega) (by omega)
     refine d9 (t8 rfl (by kernel_rfl) rfl rfl rfl b70 (f8 b70 hz69)) ?_
     refine d9 (p8 rfl (by kernel_rfl) rfl rfl rfl hz69) ?_
     refine rF 4 ?_
     refine rS 1<|o7 ?_
     refine rC 5 ?_
     refine rS 5<|c9 ?_
     refine w7 Tryz.func54 (r8 5 .nil) (⟨bs,[],true,z65,z68,i260,h261⟩) ?_ ?_ (hL:=⟨rfl,⟨rfl,⟨rfl,trivial⟩⟩⟩) <;>(try clear ih0) <;>(try clear ih1)
     ·(try dsimp only) <;>((refine⟨⟨by(try dsimp only);omega,by(try dsimp only);(simp;done),b4,(by(intro a ha;simp at ha)),?_,?_⟩,by(simp;done),by omega⟩ <;>(try dsimp only) <;>(have e1:=ZO b4 _ ((Z6 _ _).1 (J8 hz66));have e2:=ZO b4 _ ((Z6 _ _).1 (J8 hz69));omega)))
     ·rfl
    ·
     have h64':=h64
     refine m9<|k9<|w9<|rM ?_
     refine p7 (s9 0 9 10 (pv:=some v0) (N9 Tryz.func19) (A9 code i260 h261 2 (by omega) (by omega) (by omega) (by omega) (by omega)) rfl rfl (.cur rfl (.cons rfl .nil)) rfl (fun⟨_,_,_⟩=>rfl) (fun _=>rfl) (fun⟨_,_,_⟩=>rfl) rfl rfl) ?_
     rintro⟨⟨x71,i272,h273⟩,hq74⟩
     try dsimp only at hq74
     try dsimp only
     obtain⟨q75,q76⟩:=hq74
     refine rB ?_
     refine rA<|c9<|r9 ?_
     refine L9 (fun(kk,gs,i3,h3)=>⟨[(0,some (.c (.ptr 0 0))),(2,some (.c (.ptr 1 0))),(3,some (.c (.ptr 3 0))),(6,some (.c (.t none (.v (.int .i64 kk)))))],[(0,some (.pbox v0 [.t none (.sl 1 f6 code),.t none (.v (.int .i64 i3)),.t none (.v (.int .i64 h3))])),(1,some (.box [.t none (.v (.slice none 0 0)),.t none (.v (.slice none 0 0)),.t none (.v (.bool false)),.t none (.v (.int .i64 0)),.t none (.v (.int .i64 0))])),(3,some (.box [.own 5,.own 6,.t none (.v (.bool false)),.t none (.v (.int .i64 0)),.t none (.v (.int .i64 0))])),(5,some (.row none 55 true 2 (E9 f9 (B9 1 f9)) bs)),(6,some (.row none 55 true 2 (E9 f9 (B9 1 f9)) gs)),(7,some (.row none 3 true 1 f9 (G9 (F9 bs))))],10⟩:Int × p9 × Int × Int→St) (fun(kk,gs,i3,h3)=>(0≤kk∧kk≤2)∧(1≤IntKind.i64.wrap (1 + x71)∧IntKind.i64.wrap (1 + x71)≤2)∧((gs.length:Int) + kk=IntKind.i64.wrap (1 + x71))∧(∀a∈gs,B2 a)∧(0≤i3∧i3≤code.length)) (fun(kk,gs,i3,h3)=>kk.toNat) (IntKind.i64.wrap (1 + x71),[],i272,h273) ⟨⟨rfl,⟨rfl,⟨rfl,⟨rfl,trivial⟩⟩⟩⟩,⟨rfl,⟨rfl,⟨rfl,⟨rfl,⟨rfl,⟨rfl,trivial⟩⟩⟩⟩⟩⟩,rfl⟩ (by exact⟨(by(try dsimp only);((try simp only [IntKind.wrap_i64] at *);omega)),(by(try dsimp only);((try simp only [IntKind.wrap_i64] at *);omega)),(by(try dsimp only);simp),(fun a ha=>by simp at ha),(by(try dsimp only);omega)⟩) ?_
     rintro⟨kk,gs,i3,h3⟩ hI ih1
     try dsimp only at hI ih1
     obtain⟨g1,g2,g3,g4,g5⟩:=hI
     refine k9<|w9<|rM ?_
     refine rB<|c9 ?_
     refine j9 rfl (fun h77=>?_) (fun h77=>?_)
     ·
      have h77':=j8 h77
      refine m9<|k9<|r9 ?_
      refine tD (fun i=>!(Nat.beq i 4||Nat.beq i 6||Nat.beq i 8||Nat.beq i 10)) ?_
      refine y7 0 rfl rfl (by kernel_rfl) (by kernel_rfl) (by kernel_rfl) (W7 (off:=1) (by kernel_rfl) rfl) ?_
      refine y7 2 rfl rfl (by kernel_rfl) (by kernel_rfl) (by kernel_rfl) (V4 rfl) ?_
      refine dT 3 rfl pM ?_
      refine d7 1 4 rfl rfl (by kernel_rfl) rfl rfl (V0 oL) (s9 0 10 11 (pv:=some v0) (N9 Tryz.func19) (A9 code i3 h3 3 (by omega) (by omega) (by omega) (by omega) (by omega)) rfl rfl (.cur rfl (.cons rfl .nil)) rfl (fun⟨_,_,_⟩=>rfl) (fun _=>rfl) (fun⟨_,_,_⟩=>rfl) rfl rfl) ?_ ?_
      ·
       rintro⟨⟩
       refine lZ 4 rfl (s9 0 10 11 (pv:=some v0) (N9 Tryz.func19) (A9 code i3 h3 3 (by omega) (by omega) (by omega) (by omega) (by omega)) rfl rfl (.cur rfl (.cons rfl .nil)) rfl (fun⟨_,_,_⟩=>rfl) (fun _=>rfl) (fun⟨_,_,_⟩=>rfl) rfl rfl) ?_
       rintro⟨⟨x84,i285,h286⟩,hq87⟩
       try dsimp only at hq87
       try dsimp only
       obtain⟨q88,q89⟩:=hq87
       refine dT 5 rfl pB ?_
       refine lZ 6 rfl (s9 0 11 16 (pv:=some v0) (N9 Tryz.func104) (D7 code i285 h286 (IntKind.i64.wrap (2 + x84)) 4 (by omega) (by omega) (by omega) (by(simp only [IntKind.wrap_i64] at *;omega)) (by omega)) rfl rfl (.cur rfl (.cons rfl (.cons rfl .nil))) rfl (fun⟨_,_,_⟩=>rfl) (fun _=>rfl) (fun⟨_,_,_⟩=>rfl) rfl rfl) ?_
       rintro⟨⟨ts90,i291,h292⟩,hq93⟩
       try dsimp only at hq93
       try dsimp only
       obtain⟨q94,q95,q96⟩:=hq93
       have hy9:∀x∈ts90, -3≤x∧x≤4:=(by assumption)
       refine dO 7 rfl (G8 16 (e:=55) (sz:=2) (zs:=[.int .i64 0,.slice none 0 0]) rfl rfl (by kernel_rfl) rfl rfl rfl rfl rfl) ?_
       refine dO 8 rfl (i8 6 (e:=55) (sz:=2) (by':=32) (((IntKind.i64.wrap (2 + x84)),ts90)) rfl (by kernel_rfl) rfl rfl rfl rfl rfl rfl (.cons .sc (.take (.own rfl) rfl .nil)) rfl (by omega) (by omega)) ?_
       refine dT 9 rfl (pF 1) ?_
       refine dO 10 rfl (oS 1) ?_
       refine dE ?_
       refine i9<|l9<|rM ?_
       refine rB ?_
       refine rA<|c9 ?_
       refine n8 ?_ (ih1 (IntKind.i64.wrap (kk - 1),gs++[((IntKind.i64.wrap (2 + x84)),ts90)],i291,h292) (by(try dsimp only);((try simp only [IntKind.wrap_i64] at *);omega)) (by(try dsimp only);exact⟨(by((try simp only [IntKind.wrap_i64] at *);omega)),g2,(by(simp only [List.length_append,List.length_singleton]);((try simp only [IntKind.wrap_i64] at *);omega)),m7 g4 ⟨(by((try simp only [IntKind.wrap_i64] at *);omega)),(by(try dsimp only);omega),(fun x hx=>by have e9:=hy9 x hx;omega)⟩,by omega⟩))
       exact⟨⟨rfl,⟨rfl,⟨rfl,⟨rfl,trivial⟩⟩⟩⟩,⟨rfl,⟨rfl,⟨rfl,⟨rfl,⟨rfl,⟨rfl,trivial⟩⟩⟩⟩⟩⟩,rfl⟩
      ·
       rintro⟨⟨x78,i279,h280⟩,hq81⟩
       try dsimp only at hq81
       try dsimp only
       obtain⟨q82,q83⟩:=hq81
       refine dT 5 rfl pB ?_
       refine d7 1 6 rfl rfl (by kernel_rfl) rfl rfl (V0 oL) (s9 0 11 16 (pv:=some v0) (N9 Tryz.func104) (D7 code i279 h280 (IntKind.i64.wrap (2 + x78)) 4 (by omega) (by omega) (by omega) (by(simp only [IntKind.wrap_i64] at *;omega)) (by omega)) rfl rfl (.cur rfl (.cons rfl (.cons rfl .nil))) rfl (fun⟨_,_,_⟩=>rfl) (fun _=>rfl) (fun⟨_,_,_⟩=>rfl) rfl rfl) ?_ ?_
       ·
        rintro⟨⟩
        refine lZ 6 rfl (s9 0 11 16 (pv:=some v0) (N9 Tryz.func104) (D7 code i279 h280 (IntKind.i64.wrap (2 + x78)) 4 (by omega) (by omega) (by omega) (by(simp only [IntKind.wrap_i64] at *;omega)) (by omega)) rfl rfl (.cur rfl (.cons rfl (.cons rfl .nil))) rfl (fun⟨_,_,_⟩=>rfl) (fun _=>rfl) (fun⟨_,_,_⟩=>rfl) rfl rfl) ?_
        rintro⟨⟨ts104,i2105,h2106⟩,hq107⟩
        try dsimp only at hq107
        try dsimp only
        obtain⟨q108,q109,q110⟩:=hq107
        have hy9:∀x∈ts104, -3≤x∧x≤4:=(by assumption)
        refine dO 7 rfl (G8 16 (e:=55) (sz:=2) (zs:=[.int .i64 0,.slice none 0 0]) rfl rfl (by kernel_rfl) rfl rfl rfl rfl rfl) ?_
        refine dO 8 rfl (i8 6 (e:=55) (sz:=2) (by':=32) (((IntKind.i64.wrap (2 + x78)),ts104)) rfl (by kernel_rfl) rfl rfl rfl rfl rfl rfl (.cons .sc (.take (.own rfl) rfl .nil)) rfl (by omega) (by omega)) ?_
        refine dT 9 rfl (pF 1) ?_
        refine dO 10 rfl (oS 1) ?_
        refine dE ?_
        refine i9<|l9<|rM ?_
        refine rB ?_
        refine rA<|c9 ?_
        refine n8 ?_ (ih1 (IntKind.i64.wrap (kk - 1),gs++[((IntKind.i64.wrap (2 + x78)),ts104)],i2105,h2106) (by(try dsimp only);((try simp only [IntKind.wrap_i64] at *);omega)) (by(try dsimp only);exact⟨(by((try simp only [IntKind.wrap_i64] at *);omega)),g2,(by(simp only [List.length_append,List.length_singleton]);((try simp only [IntKind.wrap_i64] at *);omega)),m7 g4 ⟨(by((try simp only [IntKind.wrap_i64] at *);omega)),(by(try dsimp only);omega),(fun x hx=>by have e9:=hy9 x hx;omega)⟩,by omega⟩))
        exact⟨⟨rfl,⟨rfl,⟨rfl,⟨rfl,trivial⟩⟩⟩⟩,⟨rfl,⟨rfl,⟨rfl,⟨rfl,⟨rfl,⟨rfl,trivial⟩⟩⟩⟩⟩⟩,rfl⟩
       ·
        rintro⟨⟨ts97,i298,h299⟩,hq100⟩
        try dsimp only at hq100
        try dsimp only
        obtain⟨q101,q102,q103⟩:=hq100
        have hy9:∀x∈ts97, -3≤x∧x≤4:=(by assumption)
        refine dT 1 rfl pL ?_
        refine dO 7 rfl (G8 16 (e:=55) (sz:=2) (zs:=[.int .i64 0,.slice none 0 0]) rfl rfl (by kernel_rfl) rfl rfl rfl rfl rfl) ?_
        refine dO 8 rfl (i8 6 (e:=55) (sz:=2) (by':=32) (((IntKind.i64.wrap (2 + x78)),ts97)) rfl (by kernel_rfl) rfl rfl rfl rfl rfl rfl (.cons .sc (.take (.own rfl) rfl .nil)) rfl (by omega) (by omega)) ?_
        refine dT 9 rfl (pF 1) ?_
        refine dO 10 rfl (oS 1) ?_
        refine dE ?_
        refine i9<|l9<|rM ?_
        refine rB ?_
        refine rA<|c9 ?_
        refine n8 ?_ (ih1 (IntKind.i64.wrap (kk - 1),gs++[((IntKind.i64.wrap (2 + x78)),ts97)],i298,h299) (by(try dsimp only);((try simp only [IntKind.wrap_i64] at *);omega)) (by(try dsimp only);exact⟨(by((try simp only [IntKind.wrap_i64] at *);omega)),g2,(by(simp only [List.length_append,List.length_singleton]);((try simp only [IntKind.wrap_i64] at *);omega)),m7 g4 ⟨(by((try simp only [IntKind.wrap_i64] at *);omega)),(by(try dsimp only);omega),(fun x hx=>by have e9:=hy9 x hx;omega)⟩,by omega⟩))
        exact⟨⟨rfl,⟨rfl,⟨rfl,⟨rfl,trivial⟩⟩⟩⟩,⟨rfl,⟨rfl,⟨rfl,⟨rfl,⟨rfl,⟨rfl,trivial⟩⟩⟩⟩⟩⟩,rfl⟩
     ·
      have h77':=l8 h77
      refine R9 rfl<|w9<|rC 5 ?_
      refine rS 5<|c9 ?_
      refine w7 Tryz.func54 (r8 5 .nil) (⟨bs,gs,false,0,0,i3,h3⟩) ?_ ?_ (hL:=⟨rfl,⟨rfl,⟨rfl,trivial⟩⟩⟩) <;>(try clear ih0) <;>(try clear ih1)
      ·(try dsimp only) <;>((refine⟨⟨by(try dsimp only);omega,by(try dsimp only);omega,b4,(by exact g4),?_,?_⟩,by omega,by omega⟩ <;>(try dsimp only) <;> omega))
      ·rfl
   ·
    have g58':=l8 g58
    refine x9 (C9 g58) (fun _=>?_)
    refine d9 (H9 rfl rfl g58 rfl) ?_
    refine c9 ?_
    refine j9 rfl (C9 rfl) (fun _=>?_)
    refine m9<|k9<|w9<|rM ?_
    refine p7 (s9 0 8 9 (pv:=some v0) (N9 Tryz.func19) (A9 code i3 h3 2 (by omega) (by omega) (by omega) (by omega) (by omega)) rfl rfl (.cur rfl (.cons rfl .nil)) rfl (fun⟨_,_,_⟩=>rfl) (fun _=>rfl) (fun⟨_,_,_⟩=>rfl) rfl rfl) ?_
    rintro⟨⟨x111,i2112,h2113⟩,hq114⟩
    try dsimp only at hq114
    try dsimp only
    obtain⟨q115,q116⟩:=hq114
    refine rB ?_
    refine rA<|c9<|r9 ?_
    refine L9 (fun(kk,gs,i3,h3)=>⟨[(0,some (.c (.ptr 0 0))),(2,some (.c (.ptr 1 0))),(3,some (.c (.ptr 3 0))),(6,some (.c (.t none (.v (.int .i64 kk)))))],[(0,some (.pbox v0 [.t none (.sl 1 f6 code),.t none (.v (.int .i64 i3)),.t none (.v (.int .i64 h3))])),(1,some (.box [.t none (.v (.slice none 0 0)),.t none (.v (.slice none 0 0)),.t none (.v (.bool false)),.t none (.v (.int .i64 0)),.t none (.v (.int .i64 0))])),(3,some (.box [.own 5,.own 6,.t none (.v (.bool false)),.t none (.v (.int .i64 0)),.t none (.v (.int .i64 0))])),(5,some (.row none 55 true 2 (E9 f9 (B9 1 f9)) bs)),(6,some (.row none 55 true 2 (E9 f9 (B9 1 f9)) gs)),(7,some (.row none 3 true 1 f9 (G9 (F9 bs))))],9⟩:Int × p9 × Int × Int→St) (fun(kk,gs,i3,h3)=>(0≤kk∧kk≤2)∧(1≤IntKind.i64.wrap (1 + x111)∧IntKind.i64.wrap (1 + x111)≤2)∧((gs.length:Int) + kk=IntKind.i64.wrap (1 + x111))∧(∀a∈gs,B2 a)∧(0≤i3∧i3≤code.length)) (fun(kk,gs,i3,h3)=>kk.toNat) (IntKind.i64.wrap (1 + x111),[],i2112,h2113) ⟨⟨rfl,⟨rfl,⟨rfl,⟨rfl,trivial⟩⟩⟩⟩,⟨rfl,⟨rfl,⟨rfl,⟨rfl,⟨rfl,⟨rfl,trivial⟩⟩⟩⟩⟩⟩,rfl⟩ (by exact⟨(by(try dsimp only);((try simp only [IntKind.wrap_i64] at *);omega)),(by(try dsimp only);((try simp only [IntKind.wrap_i64] at *);omega)),(by(try dsimp only);simp),(fun a ha=>by simp at ha),(by(try dsimp only);omega)⟩) ?_
    rintro⟨kk,gs,i3,h3⟩ hI ih1
    try dsimp only at hI ih1
    obtain⟨g1,g2,g3,g4,g5⟩:=hI
    refine k9<|w9<|rM ?_
    refine rB<|c9 ?_
    refine j9 rfl (fun h117=>?_) (fun h117=>?_)
    ·
     have h117':=j8 h117
     refine m9<|k9<|r9 ?_
     refine tD (fun i=>!(Nat.beq i 4||Nat.beq i 6||Nat.beq i 8||Nat.beq i 10)) ?_
     refine y7 0 rfl rfl (by kernel_rfl) (by kernel_rfl) (by kernel_rfl) (W7 (off:=1) (by kernel_rfl) rfl) ?_
     refine y7 2 rfl rfl (by kernel_rfl) (by kernel_rfl) (by kernel_rfl) (V4 rfl) ?_
     refine dT 3 rfl pM ?_
     refine d7 1 4 rfl rfl (by kernel_rfl) rfl rfl (V0 oL) (s9 0 9 10 (pv:=some v0) (N9 Tryz.func19) (A9 code i3 h3 3 (by omega) (by omega) (by omega) (by omega) (by omega)) rfl rfl (.cur rfl (.cons rfl .nil)) rfl (fun⟨_,_,_⟩=>rfl) (fun _=>rfl) (fun⟨_,_,_⟩=>rfl) rfl rfl) ?_ ?_
     ·
      rintro⟨⟩
      refine lZ 4 rfl (s9 0 9 10 (pv:=some v0) (N9 Tryz.func19) (A9 code i3 h3 3 (by omega) (by omega) (by omega) (by omega) (by omega)) rfl rfl (.cur rfl (.cons rfl .nil)) rfl (fun⟨_,_,_⟩=>rfl) (fun _=>rfl) (fun⟨_,_,_⟩=>rfl) rfl rfl) ?_
      rintro⟨⟨x124,i2125,h2126⟩,hq127⟩
      try dsimp only at hq127
      try dsimp only
      obtain⟨q128,q129⟩:=hq127
      refine dT 5 rfl pB ?_
      refine lZ 6 rfl (s9 0 10 15 (pv:=some v0) (N9 Tryz.func104) (D7 code i2125 h2126 (IntKind.i64.wrap (2 + x124)) 4 (by omega) (by omega) (by omega) (by(simp only [IntKind.wrap_i64] at *;omega)) (by omega)) rfl rfl (.cur rfl (.cons rfl (.cons rfl .nil))) rfl (fun⟨_,_,_⟩=>rfl) (fun _=>rfl) (fun⟨_,_,_⟩=>rfl) rfl rfl) ?_
      rintro⟨⟨ts130,i2131,h2132⟩,hq133⟩
      try dsimp only at hq133
      try dsimp only
      obtain⟨q134,q135,q136⟩:=hq133
      have hy9:∀x∈ts130, -3≤x∧x≤4:=(by assumption)
      refine dO 7 rfl (G8 15 (e:=55) (sz:=2) (zs:=[.int .i64 0,.slice none 0 0]) rfl rfl (by kernel_rfl) rfl rfl rfl rfl rfl) ?_
      refine dO 8 rfl (i8 6 (e:=55) (sz:=2) (by':=32) (((IntKind.i64.wrap (2 + x124)),ts130)) rfl (by kernel_rfl) rfl rfl rfl rfl rfl rfl (.cons .sc (.take (.own rfl) rfl .nil)) rfl (by omega) (by omega)) ?_
      refine dT 9 rfl (pF 1) ?_
      refine dO 10 rfl (oS 1) ?_
      refine dE ?_
      refine i9<|l9<|rM ?_
      refine rB ?_
      refine rA<|c9 ?_
      refine n8 ?_ (ih1 (IntKind.i64.wrap (kk - 1),gs++[((IntKind.i64.wrap (2 + x124)),ts130)],i2131,h2132) (by(try dsimp only);((try simp only [IntKind.wrap_i64] at *);omega)) (by(try dsimp only);exact⟨(by((try simp only [IntKind.wrap_i64] at *);omega)),g2,(by(simp only [List.length_append,List.length_singleton]);((try simp only [IntKind.wrap_i64] at *);omega)),m7 g4 ⟨(by((try simp only [IntKind.wrap_i64] at *);omega)),(by(try dsimp only);omega),(fun x hx=>by have e9:=hy9 x hx;omega)⟩,by omega⟩))
      exact⟨⟨rfl,⟨rfl,⟨rfl,⟨rfl,trivial⟩⟩⟩⟩,⟨rfl,⟨rfl,⟨rfl,⟨rfl,⟨rfl,⟨rfl,trivial⟩⟩⟩⟩⟩⟩,rfl⟩
     ·
      rintro⟨⟨x118,i2119,h2120⟩,hq121⟩
      try dsimp only at hq121
      try dsimp only
      obtain⟨q122,q123⟩:=hq121
      refine dT 5 rfl pB ?_
      refine d7 1 6 rfl rfl (by kernel_rfl) rfl rfl (V0 oL) (s9 0 10 15 (pv:=some v0) (N9 Tryz.func104) (D7 code i2119 h2120 (IntKind.i64.wrap (2 + x118)) 4 (by omega) (by omega) (by omega) (by(simp only [IntKind.wrap_i64] at *;omega)) (by omega)) rfl rfl (.cur rfl (.cons rfl (.cons rfl .nil))) rfl (fun⟨_,_,_⟩=>rfl) (fun _=>rfl) (fun⟨_,_,_⟩=>rfl) rfl rfl) ?_ ?_
      ·
       rintro⟨⟩
       refine lZ 6 rfl (s9 0 10 15 (pv:=some v0) (N9 Tryz.func104) (D7 code i2119 h2120 (IntKind.i64.wrap (2 + x118)) 4 (by omega) (by omega) (by omega) (by(simp only [IntKind.wrap_i64] at *;omega)) (by omega)) rfl rfl (.cur rfl (.cons rfl (.cons rfl .nil))) rfl (fun⟨_,_,_⟩=>rfl) (fun _=>rfl) (fun⟨_,_,_⟩=>rfl) rfl rfl) ?_
       rintro⟨⟨ts144,i2145,h2146⟩,hq147⟩
       try dsimp only at hq147
       try dsimp only
       obtain⟨q148,q149,q150⟩:=hq147
       have hy9:∀x∈ts144, -3≤x∧x≤4:=(by assumption)
       refine dO 7 rfl (G8 15 (e:=55) (sz:=2) (zs:=[.int .i64 0,.slice none 0 0]) rfl rfl (by kernel_rfl) rfl rfl rfl rfl rfl) ?_
       refine dO 8 rfl (i8 6 (e:=55) (sz:=2) (by':=32) (((IntKind.i64.wrap (2 + x118)),ts144)) rfl (by kernel_rfl) rfl rfl rfl rfl rfl rfl (.cons .sc (.take (.own rfl) rfl .nil)) rfl (by omega) (by omega)) ?_
       refine dT 9 rfl (pF 1) ?_
       refine dO 10 rfl (oS 1) ?_
       refine dE ?_
       refine i9<|l9<|rM ?_
       refine rB ?_
       refine rA<|c9 ?_
       refine n8 ?_ (ih1 (IntKind.i64.wrap (kk - 1),gs++[((IntKind.i64.wrap (2 + x118)),ts144)],i2145,h2146) (by(try dsimp only);((try simp only [IntKind.wrap_i64] at *);omega)) (by(try dsimp only);exact⟨(by((try simp only [IntKind.wrap_i64] at *);omega)),g2,(by(simp only [List.length_append,List.length_singleton]);((try simp only [IntKind.wrap_i64] at *);omega)),m7 g4 ⟨(by((try simp only [IntKind.wrap_i64] at *);omega)),(by(try dsimp only);omega),(fun x hx=>by have e9:=hy9 x hx;omega)⟩,by omega⟩))
       exact⟨⟨rfl,⟨rfl,⟨rfl,⟨rfl,trivial⟩⟩⟩⟩,⟨rfl,⟨rfl,⟨rfl,⟨rfl,⟨rfl,⟨rfl,trivial⟩⟩⟩⟩⟩⟩,rfl⟩
      ·
       rintro⟨⟨ts137,i2138,h2139⟩,hq140⟩
       try dsimp only at hq140
       try dsimp only
       obtain⟨q141,q142,q143⟩:=hq140
       have hy9:∀x∈ts137, -3≤x∧x≤4:=(by assumption)
       refine dT 1 rfl pL ?_
       refine dO 7 rfl (G8 15 (e:=55) (sz:=2) (zs:=[.int .i64 0,.slice none 0 0]) rfl rfl (by kernel_rfl) rfl rfl rfl rfl rfl) ?_
       refine dO 8 rfl (i8 6 (e:=55) (sz:=2) (by':=32) (((IntKind.i64.wrap (2 + x118)),ts137)) rfl (by kernel_rfl) rfl rfl rfl rfl rfl rfl (.cons .sc (.take (.own rfl) rfl .nil)) rfl (by omega) (by omega)) ?_
       refine dT 9 rfl (pF 1) ?_
       refine dO 10 rfl (oS 1) ?_
       refine dE ?_
       refine i9<|l9<|rM ?_
       refine rB ?_
       refine rA<|c9 ?_
       refine n8 ?_ (ih1 (IntKind.i64.wrap (kk - 1),gs++[((IntKind.i64.wrap (2 + x118)),ts137)],i2138,h2139) (by(try dsimp only);((try simp only [IntKind.wrap_i64] at *);omega)) (by(try dsimp only);exact⟨(by((try simp only [IntKind.wrap_i64] at *);omega)),g2,(by(simp only [List.length_append,List.length_singleton]);((try simp only [IntKind.wrap_i64] at *);omega)),m7 g4 ⟨(by((try simp only [IntKind.wrap_i64] at *);omega)),(by(try dsimp only);omega),(fun x hx=>by have e9:=hy9 x hx;omega)⟩,by omega⟩))
       exact⟨⟨rfl,⟨rfl,⟨rfl,⟨rfl,trivial⟩⟩⟩⟩,⟨rfl,⟨rfl,⟨rfl,⟨rfl,⟨rfl,⟨rfl,trivial⟩⟩⟩⟩⟩⟩,rfl⟩
    ·
     have h117':=l8 h117
     refine R9 rfl<|w9<|rC 5 ?_
     refine rS 5<|c9 ?_
     refine w7 Tryz.func54 (r8 5 .nil) (⟨bs,gs,false,0,0,i3,h3⟩) ?_ ?_ (hL:=⟨rfl,⟨rfl,⟨rfl,trivial⟩⟩⟩) <;>(try clear ih0) <;>(try clear ih1)
     ·(try dsimp only) <;>((refine⟨⟨by(try dsimp only);omega,by(try dsimp only);omega,b4,(by exact g4),?_,?_⟩,by omega,by omega⟩ <;>(try dsimp only) <;> omega))
     ·rfl
theorem Y9 (code:List Int)(i h:Int)(l:List Int)(hc:code.length≤1048576)(hi0:0≤i)(hi1:i≤code.length)(hl:1≤l.length)(hl2:l.length≤256):MS Tryz.prog 60 [.c (.ptr 0 0),.c (.t none (.sl 1 f9 l))] [.t none (.sl 1 f6 code),.t none (.v (.int .i64 i)),.t none (.v (.int .i64 h))] (fun(⟨x,i2,h2⟩:Int × Int × Int)=>x∈l∧0≤i2∧i2≤code.length) (fun(⟨x,i2,h2⟩:Int × Int × Int)=>[.t none (.sl 1 f6 code),.t none (.v (.int .i64 i2)),.t none (.v (.int .i64 h2))]) (fun(⟨x,i2,h2⟩:Int × Int × Int)=>[]) 1 (fun(⟨x,i2,h2⟩:Int × Int × Int)=> .c (.t none (.v (.int .i64 x)))):=by
 refine J7 Tryz.func60 rfl (Nat.le_of_ble_eq_true rfl) fun v0 w S M hM=>?_
 refine w9<|rA<|o7 ?_
 refine rM ?_
 refine rM ?_
 refine rM ?_
 refine d9 (S9 rfl rfl rfl) ?_
 refine p7 (s9 0 1 2 (pv:=some v0) (N9 Tryz.func19) (A9 code i h ((l.length:Int)) (by omega) (by omega) (by omega) (by omega) (by omega)) rfl rfl (.cur rfl (.cons rfl .nil)) rfl (fun⟨_,_,_⟩=>rfl) (fun _=>rfl) (fun⟨_,_,_⟩=>rfl) rfl rfl) ?_
 rintro⟨⟨x1,i22,h23⟩,hq4⟩
 try dsimp only at hq4
 try dsimp only
 obtain⟨q5,q6⟩:=hq4
 obtain⟨z7,hz8,b9⟩:=t9 (xs:=l) (n:=x1) (by omega) (by omega)
 refine d9 (P9 rfl (by kernel_rfl) rfl rfl b9 hz8) ?_
 refine d9 (c8 rfl (by kernel_rfl) rfl rfl) ?_
 refine rA<|c9 ?_
 refine w7 Tryz.func60 (.tmp rfl .nil) (⟨z7,i22,h23⟩) ?_ ?_ (hL:=⟨rfl,trivial⟩)
 ·(try dsimp only) <;>(exact⟨J8 (by assumption),by omega⟩)
 ·rfl
theorem P1 (code:List Int)(i h:Int)(hc:code.length≤1048576)(hi0:0≤i)(hi1:i≤code.length):MS Tryz.prog 105 [.c (.ptr 0 0)] [.t none (.sl 1 f6 code),.t none (.v (.int .i64 i)),.t none (.v (.int .i64 h))] (fun(⟨r,ts,i2,h2⟩:Int ×(List Int) × Int × Int)=>fY (r,ts)∧0≤i2∧i2≤code.length) (fun(⟨r,ts,i2,h2⟩:Int ×(List Int) × Int × Int)=>[.t none (.sl 1 f6 code),.t none (.v (.int .i64 i2)),.t none (.v (.int .i64 h2))]) (fun(⟨r,ts,i2,h2⟩:Int ×(List Int) × Int × Int)=>[(7,some (.row none 3 true 1 f9 ts))]) 8 (fun(⟨r,ts,i2,h2⟩:Int ×(List Int) × Int × Int)=> .agg [.t none (.v (.int .i64 r)),.own 7]):=by
 refine J7 Tryz.func105 rfl (Nat.le_of_ble_eq_true rfl) fun v0 w S M hM=>?_
 refine w9 ?_
 refine d9 (I9 1 (zs:=[.int .i64 0,.slice none 0 0]) rfl rfl (by kernel_rfl) rfl) ?_
 refine o7<|rM ?_
 refine rM ?_
 refine p7 (s9 0 2 3 (pv:=some v0) (N9 Tryz.func19) (A9 code i h 5 (by omega) (by omega) (by omega) (by omega) (by omega)) rfl rfl (.cur rfl (.cons rfl .nil)) rfl (fun⟨_,_,_⟩=>rfl) (fun _=>rfl) (fun⟨_,_,_⟩=>rfl) rfl rfl) ?_
 rintro⟨⟨x1,i22,h23⟩,hq4⟩
 try dsimp only at hq4
 try dsimp only
 obtain⟨q5,q6⟩:=hq4
 refine p7 (s9 0 3 8 (pv:=some v0) (N9 Tryz.func132) (o5 code i22 h23 x1 4 (by omega) (by omega) (by omega) (by omega) (by omega)) rfl rfl (.cur rfl (.cons rfl (.cons rfl .nil))) rfl (fun⟨_,_,_⟩=>rfl) (fun _=>rfl) (fun⟨_,_,_⟩=>rfl) rfl rfl) ?_
 rintro⟨⟨ts7,i28,h29⟩,hq10⟩
 try dsimp only at hq10
 try dsimp only
 obtain⟨q11,q12,q13⟩:=hq10
 have t1:1≤ts7.length∧ts7.length≤2:=(by assumption);have t2:∀x∈ts7, -256≤x∧x≤2:=(by assumption);have t3:∀x∈ts7, -256≤x∧x≤256:=fun x hx=>by have:=t2 x hx;omega
 refine d9 (I9 8 (zs:=[.int .i64 0,.slice none 0 0]) rfl rfl (by kernel_rfl) rfl) ?_
 refine rS 2<|c9<|k9<|w9 ?_
 refine rM ?_
 refine p7 (s9 0 9 10 (pv:=some v0) (N9 Tryz.func19) (A9 code i28 h29 10 (by omega) (by omega) (by omega) (by omega) (by omega)) rfl rfl (.cur rfl (.cons rfl .nil)) rfl (fun⟨_,_,_⟩=>rfl) (fun _=>rfl) (fun⟨_,_,_⟩=>rfl) rfl rfl) ?_
 rintro⟨⟨x14,i215,h216⟩,hq17⟩
 try dsimp only at hq17
 try dsimp only
 obtain⟨q18,q19⟩:=hq17
 refine c9<|r9<|w9<|rB ?_
 refine rA<|c9 ?_
 refine j9 rfl (fun h20=>?_) (fun h20=>?_)
 ·
  have h20':=j8 h20
  refine l9<|rM ?_
  refine p7 (s9 0 10 11 (pv:=some v0) (N9 Tryz.func19) (A9 code i215 h216 7 (by omega) (by omega) (by omega) (by omega) (by omega)) rfl rfl (.cur rfl (.cons rfl .nil)) rfl (fun⟨_,_,_⟩=>rfl) (fun _=>rfl) (fun⟨_,_,_⟩=>rfl) rfl rfl) ?_
  rintro⟨⟨x21,i222,h223⟩,hq24⟩
  try dsimp only at hq24
  try dsimp only
  obtain⟨q25,q26⟩:=hq24
  refine rB ?_
  refine rF 0 ?_
  refine rS 1<|c9<|i9<|w9 ?_
  refine rC 2 ?_
  refine rS 2<|c9 ?_
  refine w7 Tryz.func105 (r8 2 .nil) (⟨IntKind.i64.wrap (x21 - 1),ts7,i222,h223⟩) ?_ ?_ (hL:=⟨rfl,⟨rfl,trivial⟩⟩)
  ·(try dsimp only) <;>((exact⟨⟨by(try dsimp only);(try simp only [IntKind.wrap_i64] at *);omega,by(try dsimp only);omega,t3⟩,by omega⟩))
  ·rfl
 ·
  have h20':=l8 h20
  refine w9<|rB ?_
  refine rA<|c9 ?_
  refine j9 rfl (fun h27=>?_) (fun h27=>?_)
  ·
   have h27':=j8 h27
   refine l9<|rF 1 ?_
   refine rL ?_
   refine d9 (G8 10 (e:=3) (sz:=1) (zs:=[.int .i64 0]) rfl rfl (by kernel_rfl) rfl rfl rfl rfl rfl) ?_
   refine d9 (i8 7 (e:=3) (sz:=1) (by':=8) 1 rfl (by kernel_rfl) rfl rfl rfl rfl rfl rfl (.cons .sc .nil) rfl (by omega) (by omega)) ?_
   refine rF 1 ?_
   refine rS 1<|c9<|i9<|w9 ?_
   refine rC 2 ?_
   refine rS 2<|c9 ?_
   refine w7 Tryz.func105 (r8 2 .nil) (⟨x1,ts7++[1],i215,h216⟩) ?_ ?_ (hL:=⟨rfl,⟨rfl,trivial⟩⟩)
   ·(try dsimp only) <;>((exact⟨⟨by(try dsimp only);omega,by(simp only [List.length_append,List.length_singleton];omega),m7 t3 (by omega)⟩,by omega⟩))
   ·rfl
  ·
   have h27':=l8 h27
   refine w9<|rB ?_
   refine rA<|c9 ?_
   refine j9 rfl (fun h28=>?_) (fun h28=>?_)
   ·
    have h28':=j8 h28
    refine tD (fun i=>!(Nat.beq i 4||Nat.beq i 6)) ?_
    refine y7 0 rfl rfl (by kernel_rfl) (by kernel_rfl) (by kernel_rfl) (W7 (off:=1) (by kernel_rfl) rfl) ?_
    refine dT 2 rfl pM ?_
    refine O8 1 3 rfl rfl (by kernel_rfl) rfl rfl oL (G8 10 (e:=3) (sz:=1) (zs:=[.int .i64 0]) rfl rfl (by kernel_rfl) rfl rfl rfl rfl rfl) ?_ ?_
    ·
     refine dO 3 rfl (G8 10 (e:=3) (sz:=1) (zs:=[.int .i64 0]) rfl rfl (by kernel_rfl) rfl rfl rfl rfl rfl) ?_
     refine VT 10 (enc:=f9) ([10, -41,9]) rfl (.cons (.cons (.cons .nil))) (W9 (i:=10) hM rfl rfl rfl) ?_
     refine lZ 4 rfl (s9 0 11 12 (pv:=some v0) (N9 Tryz.func60) (Y9 code i215 h216 ([10, -41,9]) (by omega) (by omega) (by omega) (by(simp only [List.length_cons,List.length_nil];omega)) (by(simp only [List.length_cons,List.length_nil];omega))) rfl rfl (.cur rfl (.cons rfl .nil)) rfl (fun⟨_,_,_⟩=>rfl) (fun _=>rfl) (fun⟨_,_,_⟩=>rfl) rfl rfl) ?_
     rintro⟨⟨x29,i230,h231⟩,hq32⟩
     try dsimp only at hq32
     try dsimp only
     obtain⟨q33,q34⟩:=hq32
     obtain⟨z35,hz36,b37⟩:=t9 (xs:=ts7) (n:=0) (by omega) (by omega)
     refine dT 5 rfl (T9 (by kernel_rfl) rfl rfl rfl b37 (f8 b37 hz36)) ?_
     refine dO 6 rfl (D8 x29 (n:=1) (by kernel_rfl) rfl rfl hz36 rfl rfl rfl rfl (.cons .sc .nil) rfl (fun j h1 h2=>by(simp at h1 h2;omega))) ?_
     refine dE ?_
     refine i9<|w9<|rC 2 ?_
     refine rS 2<|c9 ?_
     refine w7 Tryz.func105 (r8 2 .nil) (⟨x1,ts7.set ((0:Int)).toNat x29,i230,h231⟩) ?_ ?_ (hL:=⟨rfl,⟨rfl,trivial⟩⟩)
     ·(try dsimp only) <;>((exact⟨⟨by(try dsimp only);omega,by(simp only [List.length_set];omega),F8 t3 (by have e9:=EP (by assumption);omega)⟩,by omega⟩))
     ·rfl
    ·
     refine VT 10 (enc:=f9) ([10, -41,9]) rfl (.cons (.cons (.cons .nil))) (W9 (i:=10) hM rfl rfl rfl) ?_
     refine d7 1 4 rfl rfl (by kernel_rfl) rfl rfl (V0 oL) (s9 0 11 12 (pv:=some v0) (N9 Tryz.func60) (Y9 code i215 h216 ([10, -41,9]) (by omega) (by omega) (by omega) (by(simp only [List.length_cons,List.length_nil];omega)) (by(simp only [List.length_cons,List.length_nil];omega))) rfl rfl (.cur rfl (.cons rfl .nil)) rfl (fun⟨_,_,_⟩=>rfl) (fun _=>rfl) (fun⟨_,_,_⟩=>rfl) rfl rfl) ?_ ?_
     ·
      rintro⟨⟩
      refine lZ 4 rfl (s9 0 11 12 (pv:=some v0) (N9 Tryz.func60) (Y9 code i215 h216 ([10, -41,9]) (by omega) (by omega) (by omega) (by(simp only [List.length_cons,List.length_nil];omega)) (by(simp only [List.length_cons,List.length_nil];omega))) rfl rfl (.cur rfl (.cons rfl .nil)) rfl (fun⟨_,_,_⟩=>rfl) (fun _=>rfl) (fun⟨_,_,_⟩=>rfl) rfl rfl) ?_
      rintro⟨⟨x44,i245,h246⟩,hq47⟩
      try dsimp only at hq47
      try dsimp only
      obtain⟨q48,q49⟩:=hq47
      obtain⟨z50,hz51,b52⟩:=t9 (xs:=ts7) (n:=0) (by omega) (by omega)
      refine dT 5 rfl (T9 (by kernel_rfl) rfl rfl rfl b52 (f8 b52 hz51)) ?_
      refine dO 6 rfl (D8 x44 (n:=1) (by kernel_rfl) rfl rfl hz51 rfl rfl rfl rfl (.cons .sc .nil) rfl (fun j h1 h2=>by(simp at h1 h2;omega))) ?_
      refine dE ?_
      refine i9<|w9<|rC 2 ?_
      refine rS 2<|c9 ?_
      refine w7 Tryz.func105 (r8 2 .nil) (⟨x1,ts7.set ((0:Int)).toNat x44,i245,h246⟩) ?_ ?_ (hL:=⟨rfl,⟨rfl,trivial⟩⟩)
      ·(try dsimp only) <;>((exact⟨⟨by(try dsimp only);omega,by(simp only [List.length_set];omega),F8 t3 (by have e9:=EP (by assumption);omega)⟩,by omega⟩))
      ·rfl
     ·
      rintro⟨⟨x38,i239,h240⟩,hq41⟩
      try dsimp only at hq41
      try dsimp only
      obtain⟨q42,q43⟩:=hq41
      refine dT 1 rfl pL ?_
      obtain⟨z53,hz54,b55⟩:=t9 (xs:=ts7) (n:=0) (by omega) (by omega)
      refine dT 5 rfl (T9 (by kernel_rfl) rfl rfl rfl b55 (f8 b55 hz54)) ?_
      refine dO 6 rfl (D8 x38 (n:=1) (by kernel_rfl) rfl rfl hz54 rfl rfl rfl rfl (.cons .sc .nil) rfl (fun j h1 h2=>by(simp at h1 h2;omega))) ?_
      refine dE ?_
      refine i9<|w9<|rC 2 ?_
      refine rS 2<|c9 ?_
      refine w7 Tryz.func105 (r8 2 .nil) (⟨x1,ts7.set ((0:Int)).toNat x38,i239,h240⟩) ?_ ?_ (hL:=⟨rfl,⟨rfl,trivial⟩⟩)
      ·(try dsimp only) <;>((exact⟨⟨by(try dsimp only);omega,by(simp only [List.length_set];omega),F8 t3 (by have e9:=EP (by assumption);omega)⟩,by omega⟩))
      ·rfl
   ·
    have h28':=l8 h28
    refine m9<|i9<|w9<|rC 2 ?_
    refine rS 2<|c9 ?_
    refine w7 Tryz.func105 (r8 2 .nil) (⟨x1,ts7,i215,h216⟩) ?_ ?_ (hL:=⟨rfl,⟨rfl,trivial⟩⟩)
    ·(try dsimp only) <;>((exact⟨⟨by(try dsimp only);(try simp only [IntKind.wrap_i64] at *);omega,by(try dsimp only);omega,t3⟩,by omega⟩))
    ·rfl
theorem KT (code:List Int)(i h:Int)(l:List (List UInt8))(hc:code.length≤1048576)(hi0:0≤i)(hi1:i≤code.length)(hl:1≤l.length)(hl2:l.length≤256):MS Tryz.prog 133 [.c (.ptr 0 0),.c (.t none (.sl 1 Z9 l))] [.t none (.sl 1 f6 code),.t none (.v (.int .i64 i)),.t none (.v (.int .i64 h))] (fun(⟨x,i2,h2⟩:(List UInt8) × Int × Int)=>x∈l∧0≤i2∧i2≤code.length) (fun(⟨x,i2,h2⟩:(List UInt8) × Int × Int)=>[.t none (.sl 1 f6 code),.t none (.v (.int .i64 i2)),.t none (.v (.int .i64 h2))]) (fun(⟨x,i2,h2⟩:(List UInt8) × Int × Int)=>[]) 1 (fun(⟨x,i2,h2⟩:(List UInt8) × Int × Int)=> .c (.t none (.v (.string (JY x))))):=by
 refine J7 Tryz.func133 rfl (Nat.le_of_ble_eq_true rfl) fun v0 w S M hM=>?_
 refine w9<|rA<|o7 ?_
 refine rM ?_
 refine rM ?_
 refine rM ?_
 refine d9 (S9 rfl rfl rfl) ?_
 refine p7 (s9 0 1 2 (pv:=some v0) (N9 Tryz.func19) (A9 code i h ((l.length:Int)) (by omega) (by omega) (by omega) (by omega) (by omega)) rfl rfl (.cur rfl (.cons rfl .nil)) rfl (fun⟨_,_,_⟩=>rfl) (fun _=>rfl) (fun⟨_,_,_⟩=>rfl) rfl rfl) ?_
 rintro⟨⟨x1,i22,h23⟩,hq4⟩
 try dsimp only at hq4
 try dsimp only
 obtain⟨q5,q6⟩:=hq4
 obtain⟨z7,hz8,b9⟩:=t9 (xs:=l) (n:=x1) (by omega) (by omega)
 refine d9 (P9 rfl (by kernel_rfl) rfl rfl b9 hz8) ?_
 refine d9 (c8 rfl (by kernel_rfl) rfl rfl) ?_
 refine rA<|c9 ?_
 refine w7 Tryz.func133 (.tmp rfl .nil) (⟨z7,i22,h23⟩) ?_ ?_ (hL:=⟨rfl,trivial⟩)
 ·(try dsimp only) <;>(exact⟨J8 (by assumption),by omega⟩)
 ·rfl
theorem H4 (code:List Int)(i h:Int)(hc:code.length≤1048576)(hi0:0≤i)(hi1:i≤code.length):MS Tryz.prog 106 [.c (.ptr 0 0)] [.t none (.sl 1 f6 code),.t none (.v (.int .i64 i)),.t none (.v (.int .i64 h))] (fun(⟨n,ar,b,i2,h2⟩:(List UInt8) × Int × Bool × Int × Int)=>(n.length≤2∧ -1≤ar∧ar≤4)∧0≤i2∧i2≤code.length) (fun(⟨n,ar,b,i2,h2⟩:(List UInt8) × Int × Bool × Int × Int)=>[.t none (.sl 1 f6 code),.t none (.v (.int .i64 i2)),.t none (.v (.int .i64 h2))]) (fun(⟨n,ar,b,i2,h2⟩:(List UInt8) × Int × Bool × Int × Int)=>[]) 1 (fun(⟨n,ar,b,i2,h2⟩:(List UInt8) × Int × Bool × Int × Int)=> .agg [.t none (.v (.string (JY n))),.t none (.v (.int .i64 ar)),.t none (.v (.bool b))]):=by
 refine J7 Tryz.func106 rfl (Nat.le_of_ble_eq_true rfl) fun v0 w S M hM=>?_
 refine w9 ?_
 refine d9 (I9 1 (zs:=[.string (JY ([])),.int .i64 0,.bool false]) rfl rfl (by kernel_rfl) rfl) ?_
 refine o7<|rM ?_
 refine d9 (G8 2 (e:=9) (sz:=1) (zs:=[.string (JY ([]))]) rfl rfl (by kernel_rfl) rfl rfl rfl rfl rfl) ?_
 refine sV 2 (enc:=Z9) ([([97]:List UInt8),([122]:List UInt8),([]:List UInt8),([65]:List UInt8),([97,98]:List UInt8),([112]:List UInt8)]) rfl (.cons (.cons (.cons (.cons (.cons (.cons .nil)))))) (W9 (i:=2) hM rfl rfl rfl) ?_
 refine p7 (s9 0 3 4 (pv:=some v0) (N9 Tryz.func133) (KT code i h ([([97]:List UInt8),([122]:List UInt8),([]:List UInt8),([65]:List UInt8),([97,98]:List UInt8),([112]:List UInt8)]) (by omega) (by omega) (by omega) (by(simp only [List.length_cons,List.length_nil];omega)) (by(simp only [List.length_cons,List.length_nil];omega))) rfl rfl (.cur rfl (.cons rfl .nil)) rfl (fun⟨_,_,_⟩=>rfl) (fun _=>rfl) (fun⟨_,_,_⟩=>rfl) rfl rfl) ?_
 rintro⟨⟨x1,i22,h23⟩,hq4⟩
 try dsimp only at hq4
 try dsimp only
 obtain⟨q5,q6⟩:=hq4
 refine rM ?_
 refine p7 (s9 0 4 5 (pv:=some v0) (N9 Tryz.func19) (A9 code i22 h23 6 (by omega) (by omega) (by omega) (by omega) (by omega)) rfl rfl (.cur rfl (.cons rfl .nil)) rfl (fun⟨_,_,_⟩=>rfl) (fun _=>rfl) (fun⟨_,_,_⟩=>rfl) rfl rfl) ?_
 rintro⟨⟨x7,i28,h29⟩,hq10⟩
 try dsimp only at hq10
 try dsimp only
 obtain⟨q11,q12⟩:=hq10
 refine rB ?_
 refine rM ?_
 refine p7 (s9 0 5 6 (pv:=some v0) (N9 Tryz.func18) (J6 code i28 h29 2 (by omega) (by omega) (by omega) (by omega) (by omega)) rfl rfl (.cur rfl (.cons rfl .nil)) rfl (fun⟨_,_,_⟩=>rfl) (fun _=>rfl) (fun⟨_,_,_⟩=>rfl) rfl rfl) ?_
 rintro⟨⟨b13,i214,h215⟩,hq16⟩
 try dsimp only at hq16
 try dsimp only
 refine d9 (oD [(0,1),(1,1),(2,1)] [.string (JY ([])),.int .i64 0,.bool false]) ?_
 refine rS 3<|c9 ?_
 refine w7 Tryz.func106 (r8 3 .nil) (⟨x1,IntKind.i64.wrap (x7 - 1),b13,i214,h215⟩) ?_ ?_ (hL:=⟨rfl,trivial⟩)
 ·(try dsimp only) <;>((have e8:=(by decide:∀x∈ [([97]:List UInt8),([122]:List UInt8),([]:List UInt8),([65]:List UInt8),([97,98]:List UInt8),([112]:List UInt8)],x.length≤2) _ (by assumption));(simp only [IntKind.wrap_i64] at *;omega))
 ·rfl
theorem xR (code:List Int)(i h:Int)(hc:code.length≤1048576)(hi0:0≤i)(hi1:i≤code.length):MS Tryz.prog 55 [.c (.ptr 0 0)] [.t none (.sl 1 f6 code),.t none (.v (.int .i64 i)),.t none (.v (.int .i64 h))] (fun(⟨rs,fs,i2,h2⟩:V9 × p9 × Int × Int)=>oT rs fs∧0≤i2∧i2≤code.length) (fun(⟨rs,fs,i2,h2⟩:V9 × p9 × Int × Int)=>[.t none (.sl 1 f6 code),.t none (.v (.int .i64 i2)),.t none (.v (.int .i64 h2))]) (fun(⟨rs,fs,i2,h2⟩:V9 × p9 × Int × Int)=>[]) 1 (fun(⟨rs,fs,i2,h2⟩:V9 × p9 × Int × Int)=> .agg [.t none (.sl 3 (d8 Z9 f9 a8) rs),.t none (.sl 2 (E9 f9 (B9 1 f9)) fs)]):=by
 refine J7 Tryz.func55 rfl (Nat.le_of_ble_eq_true rfl) fun v0 w S M hM=>?_
 refine w9 ?_
 refine d9 (I9 1 (zs:=[.slice none 0 0,.slice none 0 0]) rfl rfl (by kernel_rfl) rfl) ?_
 refine o7<|rM ?_
 refine p7 (s9 0 2 7 (pv:=some v0) (N9 Tryz.func102) (dY code i h 5 3 (by omega) (by omega) (by omega) (by omega) (by omega)) rfl rfl (.cur rfl (.cons rfl (.cons rfl .nil))) rfl (fun⟨_,_,_⟩=>rfl) (fun _=>rfl) (fun⟨_,_,_⟩=>rfl) rfl rfl) ?_
 rintro⟨⟨fs1,i22,h23⟩,hq4⟩
 try dsimp only at hq4
 try dsimp only
 obtain⟨q5,q6,q7⟩:=hq4
 refine d9 (I9 7 (zs:=[.slice none 0 0,.slice none 0 0]) rfl rfl (by kernel_rfl) rfl) ?_
 refine rS 2<|c9<|k9<|w9 ?_
 refine rM ?_
 refine p7 (s9 0 8 9 (pv:=some v0) (N9 Tryz.func18) (J6 code i22 h23 2 (by omega) (by omega) (by omega) (by omega) (by omega)) rfl rfl (.cur rfl (.cons rfl .nil)) rfl (fun⟨_,_,_⟩=>rfl) (fun _=>rfl) (fun⟨_,_,_⟩=>rfl) rfl rfl) ?_
 rintro⟨⟨b8,i29,h210⟩,hq11⟩
 try dsimp only at hq11
 try dsimp only
 refine c9 ?_
 refine j9 rfl (fun h13=>?_) (fun h13=>?_)
 ·
  have h13':=h13
  refine w9<|rM ?_
  refine p7 (s9 0 9 14 (pv:=some v0) (N9 Tryz.func101) (eY code i29 h210 3 (by omega) (by omega) (by omega) (by omega)) rfl rfl (.cur rfl (.cons rfl .nil)) rfl (fun⟨_,_,_⟩=>rfl) (fun _=>rfl) (fun⟨_,_,_⟩=>rfl) rfl rfl) ?_
  rintro⟨⟨fs14,i215,h216⟩,hq17⟩
  try dsimp only at hq17
  try dsimp only
  obtain⟨q18,q19,q20⟩:=hq17
  have b4f:∀a∈fs14,fY a:=(by assumption)
  refine d9 (I9 14 (zs:=[.slice none 0 0,.slice none 0 0]) rfl rfl (by kernel_rfl) rfl) ?_
  refine rS 2<|c9<|k9<|w9 ?_
  refine rA<|c9<|r9 ?_
  refine o9 5 rfl (W9 (i:=5) hM rfl rfl rfl) ?_
  refine o9 6 rfl (W9 (i:=6) hM rfl rfl rfl) ?_
  refine o9 12 rfl (W9 (i:=12) hM rfl rfl rfl) ?_
  refine o9 13 rfl (W9 (i:=13) hM rfl rfl rfl) ?_
  refine L9 (fun(m,xs)=>⟨[(0,some (.c (.ptr 0 0))),(2,some (.c (.ptr 1 0))),(3,some (.c (.ptr 7 0))),(4,some (.c (.ptr 14 0))),(5,some (.c (.t none (.v (.int .i64 ((m:Int)))))))],[(0,some (.pbox v0 [.t none (.sl 1 f6 code),.t none (.v (.int .i64 i215)),.t none (.v (.int .i64 h216))])),(1,some (.box [.t none (.v (.slice none 0 0)),.t none (.v (.slice none 0 0))])),(7,some (.box [.t none (.sl 3 (d8 Z9 f9 a8) T8),.t none (.sl 2 (E9 f9 (B9 1 f9)) xs)])),(14,some (.box [.t none (.sl 3 (d8 Z9 f9 a8) T8),.t none (.sl 2 (E9 f9 (B9 1 f9)) fs14)]))],15⟩:Nat × p9→St) (fun(m,xs)=>m≤fs14.length∧xs.length≤5 + m∧(∀a∈xs,fY a)) (fun(m,xs)=>fs14.length - m) (0,fs1) ⟨⟨rfl,⟨rfl,⟨rfl,⟨rfl,⟨rfl,trivial⟩⟩⟩⟩⟩,⟨rfl,⟨rfl,⟨rfl,⟨rfl,trivial⟩⟩⟩⟩,rfl⟩ (by exact⟨Nat.zero_le _,by(try dsimp only);omega,by assumption⟩) ?_
  rintro⟨m,xs⟩ hI ih0
  try dsimp only at hI ih0
  obtain⟨b1,b2,b4⟩:=hI
  refine k9<|w9<|rM ?_
  refine rF 1 ?_
  refine rL ?_
  refine d9 (S9 rfl rfl rfl) ?_
  refine rB<|c9 ?_
  refine j9 rfl (fun h21=>?_) (fun h21=>?_)
  ·
   have h21':=j8 h21
   refine m9<|k9<|r9 ?_
   refine tD (fun i=>!(Nat.beq i 7)) ?_
   refine dT 0 rfl (pC 2) ?_
   refine dT 1 rfl (pF 1) ?_
   refine dT 2 rfl pL ?_
   refine dT 3 rfl pM ?_
   obtain⟨z22,hz23,b24⟩:=t9 (xs:=fs14) (n:=(m:Int)) (by omega) (by omega)
   refine dT 4 rfl (w8 (by kernel_rfl) rfl rfl b24 hz23) ?_
   refine dT 5 rfl (p6 (n:=2) (by kernel_rfl) (by kernel_rfl) rfl rfl) ?_
   refine dO 6 rfl (n9 15 15 true (N9 Tryz.func35) (U7 T8 xs z22.1 z22.2 (by(have e7:=L0 b4;omega)) (by(have e7:=(b4f _ (J8 (by assumption))).2.1;omega))) rfl (.cons rfl (.agg (.cons .t0 (.cons .t0 .nil))) (.cons rfl (.agg (.cons .t0 (.cons .t0 .nil))) .nil)) rfl rfl rfl) ?_
   refine dO 7 rfl (oS 2) ?_
   refine dE ?_
   refine i9<|l9<|rM ?_
   refine rB ?_
   refine rA<|c9 ?_
   refine n8 ?_ (ih0 (m + 1,c4 xs (z22.1,z22.2)) (by(try dsimp only);omega) (by(try dsimp only);exact⟨by omega,Nat.le_trans (BY _ _) (by omega),T2 b4 (b4f _ (J8 hz23))⟩))
   exact⟨⟨rfl,⟨rfl,⟨rfl,⟨rfl,⟨(i6 (s8 (by omega) (by omega))),trivial⟩⟩⟩⟩⟩,⟨rfl,⟨rfl,⟨rfl,⟨rfl,trivial⟩⟩⟩⟩,rfl⟩
  ·
   have h21':=l8 h21
   refine R9 rfl<|l9<|rC 2 ?_
   refine d9 (n9 15 20 false (N9 Tryz.func28) (i5 T8 xs (by(rw [u7];omega)) (by(have e7:=L0 b4;omega))) rfl (.cons rfl (.agg (.cons .t0 (.cons .t0 .nil))) .nil) rfl rfl rfl) ?_
   refine rS 2<|c9<|k9<|w9 ?_
   refine rM ?_
   refine p7 (s9 0 20 21 (pv:=some v0) (N9 Tryz.func19) (A9 code i215 h216 14 (by omega) (by omega) (by omega) (by omega) (by omega)) rfl rfl (.cur rfl (.cons rfl .nil)) rfl (fun⟨_,_,_⟩=>rfl) (fun _=>rfl) (fun⟨_,_,_⟩=>rfl) rfl rfl) ?_
   rintro⟨⟨x25,i226,h227⟩,hq28⟩
   try dsimp only at hq28
   try dsimp only
   obtain⟨q29,q30⟩:=hq28
   refine c9<|r9<|w9<|rB ?_
   refine rA<|c9 ?_
   refine j9 rfl (fun h31=>?_) (fun h31=>?_)
   ·
    have h31':=j8 h31
    refine tD (fun i=>!(Nat.beq i 3||Nat.beq i 5||Nat.beq i 7)) ?_
    refine y7 0 rfl rfl (by kernel_rfl) (by kernel_rfl) (by kernel_rfl) (W7 (off:=1) (by kernel_rfl) rfl) ?_
    refine dT 2 rfl pM ?_
    refine d7 1 3 rfl rfl (by kernel_rfl) rfl rfl (V0 oL) (s9 0 21 29 (pv:=some v0) (N9 Tryz.func105) (P1 code i226 h227 (by omega) (by omega) (by omega)) rfl rfl (.cur rfl .nil) rfl (fun⟨_,_,_,_⟩=>rfl) (fun _=>rfl) (fun⟨_,_,_,_⟩=>rfl) rfl rfl) ?_ ?_
    ·
     rintro⟨⟩
     refine lZ 3 rfl (s9 0 21 29 (pv:=some v0) (N9 Tryz.func105) (P1 code i226 h227 (by omega) (by omega) (by omega)) rfl rfl (.cur rfl .nil) rfl (fun⟨_,_,_,_⟩=>rfl) (fun _=>rfl) (fun⟨_,_,_,_⟩=>rfl) rfl rfl) ?_
     rintro⟨⟨r39,ts40,i241,h242⟩,hq43⟩
     try dsimp only at hq43
     try dsimp only
     obtain⟨q44,q45⟩:=hq43
     refine dO 4 rfl (G8 29 (e:=57) (sz:=2) (zs:=[.int .i64 0,.slice none 0 0]) rfl rfl (by kernel_rfl) rfl rfl rfl rfl rfl) ?_
     refine dO 5 rfl (i8 19 (e:=57) (sz:=2) (by':=32) ((r39,ts40)) rfl (by kernel_rfl) rfl rfl rfl rfl rfl rfl (.cons .sc (.take (.own rfl) rfl .nil)) rfl (by omega) (by omega)) ?_
     refine dT 6 rfl (pF 1) ?_
     refine dO 7 rfl (oS 1) ?_
     refine dE ?_
     refine i9<|w9<|rC 2 ?_
     refine rS 2<|c9 ?_
     refine o9 17 rfl (W9 (i:=17) hM rfl rfl rfl) ?_
     refine o9 19 rfl (W9 (i:=19) hM rfl rfl rfl) ?_
     refine w7 Tryz.func55 (r8 2 .nil) (⟨T8,xs++[(r39,ts40)],i241,h242⟩) ?_ ?_ (hL:=⟨rfl,trivial⟩) <;>(try clear ih0)
     ·(try dsimp only) <;>((refine⟨⟨?_,?_,?_,?_⟩,by omega⟩ <;>(try dsimp only)) <;> first | decide | exact QX | (simp only [List.length_append,List.length_singleton];omega) | exact m7 (by assumption) (by assumption))
     ·rfl
    ·
     rintro⟨⟨r32,ts33,i234,h235⟩,hq36⟩
     try dsimp only at hq36
     try dsimp only
     obtain⟨q37,q38⟩:=hq36
     refine dT 1 rfl pL ?_
     refine dO 4 rfl (G8 29 (e:=57) (sz:=2) (zs:=[.int .i64 0,.slice none 0 0]) rfl rfl (by kernel_rfl) rfl rfl rfl rfl rfl) ?_
     refine dO 5 rfl (i8 19 (e:=57) (sz:=2) (by':=32) ((r32,ts33)) rfl (by kernel_rfl) rfl rfl rfl rfl rfl rfl (.cons .sc (.take (.own rfl) rfl .nil)) rfl (by omega) (by omega)) ?_
     refine dT 6 rfl (pF 1) ?_
     refine dO 7 rfl (oS 1) ?_
     refine dE ?_
     refine i9<|w9<|rC 2 ?_
     refine rS 2<|c9 ?_
     refine o9 17 rfl (W9 (i:=17) hM rfl rfl rfl) ?_
     refine o9 19 rfl (W9 (i:=19) hM rfl rfl rfl) ?_
     refine w7 Tryz.func55 (r8 2 .nil) (⟨T8,xs++[(r32,ts33)],i234,h235⟩) ?_ ?_ (hL:=⟨rfl,trivial⟩) <;>(try clear ih0)
     ·(try dsimp only) <;>((refine⟨⟨?_,?_,?_,?_⟩,by omega⟩ <;>(try dsimp only)) <;> first | decide | exact QX | (simp only [List.length_append,List.length_singleton];omega) | exact m7 (by assumption) (by assumption))
     ·rfl
   ·
    have h31':=l8 h31
    refine w9<|rB ?_
    refine rA<|c9 ?_
    refine j9 rfl (fun h46=>?_) (fun h46=>?_)
    ·
     have h46':=j8 h46
     refine l9<|rF 0 ?_
     refine rL ?_
     refine d9 (iZ rfl (by kernel_rfl) rfl rfl (.l rfl (by omega) (by(rw [u7];omega)))) ?_
     refine rF 0 ?_
     refine rS 1<|c9<|i9<|w9 ?_
     refine rC 2 ?_
     refine rS 2<|c9 ?_
     refine o9 17 rfl (W9 (i:=17) hM rfl rfl rfl) ?_
     refine o9 19 rfl (W9 (i:=19) hM rfl rfl rfl) ?_
     refine w7 Tryz.func55 (r8 2 .nil) (⟨(T8.take T8.length).drop ((1:Int)).toNat,xs,i226,h227⟩) ?_ ?_ (hL:=⟨rfl,trivial⟩) <;>(try clear ih0)
     ·(try dsimp only) <;>((refine⟨⟨?_,?_,?_,?_⟩,by omega⟩ <;>(try dsimp only)) <;> first | decide | exact fun z hz=>QX z (List.mem_of_mem_take (List.mem_of_mem_drop hz)) | omega)
     ·rfl
    ·
     have h46':=l8 h46
     refine w9<|rB ?_
     refine rA<|c9 ?_
     refine j9 rfl (fun h47=>?_) (fun h47=>?_)
     ·
      have h47':=j8 h47
      refine tD (fun i=>!(Nat.beq i 3||Nat.beq i 5||Nat.beq i 7)) ?_
      refine y7 0 rfl rfl (by kernel_rfl) (by kernel_rfl) (by kernel_rfl) (W7 (off:=0) (by kernel_rfl) rfl) ?_
      refine dT 2 rfl pM ?_
      refine y7 4 rfl rfl (by kernel_rfl) (by kernel_rfl) (by kernel_rfl) (V4 rfl) ?_
      refine d7 1 3 rfl rfl (by kernel_rfl) rfl rfl (V0 oL) (s9 0 21 22 (pv:=some v0) (N9 Tryz.func19) (A9 code i226 h227 5 (by omega) (by omega) (by omega) (by omega) (by omega)) rfl rfl (.cur rfl (.cons rfl .nil)) rfl (fun⟨_,_,_⟩=>rfl) (fun _=>rfl) (fun⟨_,_,_⟩=>rfl) rfl rfl) ?_ ?_
      ·
       rintro⟨⟩
       refine lZ 3 rfl (s9 0 21 22 (pv:=some v0) (N9 Tryz.func19) (A9 code i226 h227 5 (by omega) (by omega) (by omega) (by omega) (by omega)) rfl rfl (.cur rfl (.cons rfl .nil)) rfl (fun⟨_,_,_⟩=>rfl) (fun _=>rfl) (fun⟨_,_,_⟩=>rfl) rfl rfl) ?_
       rintro⟨⟨x54,i255,h256⟩,hq57⟩
       try dsimp only at hq57
       try dsimp only
       obtain⟨q58,q59⟩:=hq57
       refine lZ 5 rfl (s9 0 22 23 (pv:=some v0) (N9 Tryz.func106) (H4 code i255 h256 (by omega) (by omega) (by omega)) rfl rfl (.cur rfl .nil) rfl (fun⟨_,_,_,_,_⟩=>rfl) (fun _=>rfl) (fun⟨_,_,_,_,_⟩=>rfl) rfl rfl) ?_
       rintro⟨⟨n60,ar61,b62,i263,h264⟩,hq65⟩
       try dsimp only at hq65
       try dsimp only
       obtain⟨q66,q67⟩:=hq65
       obtain⟨z68,hz69,b70⟩:=t9 (xs:=T8) (n:=x54) (by omega) (by(rw [u7];omega))
       refine dT 6 rfl (T9 (by kernel_rfl) rfl rfl rfl b70 (f8 b70 hz69)) ?_
       refine dO 7 rfl (D8 ((n60,ar61,b62)) (n:=3) (by kernel_rfl) rfl rfl hz69 rfl rfl rfl rfl (.cons .sc (.cons .sc (.cons .sc .nil))) rfl (fun j h1 h2=>by(simp at h1 h2;omega))) ?_
       refine dE ?_
       refine i9<|w9<|rC 2 ?_
       refine rS 2<|c9 ?_
       refine o9 17 rfl (W9 (i:=17) hM rfl rfl rfl) ?_
       refine o9 19 rfl (W9 (i:=19) hM rfl rfl rfl) ?_
       refine w7 Tryz.func55 (r8 2 .nil) (⟨T8.set x54.toNat ((n60,ar61,b62)),xs,i263,h264⟩) ?_ ?_ (hL:=⟨rfl,trivial⟩) <;>(try clear ih0)
       ·(try dsimp only) <;>((refine⟨⟨?_,?_,?_,?_⟩,by omega⟩ <;>(try dsimp only)) <;> first | (simp only [List.length_set,List.length_drop,List.length_take,u7];omega) | exact F8 QX (by unfold fR;(try dsimp only);omega) | omega)
       ·rfl
      ·
       rintro⟨⟨x48,i249,h250⟩,hq51⟩
       try dsimp only at hq51
       try dsimp only
       obtain⟨q52,q53⟩:=hq51
       refine d7 1 5 rfl rfl (by kernel_rfl) rfl rfl (V0 oL) (s9 0 22 23 (pv:=some v0) (N9 Tryz.func106) (H4 code i249 h250 (by omega) (by omega) (by omega)) rfl rfl (.cur rfl .nil) rfl (fun⟨_,_,_,_,_⟩=>rfl) (fun _=>rfl) (fun⟨_,_,_,_,_⟩=>rfl) rfl rfl) ?_ ?_
       ·
        rintro⟨⟩
        refine lZ 5 rfl (s9 0 22 23 (pv:=some v0) (N9 Tryz.func106) (H4 code i249 h250 (by omega) (by omega) (by omega)) rfl rfl (.cur rfl .nil) rfl (fun⟨_,_,_,_,_⟩=>rfl) (fun _=>rfl) (fun⟨_,_,_,_,_⟩=>rfl) rfl rfl) ?_
        rintro⟨⟨n79,ar80,b81,i282,h283⟩,hq84⟩
        try dsimp only at hq84
        try dsimp only
        obtain⟨q85,q86⟩:=hq84
        obtain⟨z87,hz88,b89⟩:=t9 (xs:=T8) (n:=x48) (by omega) (by(rw [u7];omega))
        refine dT 6 rfl (T9 (by kernel_rfl) rfl rfl rfl b89 (f8 b89 hz88)) ?_
        refine dO 7 rfl (D8 ((n79,ar80,b81)) (n:=3) (by kernel_rfl) rfl rfl hz88 rfl rfl rfl rfl (.cons .sc (.cons .sc (.cons .sc .nil))) rfl (fun j h1 h2=>by(simp at h1 h2;omega))) ?_
        refine dE ?_
        refine i9<|w9<|rC 2 ?_
        refine rS 2<|c9 ?_
        refine o9 17 rfl (W9 (i:=17) hM rfl rfl rfl) ?_
        refine o9 19 rfl (W9 (i:=19) hM rfl rfl rfl) ?_
        refine w7 Tryz.func55 (r8 2 .nil) (⟨T8.set x48.toNat ((n79,ar80,b81)),xs,i282,h283⟩) ?_ ?_ (hL:=⟨rfl,trivial⟩) <;>(try clear ih0)
        ·(try dsimp only) <;>((refine⟨⟨?_,?_,?_,?_⟩,by omega⟩ <;>(try dsimp only)) <;> first | (simp only [List.length_set,List.length_drop,List.length_take,u7];omega) | exact F8 QX (by unfold fR;(try dsimp only);omega) | omega)
        ·rfl
       ·
        rintro⟨⟨n71,ar72,b73,i274,h275⟩,hq76⟩
        try dsimp only at hq76
        try dsimp only
        obtain⟨q77,q78⟩:=hq76
        refine dT 1 rfl pL ?_
        obtain⟨z90,hz91,b92⟩:=t9 (xs:=T8) (n:=x48) (by omega) (by(rw [u7];omega))
        refine dT 6 rfl (T9 (by kernel_rfl) rfl rfl rfl b92 (f8 b92 hz91)) ?_
        refine dO 7 rfl (D8 ((n71,ar72,b73)) (n:=3) (by kernel_rfl) rfl rfl hz91 rfl rfl rfl rfl (.cons .sc (.cons .sc (.cons .sc .nil))) rfl (fun j h1 h2=>by(simp at h1 h2;omega))) ?_
        refine dE ?_
        refine i9<|w9<|rC 2 ?_
        refine rS 2<|c9 ?_
        refine o9 17 rfl (W9 (i:=17) hM rfl rfl rfl) ?_
        refine o9 19 rfl (W9 (i:=19) hM rfl rfl rfl) ?_
        refine w7 Tryz.func55 (r8 2 .nil) (⟨T8.set x48.toNat ((n71,ar72,b73)),xs,i274,h275⟩) ?_ ?_ (hL:=⟨rfl,trivial⟩) <;>(try clear ih0)
        ·(try dsimp only) <;>((refine⟨⟨?_,?_,?_,?_⟩,by omega⟩ <;>(try dsimp only)) <;> first | (simp only [List.length_set,List.length_drop,List.length_take,u7];omega) | exact F8 QX (by unfold fR;(try dsimp only);omega) | omega)
        ·rfl
     ·
      have h47':=l8 h47
      refine m9<|i9<|w9<|rC 2 ?_
      refine rS 2<|c9 ?_
      refine o9 17 rfl (W9 (i:=17) hM rfl rfl rfl) ?_
      refine o9 19 rfl (W9 (i:=19) hM rfl rfl rfl) ?_
      refine w7 Tryz.func55 (r8 2 .nil) (⟨T8,xs,i226,h227⟩) ?_ ?_ (hL:=⟨rfl,trivial⟩) <;>(try clear ih0)
      ·(try dsimp only) <;>((refine⟨⟨?_,?_,?_,?_⟩,by omega⟩ <;>(try dsimp only)) <;> first | decide | exact QX | omega)
      ·rfl
 ·
  have h13':=h13
  refine m9<|k9<|w9<|rM ?_
  refine p7 (s9 0 9 10 (pv:=some v0) (N9 Tryz.func19) (A9 code i29 h210 14 (by omega) (by omega) (by omega) (by omega) (by omega)) rfl rfl (.cur rfl (.cons rfl .nil)) rfl (fun⟨_,_,_⟩=>rfl) (fun _=>rfl) (fun⟨_,_,_⟩=>rfl) rfl rfl) ?_
  rintro⟨⟨x93,i294,h295⟩,hq96⟩
  try dsimp only at hq96
  try dsimp only
  obtain⟨q97,q98⟩:=hq96
  refine c9<|r9<|w9<|rB ?_
  refine rA<|c9 ?_
  refine j9 rfl (fun h99=>?_) (fun h99=>?_)
  ·
   have h99':=j8 h99
   refine tD (fun i=>!(Nat.beq i 3||Nat.beq i 5||Nat.beq i 7)) ?_
   refine y7 0 rfl rfl (by kernel_rfl) (by kernel_rfl) (by kernel_rfl) (W7 (off:=1) (by kernel_rfl) rfl) ?_
   refine dT 2 rfl pM ?_
   refine d7 1 3 rfl rfl (by kernel_rfl) rfl rfl (V0 oL) (s9 0 10 18 (pv:=some v0) (N9 Tryz.func105) (P1 code i294 h295 (by omega) (by omega) (by omega)) rfl rfl (.cur rfl .nil) rfl (fun⟨_,_,_,_⟩=>rfl) (fun _=>rfl) (fun⟨_,_,_,_⟩=>rfl) rfl rfl) ?_ ?_
   ·
    rintro⟨⟩
    refine lZ 3 rfl (s9 0 10 18 (pv:=some v0) (N9 Tryz.func105) (P1 code i294 h295 (by omega) (by omega) (by omega)) rfl rfl (.cur rfl .nil) rfl (fun⟨_,_,_,_⟩=>rfl) (fun _=>rfl) (fun⟨_,_,_,_⟩=>rfl) rfl rfl) ?_
    rintro⟨⟨r107,ts108,i2109,h2110⟩,hq111⟩
    try dsimp only at hq111
    try dsimp only
    obtain⟨q112,q113⟩:=hq111
    refine dO 4 rfl (G8 18 (e:=57) (sz:=2) (zs:=[.int .i64 0,.slice none 0 0]) rfl rfl (by kernel_rfl) rfl rfl rfl rfl rfl) ?_
    refine dO 5 rfl (i8 6 (e:=57) (sz:=2) (by':=32) ((r107,ts108)) rfl (by kernel_rfl) rfl rfl rfl rfl rfl rfl (.cons .sc (.take (.own rfl) rfl .nil)) rfl (by omega) (by omega)) ?_
    refine dT 6 rfl (pF 1) ?_
    refine dO 7 rfl (oS 1) ?_
    refine dE ?_
    refine i9<|w9<|rC 2 ?_
    refine rS 2<|c9 ?_
    refine o9 5 rfl (W9 (i:=5) hM rfl rfl rfl) ?_
    refine o9 6 rfl (W9 (i:=6) hM rfl rfl rfl) ?_
    refine w7 Tryz.func55 (r8 2 .nil) (⟨T8,fs1++[(r107,ts108)],i2109,h2110⟩) ?_ ?_ (hL:=⟨rfl,trivial⟩) <;>(try clear ih0)
    ·(try dsimp only) <;>((refine⟨⟨?_,?_,?_,?_⟩,by omega⟩ <;>(try dsimp only)) <;> first | decide | exact QX | (simp only [List.length_append,List.length_singleton];omega) | exact m7 (by assumption) (by assumption))
    ·rfl
   ·
    rintro⟨⟨r100,ts101,i2102,h2103⟩,hq104⟩
    try dsimp only at hq104
    try dsimp only
    obtain⟨q105,q106⟩:=hq104
    refine dT 1 rfl pL ?_
    refine dO 4 rfl (G8 18 (e:=57) (sz:=2) (zs:=[.int .i64 0,.slice none 0 0]) rfl rfl (by kernel_rfl) rfl rfl rfl rfl rfl) ?_
    refine dO 5 rfl (i8 6 (e:=57) (sz:=2) (by':=32) ((r100,ts101)) rfl (by kernel_rfl) rfl rfl rfl rfl rfl rfl (.cons .sc (.take (.own rfl) rfl .nil)) rfl (by omega) (by omega)) ?_
    refine dT 6 rfl (pF 1) ?_
    refine dO 7 rfl (oS 1) ?_
    refine dE ?_
    refine i9<|w9<|rC 2 ?_
    refine rS 2<|c9 ?_
    refine o9 5 rfl (W9 (i:=5) hM rfl rfl rfl) ?_
    refine o9 6 rfl (W9 (i:=6) hM rfl rfl rfl) ?_
    refine w7 Tryz.func55 (r8 2 .nil) (⟨T8,fs1++[(r100,ts101)],i2102,h2103⟩) ?_ ?_ (hL:=⟨rfl,trivial⟩) <;>(try clear ih0)
    ·(try dsimp only) <;>((refine⟨⟨?_,?_,?_,?_⟩,by omega⟩ <;>(try dsimp only)) <;> first | decide | exact QX | (simp only [List.length_append,List.length_singleton];omega) | exact m7 (by assumption) (by assumption))
    ·rfl
  ·
   have h99':=l8 h99
   refine w9<|rB ?_
   refine rA<|c9 ?_
   refine j9 rfl (fun h114=>?_) (fun h114=>?_)
   ·
    have h114':=j8 h114
    refine l9<|rF 0 ?_
    refine rL ?_
    refine d9 (iZ rfl (by kernel_rfl) rfl rfl (.l rfl (by omega) (by(rw [u7];omega)))) ?_
    refine rF 0 ?_
    refine rS 1<|c9<|i9<|w9 ?_
    refine rC 2 ?_
    refine rS 2<|c9 ?_
    refine o9 5 rfl (W9 (i:=5) hM rfl rfl rfl) ?_
    refine o9 6 rfl (W9 (i:=6) hM rfl rfl rfl) ?_
    refine w7 Tryz.func55 (r8 2 .nil) (⟨(T8.take T8.length).drop ((1:Int)).toNat,fs1,i294,h295⟩) ?_ ?_ (hL:=⟨rfl,trivial⟩) <;>(try clear ih0)
    ·(try dsimp only) <;>((refine⟨⟨?_,?_,?_,?_⟩,by omega⟩ <;>(try dsimp only)) <;> first | decide | exact fun z hz=>QX z (List.mem_of_mem_take (List.mem_of_mem_drop hz)) | omega)
    ·rfl
   ·
    have h114':=l8 h114
    refine w9<|rB ?_
    refine rA<|c9 ?_
    refine j9 rfl (fun h115=>?_) (fun h115=>?_)
    ·
     have h115':=j8 h115
     refine tD (fun i=>!(Nat.beq i 3||Nat.beq i 5||Nat.beq i 7)) ?_
     refine y7 0 rfl rfl (by kernel_rfl) (by kernel_rfl) (by kernel_rfl) (W7 (off:=0) (by kernel_rfl) rfl) ?_
     refine dT 2 rfl pM ?_
     refine y7 4 rfl rfl (by kernel_rfl) (by kernel_rfl) (by kernel_rfl) (V4 rfl) ?_
     refine d7 1 3 rfl rfl (by kernel_rfl) rfl rfl (V0 oL) (s9 0 10 11 (pv:=some v0) (N9 Tryz.func19) (A9 code i294 h295 5 (by omega) (by omega) (by omega) (by omega) (by omega)) rfl rfl (.cur rfl (.cons rfl .nil)) rfl (fun⟨_,_,_⟩=>rfl) (fun _=>rfl) (fun⟨_,_,_⟩=>rfl) rfl rfl) ?_ ?_
     ·
      rintro⟨⟩
      refine lZ 3 rfl (s9 0 10 11 (pv:=some v0) (N9 Tryz.func19) (A9 code i294 h295 5 (by omega) (by omega) (by omega) (by omega) (by omega)) rfl rfl (.cur rfl (.cons rfl .nil)) rfl (fun⟨_,_,_⟩=>rfl) (fun _=>rfl) (fun⟨_,_,_⟩=>rfl) rfl rfl) ?_
      rintro⟨⟨x122,i2123,h2124⟩,hq125⟩
      try dsimp only at hq125
      try dsimp only
      obtain⟨q126,q127⟩:=hq125
      refine lZ 5 rfl (s9 0 11 12 (pv:=some v0) (N9 Tryz.func106) (H4 code i2123 h2124 (by omega) (by omega) (by omega)) rfl rfl (.cur rfl .nil) rfl (fun⟨_,_,_,_,_⟩=>rfl) (fun _=>rfl) (fun⟨_,_,_,_,_⟩=>rfl) rfl rfl) ?_
      rintro⟨⟨n128,ar129,b130,i2131,h2132⟩,hq133⟩
      try dsimp only at hq133
      try dsimp only
      obtain⟨q134,q135⟩:=hq133
      obtain⟨z136,hz137,b138⟩:=t9 (xs:=T8) (n:=x122) (by omega) (by(rw [u7];omega))
      refine dT 6 rfl (T9 (by kernel_rfl) rfl rfl rfl b138 (f8 b138 hz137)) ?_
      refine dO 7 rfl (D8 ((n128,ar129,b130)) (n:=3) (by kernel_rfl) rfl rfl hz137 rfl rfl rfl rfl (.cons .sc (.cons .sc (.cons .sc .nil))) rfl (fun j h1 h2=>by(simp at h1 h2;omega))) ?_
      refine dE ?_
      refine i9<|w9<|rC 2 ?_
      refine rS 2<|c9 ?_
      refine o9 5 rfl (W9 (i:=5) hM rfl rfl rfl) ?_
      refine o9 6 rfl (W9 (i:=6) hM rfl rfl rfl) ?_
      refine w7 Tryz.func55 (r8 2 .nil) (⟨T8.set x122.toNat ((n128,ar129,b130)),fs1,i2131,h2132⟩) ?_ ?_ (hL:=⟨rfl,trivial⟩) <;>(try clear ih0)
      ·(try dsimp only) <;>((refine⟨⟨?_,?_,?_,?_⟩,by omega⟩ <;>(try dsimp only)) <;> first | (simp only [List.length_set,List.length_drop,List.length_take,u7];omega) | exact F8 QX (by unfold fR;(try dsimp only);omega) | omega)
      ·rfl
     ·
      rintro⟨⟨x116,i2117,h2118⟩,hq119⟩
      try dsimp only at hq119
      try dsimp only
      obtain⟨q120,q121⟩:=hq119
      refine d7 1 5 rfl rfl (by kernel_rfl) rfl rfl (V0 oL) (s9 0 11 12 (pv:=some v0) (N9 Tryz.func106) (H4 code i2117 h2118 (by omega) (by omega) (by omega)) rfl rfl (.cur rfl .nil) rfl (fun⟨_,_,_,_,_⟩=>rfl) (fun _=>rfl) (fun⟨_,_,_,_,_⟩=>rfl) rfl rfl) ?_ ?_
      ·
       rintro⟨⟩
       refine lZ 5 rfl (s9 0 11 12 (pv:=some v0) (N9 Tryz.func106) (H4 code i2117 h2118 (by omega) (by omega) (by omega)) rfl rfl (.cur rfl .nil) rfl (fun⟨_,_,_,_,_⟩=>rfl) (fun _=>rfl) (fun⟨_,_,_,_,_⟩=>rfl) rfl rfl) ?_
       rintro⟨⟨n147,ar148,b149,i2150,h2151⟩,hq152⟩
       try dsimp only at hq152
       try dsimp only
       obtain⟨q153,q154⟩:=hq152
       obtain⟨z155,hz156,b157⟩:=t9 (xs:=T8) (n:=x116) (by omega) (by(rw [u7];omega))
       refine dT 6 rfl (T9 (by kernel_rfl) rfl rfl rfl b157 (f8 b157 hz156)) ?_
       refine dO 7 rfl (D8 ((n147,ar148,b149)) (n:=3) (by kernel_rfl) rfl rfl hz156 rfl rfl rfl rfl (.cons .sc (.cons .sc (.cons .sc .nil))) rfl (fun j h1 h2=>by(simp at h1 h2;omega))) ?_
       refine dE ?_
       refine i9<|w9<|rC 2 ?_
       refine rS 2<|c9 ?_
       refine o9 5 rfl (W9 (i:=5) hM rfl rfl rfl) ?_
       refine o9 6 rfl (W9 (i:=6) hM rfl rfl rfl) ?_
       refine w7 Tryz.func55 (r8 2 .nil) (⟨T8.set x116.toNat ((n147,ar148,b149)),fs1,i2150,h2151⟩) ?_ ?_ (hL:=⟨rfl,trivial⟩) <;>(try clear ih0)
       ·(try dsimp only) <;>((refine⟨⟨?_,?_,?_,?_⟩,by omega⟩ <;>(try dsimp only)) <;> first | (simp only [List.length_set,List.length_drop,List.length_take,u7];omega) | exact F8 QX (by unfold fR;(try dsimp only);omega) | omega)
       ·rfl
      ·
       rintro⟨⟨n139,ar140,b141,i2142,h2143⟩,hq144⟩
       try dsimp only at hq144
       try dsimp only
       obtain⟨q145,q146⟩:=hq144
       refine dT 1 rfl pL ?_
       obtain⟨z158,hz159,b160⟩:=t9 (xs:=T8) (n:=x116) (by omega) (by(rw [u7];omega))
       refine dT 6 rfl (T9 (by kernel_rfl) rfl rfl rfl b160 (f8 b160 hz159)) ?_
       refine dO 7 rfl (D8 ((n139,ar140,b141)) (n:=3) (by kernel_rfl) rfl rfl hz159 rfl rfl rfl rfl (.cons .sc (.cons .sc (.cons .sc .nil))) rfl (fun j h1 h2=>by(simp at h1 h2;omega))) ?_
       refine dE ?_
       refine i9<|w9<|rC 2 ?_
       refine rS 2<|c9 ?_
       refine o9 5 rfl (W9 (i:=5) hM rfl rfl rfl) ?_
       refine o9 6 rfl (W9 (i:=6) hM rfl rfl rfl) ?_
       refine w7 Tryz.func55 (r8 2 .nil) (⟨T8.set x116.toNat ((n139,ar140,b141)),fs1,i2142,h2143⟩) ?_ ?_ (hL:=⟨rfl,trivial⟩) <;>(try clear ih0)
       ·(try dsimp only) <;>((refine⟨⟨?_,?_,?_,?_⟩,by omega⟩ <;>(try dsimp only)) <;> first | (simp only [List.length_set,List.length_drop,List.length_take,u7];omega) | exact F8 QX (by unfold fR;(try dsimp only);omega) | omega)
       ·rfl
    ·
     have h115':=l8 h115
     refine m9<|i9<|w9<|rC 2 ?_
     refine rS 2<|c9 ?_
     refine o9 5 rfl (W9 (i:=5) hM rfl rfl rfl) ?_
     refine o9 6 rfl (W9 (i:=6) hM rfl rfl rfl) ?_
     refine w7 Tryz.func55 (r8 2 .nil) (⟨T8,fs1,i294,h295⟩) ?_ ?_ (hL:=⟨rfl,trivial⟩) <;>(try clear ih0)
     ·(try dsimp only) <;>((refine⟨⟨?_,?_,?_,?_⟩,by omega⟩ <;>(try dsimp only)) <;> first | decide | exact QX | omega)
     ·rfl
end Go.Eng
