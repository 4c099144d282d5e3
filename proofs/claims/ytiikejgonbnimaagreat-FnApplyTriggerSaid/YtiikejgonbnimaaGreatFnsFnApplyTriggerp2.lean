/- What the functions that FnApplyTrigger reaches answer. -/
import Derived.Test.YtiikejgonbnimaaGreatFnsFnApplyTriggerp1
import Derived.Test.YtiikejgonbnimaaGreatEngZU
import Derived.Test.YtiikejgonbnimaaGreatChecked
set_option linter.unusedVariables false
set_option linter.unusedSimpArgs false
namespace Go.Eng
open Go Go.RowKit Go.Proofs
set_option maxHeartbeats 1000000
set_option maxRecDepth 10000
theorem DZ (code:List Int)(hc:code.length≤1048576):jG Tryz.prog 5 [.c (.t none (.sl 1 f6 code))] (fun(⟨rs,fs,b,hs,e,lv,rv,v⟩:V9 × p9 × p9 × p9 × Bool × Int × Int ×(List Int))=>oT rs fs∧yY (b,hs,e,lv,rv)∧v.length≤5∧(∀x∈v,s7 x)) (fun(⟨rs,fs,b,hs,e,lv,rv,v⟩:V9 × p9 × p9 × p9 × Bool × Int × Int ×(List Int))=>[]) 0 (fun(⟨rs,fs,b,hs,e,lv,rv,v⟩:V9 × p9 × p9 × p9 × Bool × Int × Int ×(List Int))=> .tup [(true,[.t none (.sl 3 (d8 Z9 f9 a8) rs),.t none (.sl 2 (E9 f9 (B9 1 f9)) fs)]),(true,[.t none (.sl 2 (E9 f9 (B9 1 f9)) b),.t none (.sl 2 (E9 f9 (B9 1 f9)) hs),.t none (.v (.bool e)),.t none (.v (.int .i64 lv)),.t none (.v (.int .i64 rv))]),(false,[.t none (.sl 1 f9 v)])]):=by
 refine bV Tryz.func5 rfl (Nat.le_of_ble_eq_true rfl) fun w S=>?_
 refine w9 ?_
 refine d9 (I9 0 (zs:=[.slice none 0 0,.slice none 0 0]) rfl rfl (by kernel_rfl) rfl) ?_
 refine d9 (I9 1 (zs:=[.slice none 0 0,.slice none 0 0,.bool false,.int .i64 0,.int .i64 0]) rfl rfl (by kernel_rfl) rfl) ?_
 refine rA<|o7 ?_
 refine rM ?_
 refine p7 (US 2 5 (N9 Tryz.func16) (nU code (by omega)) rfl (.cons rfl (.c .t0) .nil) rfl rfl) ?_
 rintro⟨⟨rs1,fs2,b3,hs4,e5,lv6,rv7,i28,h29⟩,hq10⟩
 try dsimp only at hq10
 try dsimp only
 obtain⟨q11,q12,q13⟩:=hq10
 have hx0:oT rs1 fs2:=(by assumption);obtain⟨hx1,hx2,hx3,hx4⟩:=hx0;have xs1:=L0 hx4;have xs3:=YU hx4;have dd:yY (b3,hs4,e5,lv6,rv7):=(by assumption);have ds1:=BV dd.2.2.1;have ds2:=BV dd.2.2.2.1;have ds3:=dd.1;have ds4:=dd.2.1;have ds5:=dd.2.2.2.2;(try dsimp only at ds1 ds2 ds3 ds4 ds5);have do1:=cX dd.2.2.1;have do2:=cX dd.2.2.2.1;have a121:(v4 rs1 fs2 b3 hs4 e5 lv6 rv7).length≤121:=LK hx3 dd.1.2;have s5:∀r∈v4 rs1 fs2 b3 hs4 e5 lv6 rv7,r.length≤5∧∀x∈r,s7 x:=(fun r hr=>⟨Nat.le_of_eq (FS hr).2,nT xs3 (FS hr).1⟩)
 refine rM ?_
 refine d9 (O9 rfl rfl rfl rfl) ?_
 refine d9 (O9 rfl rfl rfl rfl) ?_
 refine d9 (O9 rfl rfl rfl rfl) ?_
 refine d9 (I9 5 (zs:=[.slice none 0 0,.slice none 0 0]) rfl rfl (by kernel_rfl) rfl) ?_
 refine d9 (I9 6 (zs:=[.slice none 0 0,.slice none 0 0,.bool false,.int .i64 0,.int .i64 0]) rfl rfl (by kernel_rfl) rfl) ?_
 refine rA ?_
 refine rS 2 ?_
 refine rS 5<|o7 ?_
 refine rC 2 ?_
 refine rC 5 ?_
 refine d9 (n9 7 10 false (N9 Tryz.func17) (lY rs1 fs2 b3 hs4 e5 lv6 rv7 (by omega) (by omega) (by omega) (by omega) (by omega)) rfl (.cons rfl (.agg (.cons .t0 (.cons .t0 .nil))) (.cons rfl (.agg (.cons .t0 (.cons .t0 (.cons .t0 (.cons .t0 (.cons .t0 .nil)))))) .nil)) rfl rfl rfl) ?_
 refine rA<|c9<|k9<|w9 ?_
 refine rM ?_
 refine d9 (M7 rfl rfl rfl rfl) ?_
 refine rB ?_
 refine rM ?_
 refine x9 (fun g14=>?_) (fun g14=>?_)
 ·
  have g14':=j8 g14
  refine rM ?_
  refine x9 (fun _=>?_) (nc g14)
  refine p7 (s9 4 10 11 (pv:=none) (N9 Tryz.func18) (J6 code i28 h29 4 (by omega) (by omega) (by omega) (by omega) (by omega)) rfl rfl (.cur rfl (.cons rfl .nil)) rfl (fun⟨_,_,_⟩=>rfl) (fun _=>rfl) (fun⟨_,_,_⟩=>rfl) rfl rfl) ?_
  rintro⟨⟨b15,i216,h217⟩,hq18⟩
  try dsimp only at hq18
  try dsimp only
  refine x9 (fun _=>?_) (nc g14)
  refine d9 (Q8 rfl rfl) ?_
  refine d9 (M9 rfl rfl g14 rfl) ?_
  refine c9 ?_
  refine j9 rfl (fun h20=>?_) (fun h20=>?_)
  ·
   have h20':=(P4 h20)
   refine k9 ?_
   refine tD (fun i=>!(Nat.beq i 6||Nat.beq i 9||Nat.beq i 10)) ?_
   refine y7 2 rfl rfl (by kernel_rfl) (by kernel_rfl) (by kernel_rfl) (V4 rfl) ?_
   refine dT 3 rfl pM ?_
   refine dT 4 rfl pM ?_
   refine dT 5 rfl (J2 rfl rfl rfl) ?_
   refine DU 0 1 6 rfl rfl rfl (by kernel_rfl) rfl rfl rfl (V0 (oC 2)) (V0 (oC 5)) (s9 4 11 12 (pv:=none) (N9 Tryz.func19) (A9 code i216 h217 (((v4 rs1 fs2 b3 hs4 e5 lv6 rv7).length:Int)) (by omega) (by omega) (by omega) (by omega) (by omega)) rfl rfl (.cur rfl (.cons rfl .nil)) rfl (fun⟨_,_,_⟩=>rfl) (fun _=>rfl) (fun⟨_,_,_⟩=>rfl) rfl rfl) ?_ ?_ ?_
   ·
    rintro⟨⟩
    refine d7 1 6 rfl rfl (by kernel_rfl) rfl rfl (V0 (oC 5)) (s9 4 11 12 (pv:=none) (N9 Tryz.func19) (A9 code i216 h217 (((v4 rs1 fs2 b3 hs4 e5 lv6 rv7).length:Int)) (by omega) (by omega) (by omega) (by omega) (by omega)) rfl rfl (.cur rfl (.cons rfl .nil)) rfl (fun⟨_,_,_⟩=>rfl) (fun _=>rfl) (fun⟨_,_,_⟩=>rfl) rfl rfl) ?_ ?_
    ·
     rintro⟨⟩
     refine lZ 6 rfl (s9 4 11 12 (pv:=none) (N9 Tryz.func19) (A9 code i216 h217 (((v4 rs1 fs2 b3 hs4 e5 lv6 rv7).length:Int)) (by omega) (by omega) (by omega) (by omega) (by omega)) rfl rfl (.cur rfl (.cons rfl .nil)) rfl (fun⟨_,_,_⟩=>rfl) (fun _=>rfl) (fun⟨_,_,_⟩=>rfl) rfl rfl) ?_
     rintro⟨⟨x33,i234,h235⟩,hq36⟩
     try dsimp only at hq36
     try dsimp only
     obtain⟨q37,q38⟩:=hq36
     obtain⟨z39,hz40,b41⟩:=t9 (xs:=v4 rs1 fs2 b3 hs4 e5 lv6 rv7) (n:=x33) (by omega) (by omega)
     refine O8 7 9 rfl rfl (by kernel_rfl) rfl rfl (t8 rfl (by kernel_rfl) rfl rfl rfl b41 (f8 b41 hz40)) (oS 2) ?_ ?_
     ·
      refine O8 8 9 rfl rfl (by kernel_rfl) rfl rfl (p8 rfl (by kernel_rfl) rfl rfl rfl hz40) (oS 2) ?_ ?_
      ·
       refine dO 9 rfl (oS 2) ?_
       refine dO 10 rfl (oS 5) ?_
       refine dT 11 rfl pA ?_
       refine dE ?_
       refine o9 9 rfl (K9 rfl) ?_
       refine w7 Tryz.func5 (r8 2 (r8 5 (.tmp rfl .nil))) (⟨rs1,fs2,b3,hs4,e5,lv6,rv7,z39⟩) ?_ ?_
       ·(try dsimp only) <;>((exact⟨by assumption,by assumption,(s5 _ (J8 (by assumption))).1,(s5 _ (J8 (by assumption))).2⟩))
       ·rfl
      ·
       refine O8 8 10 rfl rfl (by kernel_rfl) rfl rfl (p8 rfl (by kernel_rfl) rfl rfl rfl hz40) (oS 5) ?_ ?_
       ·
        refine dO 10 rfl (oS 5) ?_
        refine dT 11 rfl pA ?_
        refine dE ?_
        refine o9 9 rfl (K9 rfl) ?_
        refine w7 Tryz.func5 (r8 2 (r8 5 (.tmp rfl .nil))) (⟨rs1,fs2,b3,hs4,e5,lv6,rv7,z39⟩) ?_ ?_
        ·(try dsimp only) <;>((exact⟨by assumption,by assumption,(s5 _ (J8 (by assumption))).1,(s5 _ (J8 (by assumption))).2⟩))
        ·rfl
       ·
        refine dT 8 rfl (E8 (by kernel_rfl) rfl rfl rfl hz40) ?_
        refine dT 11 rfl pA ?_
        refine dE ?_
        refine o9 9 rfl (K9 rfl) ?_
        refine w7 Tryz.func5 (r8 2 (r8 5 (.tmp rfl .nil))) (⟨rs1,fs2,b3,hs4,e5,lv6,rv7,z39⟩) ?_ ?_
        ·(try dsimp only) <;>((exact⟨by assumption,by assumption,(s5 _ (J8 (by assumption))).1,(s5 _ (J8 (by assumption))).2⟩))
        ·rfl
     ·
      obtain⟨z42,hz43,b44⟩:=t9 (xs:=v4 rs1 fs2 b3 hs4 e5 lv6 rv7) (n:=x33) (by omega) (by omega)
      refine O8 7 10 rfl rfl (by kernel_rfl) rfl rfl (t8 rfl (by kernel_rfl) rfl rfl rfl b44 (f8 b44 hz43)) (oS 5) ?_ ?_
      ·
       refine O8 8 10 rfl rfl (by kernel_rfl) rfl rfl (p8 rfl (by kernel_rfl) rfl rfl rfl hz43) (oS 5) ?_ ?_
       ·
        refine dO 10 rfl (oS 5) ?_
        refine dT 11 rfl pA ?_
        refine dE ?_
        refine o9 9 rfl (K9 rfl) ?_
        refine w7 Tryz.func5 (r8 2 (r8 5 (.tmp rfl .nil))) (⟨rs1,fs2,b3,hs4,e5,lv6,rv7,z42⟩) ?_ ?_
        ·(try dsimp only) <;>((exact⟨by assumption,by assumption,(s5 _ (J8 (by assumption))).1,(s5 _ (J8 (by assumption))).2⟩))
        ·rfl
       ·
        refine dT 8 rfl (E8 (by kernel_rfl) rfl rfl rfl hz43) ?_
        refine dT 11 rfl pA ?_
        refine dE ?_
        refine o9 9 rfl (K9 rfl) ?_
        refine w7 Tryz.func5 (r8 2 (r8 5 (.tmp rfl .nil))) (⟨rs1,fs2,b3,hs4,e5,lv6,rv7,z42⟩) ?_ ?_
        ·(try dsimp only) <;>((exact⟨by assumption,by assumption,(s5 _ (J8 (by assumption))).1,(s5 _ (J8 (by assumption))).2⟩))
        ·rfl
      ·
       obtain⟨z45,hz46,b47⟩:=t9 (xs:=v4 rs1 fs2 b3 hs4 e5 lv6 rv7) (n:=x33) (by omega) (by omega)
       refine dT 7 rfl (T9 (by kernel_rfl) rfl rfl rfl b47 (f8 b47 hz46)) ?_
       refine dT 8 rfl (E8 (by kernel_rfl) rfl rfl rfl hz46) ?_
       refine dT 11 rfl pA ?_
       refine dE ?_
       refine o9 9 rfl (K9 rfl) ?_
       refine w7 Tryz.func5 (r8 2 (r8 5 (.tmp rfl .nil))) (⟨rs1,fs2,b3,hs4,e5,lv6,rv7,z45⟩) ?_ ?_
       ·(try dsimp only) <;>((exact⟨by assumption,by assumption,(s5 _ (J8 (by assumption))).1,(s5 _ (J8 (by assumption))).2⟩))
       ·rfl
    ·
     rintro⟨⟨x27,i228,h229⟩,hq30⟩
     try dsimp only at hq30
     try dsimp only
     obtain⟨q31,q32⟩:=hq30
     obtain⟨z48,hz49,b50⟩:=t9 (xs:=v4 rs1 fs2 b3 hs4 e5 lv6 rv7) (n:=x27) (by omega) (by omega)
     refine gU 1 7 9 rfl rfl rfl (by kernel_rfl) rfl rfl rfl (oC 5) (t8 rfl (by kernel_rfl) rfl rfl rfl b50 (f8 b50 hz49)) (oS 2) ?_ ?_ ?_
     ·
      obtain⟨z51,hz52,b53⟩:=t9 (xs:=v4 rs1 fs2 b3 hs4 e5 lv6 rv7) (n:=x27) (by omega) (by omega)
      refine O8 7 9 rfl rfl (by kernel_rfl) rfl rfl (t8 rfl (by kernel_rfl) rfl rfl rfl b53 (f8 b53 hz52)) (oS 2) ?_ ?_
      ·
       refine O8 8 9 rfl rfl (by kernel_rfl) rfl rfl (p8 rfl (by kernel_rfl) rfl rfl rfl hz52) (oS 2) ?_ ?_
       ·
        refine dO 9 rfl (oS 2) ?_
        refine dO 10 rfl (oS 5) ?_
        refine dT 11 rfl pA ?_
        refine dE ?_
        refine o9 9 rfl (K9 rfl) ?_
        refine w7 Tryz.func5 (r8 2 (r8 5 (.tmp rfl .nil))) (⟨rs1,fs2,b3,hs4,e5,lv6,rv7,z51⟩) ?_ ?_
        ·(try dsimp only) <;>((exact⟨by assumption,by assumption,(s5 _ (J8 (by assumption))).1,(s5 _ (J8 (by assumption))).2⟩))
        ·rfl
       ·
        refine O8 8 10 rfl rfl (by kernel_rfl) rfl rfl (p8 rfl (by kernel_rfl) rfl rfl rfl hz52) (oS 5) ?_ ?_
        ·
         refine dO 10 rfl (oS 5) ?_
         refine dT 11 rfl pA ?_
         refine dE ?_
         refine o9 9 rfl (K9 rfl) ?_
         refine w7 Tryz.func5 (r8 2 (r8 5 (.tmp rfl .nil))) (⟨rs1,fs2,b3,hs4,e5,lv6,rv7,z51⟩) ?_ ?_
         ·(try dsimp only) <;>((exact⟨by assumption,by assumption,(s5 _ (J8 (by assumption))).1,(s5 _ (J8 (by assumption))).2⟩))
         ·rfl
        ·
         refine dT 8 rfl (E8 (by kernel_rfl) rfl rfl rfl hz52) ?_
         refine dT 11 rfl pA ?_
         refine dE ?_
         refine o9 9 rfl (K9 rfl) ?_
         refine w7 Tryz.func5 (r8 2 (r8 5 (.tmp rfl .nil))) (⟨rs1,fs2,b3,hs4,e5,lv6,rv7,z51⟩) ?_ ?_
         ·(try dsimp only) <;>((exact⟨by assumption,by assumption,(s5 _ (J8 (by assumption))).1,(s5 _ (J8 (by assumption))).2⟩))
         ·rfl
      ·
       obtain⟨z54,hz55,b56⟩:=t9 (xs:=v4 rs1 fs2 b3 hs4 e5 lv6 rv7) (n:=x27) (by omega) (by omega)
       refine O8 7 10 rfl rfl (by kernel_rfl) rfl rfl (t8 rfl (by kernel_rfl) rfl rfl rfl b56 (f8 b56 hz55)) (oS 5) ?_ ?_
       ·
        refine O8 8 10 rfl rfl (by kernel_rfl) rfl rfl (p8 rfl (by kernel_rfl) rfl rfl rfl hz55) (oS 5) ?_ ?_
        ·
         refine dO 10 rfl (oS 5) ?_
         refine dT 11 rfl pA ?_
         refine dE ?_
         refine o9 9 rfl (K9 rfl) ?_
         refine w7 Tryz.func5 (r8 2 (r8 5 (.tmp rfl .nil))) (⟨rs1,fs2,b3,hs4,e5,lv6,rv7,z54⟩) ?_ ?_
         ·(try dsimp only) <;>((exact⟨by assumption,by assumption,(s5 _ (J8 (by assumption))).1,(s5 _ (J8 (by assumption))).2⟩))
         ·rfl
        ·
         refine dT 8 rfl (E8 (by kernel_rfl) rfl rfl rfl hz55) ?_
         refine dT 11 rfl pA ?_
         refine dE ?_
         refine o9 9 rfl (K9 rfl) ?_
         refine w7 Tryz.func5 (r8 2 (r8 5 (.tmp rfl .nil))) (⟨rs1,fs2,b3,hs4,e5,lv6,rv7,z54⟩) ?_ ?_
         ·(try dsimp only) <;>((exact⟨by assumption,by assumption,(s5 _ (J8 (by assumption))).1,(s5 _ (J8 (by assumption))).2⟩))
         ·rfl
       ·
        obtain⟨z57,hz58,b59⟩:=t9 (xs:=v4 rs1 fs2 b3 hs4 e5 lv6 rv7) (n:=x27) (by omega) (by omega)
        refine dT 7 rfl (T9 (by kernel_rfl) rfl rfl rfl b59 (f8 b59 hz58)) ?_
        refine dT 8 rfl (E8 (by kernel_rfl) rfl rfl rfl hz58) ?_
        refine dT 11 rfl pA ?_
        refine dE ?_
        refine o9 9 rfl (K9 rfl) ?_
        refine w7 Tryz.func5 (r8 2 (r8 5 (.tmp rfl .nil))) (⟨rs1,fs2,b3,hs4,e5,lv6,rv7,z57⟩) ?_ ?_
        ·(try dsimp only) <;>((exact⟨by assumption,by assumption,(s5 _ (J8 (by assumption))).1,(s5 _ (J8 (by assumption))).2⟩))
        ·rfl
     ·
      refine gU 1 8 9 rfl rfl rfl (by kernel_rfl) rfl rfl rfl (oC 5) (p8 rfl (by kernel_rfl) rfl rfl rfl hz49) (oS 2) ?_ ?_ ?_
      ·
       refine O8 8 9 rfl rfl (by kernel_rfl) rfl rfl (p8 rfl (by kernel_rfl) rfl rfl rfl hz49) (oS 2) ?_ ?_
       ·
        refine dO 9 rfl (oS 2) ?_
        refine dO 10 rfl (oS 5) ?_
        refine dT 11 rfl pA ?_
        refine dE ?_
        refine o9 9 rfl (K9 rfl) ?_
        refine w7 Tryz.func5 (r8 2 (r8 5 (.tmp rfl .nil))) (⟨rs1,fs2,b3,hs4,e5,lv6,rv7,z48⟩) ?_ ?_
        ·(try dsimp only) <;>((exact⟨by assumption,by assumption,(s5 _ (J8 (by assumption))).1,(s5 _ (J8 (by assumption))).2⟩))
        ·rfl
       ·
        refine O8 8 10 rfl rfl (by kernel_rfl) rfl rfl (p8 rfl (by kernel_rfl) rfl rfl rfl hz49) (oS 5) ?_ ?_
        ·
         refine dO 10 rfl (oS 5) ?_
         refine dT 11 rfl pA ?_
         refine dE ?_
         refine o9 9 rfl (K9 rfl) ?_
         refine w7 Tryz.func5 (r8 2 (r8 5 (.tmp rfl .nil))) (⟨rs1,fs2,b3,hs4,e5,lv6,rv7,z48⟩) ?_ ?_
         ·(try dsimp only) <;>((exact⟨by assumption,by assumption,(s5 _ (J8 (by assumption))).1,(s5 _ (J8 (by assumption))).2⟩))
         ·rfl
        ·
         refine dT 8 rfl (E8 (by kernel_rfl) rfl rfl rfl hz49) ?_
         refine dT 11 rfl pA ?_
         refine dE ?_
         refine o9 9 rfl (K9 rfl) ?_
         refine w7 Tryz.func5 (r8 2 (r8 5 (.tmp rfl .nil))) (⟨rs1,fs2,b3,hs4,e5,lv6,rv7,z48⟩) ?_ ?_
         ·(try dsimp only) <;>((exact⟨by assumption,by assumption,(s5 _ (J8 (by assumption))).1,(s5 _ (J8 (by assumption))).2⟩))
         ·rfl
      ·
       refine O8 1 9 rfl rfl (by kernel_rfl) rfl rfl (oC 5) (oS 2) ?_ ?_
       ·
        refine dO 9 rfl (oS 2) ?_
        refine dO 10 rfl (oS 5) ?_
        refine dT 11 rfl pA ?_
        refine dE ?_
        refine o9 9 rfl (K9 rfl) ?_
        refine w7 Tryz.func5 (r8 2 (r8 5 (.tmp rfl .nil))) (⟨rs1,fs2,b3,hs4,e5,lv6,rv7,z48⟩) ?_ ?_
        ·(try dsimp only) <;>((exact⟨by assumption,by assumption,(s5 _ (J8 (by assumption))).1,(s5 _ (J8 (by assumption))).2⟩))
        ·rfl
       ·
        refine dT 1 rfl (pC 5) ?_
        refine dO 10 rfl (oS 5) ?_
        refine dT 11 rfl pA ?_
        refine dE ?_
        refine o9 9 rfl (K9 rfl) ?_
        refine w7 Tryz.func5 (r8 2 (r8 5 (.tmp rfl .nil))) (⟨rs1,fs2,b3,hs4,e5,lv6,rv7,z48⟩) ?_ ?_
        ·(try dsimp only) <;>((exact⟨by assumption,by assumption,(s5 _ (J8 (by assumption))).1,(s5 _ (J8 (by assumption))).2⟩))
        ·rfl
      ·
       refine dT 1 rfl (pC 5) ?_
       refine O8 8 10 rfl rfl (by kernel_rfl) rfl rfl (p8 rfl (by kernel_rfl) rfl rfl rfl hz49) (oS 5) ?_ ?_
       ·
        refine dO 10 rfl (oS 5) ?_
        refine dT 11 rfl pA ?_
        refine dE ?_
        refine o9 9 rfl (K9 rfl) ?_
        refine w7 Tryz.func5 (r8 2 (r8 5 (.tmp rfl .nil))) (⟨rs1,fs2,b3,hs4,e5,lv6,rv7,z48⟩) ?_ ?_
        ·(try dsimp only) <;>((exact⟨by assumption,by assumption,(s5 _ (J8 (by assumption))).1,(s5 _ (J8 (by assumption))).2⟩))
        ·rfl
       ·
        refine dT 8 rfl (E8 (by kernel_rfl) rfl rfl rfl hz49) ?_
        refine dT 11 rfl pA ?_
        refine dE ?_
        refine o9 9 rfl (K9 rfl) ?_
        refine w7 Tryz.func5 (r8 2 (r8 5 (.tmp rfl .nil))) (⟨rs1,fs2,b3,hs4,e5,lv6,rv7,z48⟩) ?_ ?_
        ·(try dsimp only) <;>((exact⟨by assumption,by assumption,(s5 _ (J8 (by assumption))).1,(s5 _ (J8 (by assumption))).2⟩))
        ·rfl
     ·
      refine dT 1 rfl (pC 5) ?_
      obtain⟨z60,hz61,b62⟩:=t9 (xs:=v4 rs1 fs2 b3 hs4 e5 lv6 rv7) (n:=x27) (by omega) (by omega)
      refine O8 7 10 rfl rfl (by kernel_rfl) rfl rfl (t8 rfl (by kernel_rfl) rfl rfl rfl b62 (f8 b62 hz61)) (oS 5) ?_ ?_
      ·
       refine O8 8 10 rfl rfl (by kernel_rfl) rfl rfl (p8 rfl (by kernel_rfl) rfl rfl rfl hz61) (oS 5) ?_ ?_
       ·
        refine dO 10 rfl (oS 5) ?_
        refine dT 11 rfl pA ?_
        refine dE ?_
        refine o9 9 rfl (K9 rfl) ?_
        refine w7 Tryz.func5 (r8 2 (r8 5 (.tmp rfl .nil))) (⟨rs1,fs2,b3,hs4,e5,lv6,rv7,z60⟩) ?_ ?_
        ·(try dsimp only) <;>((exact⟨by assumption,by assumption,(s5 _ (J8 (by assumption))).1,(s5 _ (J8 (by assumption))).2⟩))
        ·rfl
       ·
        refine dT 8 rfl (E8 (by kernel_rfl) rfl rfl rfl hz61) ?_
        refine dT 11 rfl pA ?_
        refine dE ?_
        refine o9 9 rfl (K9 rfl) ?_
        refine w7 Tryz.func5 (r8 2 (r8 5 (.tmp rfl .nil))) (⟨rs1,fs2,b3,hs4,e5,lv6,rv7,z60⟩) ?_ ?_
        ·(try dsimp only) <;>((exact⟨by assumption,by assumption,(s5 _ (J8 (by assumption))).1,(s5 _ (J8 (by assumption))).2⟩))
        ·rfl
      ·
       obtain⟨z63,hz64,b65⟩:=t9 (xs:=v4 rs1 fs2 b3 hs4 e5 lv6 rv7) (n:=x27) (by omega) (by omega)
       refine dT 7 rfl (T9 (by kernel_rfl) rfl rfl rfl b65 (f8 b65 hz64)) ?_
       refine dT 8 rfl (E8 (by kernel_rfl) rfl rfl rfl hz64) ?_
       refine dT 11 rfl pA ?_
       refine dE ?_
       refine o9 9 rfl (K9 rfl) ?_
       refine w7 Tryz.func5 (r8 2 (r8 5 (.tmp rfl .nil))) (⟨rs1,fs2,b3,hs4,e5,lv6,rv7,z63⟩) ?_ ?_
       ·(try dsimp only) <;>((exact⟨by assumption,by assumption,(s5 _ (J8 (by assumption))).1,(s5 _ (J8 (by assumption))).2⟩))
       ·rfl
   ·
    rintro⟨⟩
    refine d7 0 6 rfl rfl (by kernel_rfl) rfl rfl (V0 (oC 2)) (s9 4 11 12 (pv:=none) (N9 Tryz.func19) (A9 code i216 h217 (((v4 rs1 fs2 b3 hs4 e5 lv6 rv7).length:Int)) (by omega) (by omega) (by omega) (by omega) (by omega)) rfl rfl (.cur rfl (.cons rfl .nil)) rfl (fun⟨_,_,_⟩=>rfl) (fun _=>rfl) (fun⟨_,_,_⟩=>rfl) rfl rfl) ?_ ?_
    ·
     rintro⟨⟩
     refine lZ 6 rfl (s9 4 11 12 (pv:=none) (N9 Tryz.func19) (A9 code i216 h217 (((v4 rs1 fs2 b3 hs4 e5 lv6 rv7).length:Int)) (by omega) (by omega) (by omega) (by omega) (by omega)) rfl rfl (.cur rfl (.cons rfl .nil)) rfl (fun⟨_,_,_⟩=>rfl) (fun _=>rfl) (fun⟨_,_,_⟩=>rfl) rfl rfl) ?_
     rintro⟨⟨x72,i273,h274⟩,hq75⟩
     try dsimp only at hq75
     try dsimp only
     obtain⟨q76,q77⟩:=hq75
     obtain⟨z78,hz79,b80⟩:=t9 (xs:=v4 rs1 fs2 b3 hs4 e5 lv6 rv7) (n:=x72) (by omega) (by omega)
     refine O8 7 9 rfl rfl (by kernel_rfl) rfl rfl (t8 rfl (by kernel_rfl) rfl rfl rfl b80 (f8 b80 hz79)) (oS 2) ?_ ?_
     ·
      refine O8 8 9 rfl rfl (by kernel_rfl) rfl rfl (p8 rfl (by kernel_rfl) rfl rfl rfl hz79) (oS 2) ?_ ?_
      ·
       refine dO 9 rfl (oS 2) ?_
       refine dO 10 rfl (oS 5) ?_
       refine dT 11 rfl pA ?_
       refine dE ?_
       refine o9 9 rfl (K9 rfl) ?_
       refine w7 Tryz.func5 (r8 2 (r8 5 (.tmp rfl .nil))) (⟨rs1,fs2,b3,hs4,e5,lv6,rv7,z78⟩) ?_ ?_
       ·(try dsimp only) <;>((exact⟨by assumption,by assumption,(s5 _ (J8 (by assumption))).1,(s5 _ (J8 (by assumption))).2⟩))
       ·rfl
      ·
       refine O8 8 10 rfl rfl (by kernel_rfl) rfl rfl (p8 rfl (by kernel_rfl) rfl rfl rfl hz79) (oS 5) ?_ ?_
       ·
        refine dO 10 rfl (oS 5) ?_
        refine dT 11 rfl pA ?_
        refine dE ?_
        refine o9 9 rfl (K9 rfl) ?_
        refine w7 Tryz.func5 (r8 2 (r8 5 (.tmp rfl .nil))) (⟨rs1,fs2,b3,hs4,e5,lv6,rv7,z78⟩) ?_ ?_
        ·(try dsimp only) <;>((exact⟨by assumption,by assumption,(s5 _ (J8 (by assumption))).1,(s5 _ (J8 (by assumption))).2⟩))
        ·rfl
       ·
        refine dT 8 rfl (E8 (by kernel_rfl) rfl rfl rfl hz79) ?_
        refine dT 11 rfl pA ?_
        refine dE ?_
        refine o9 9 rfl (K9 rfl) ?_
        refine w7 Tryz.func5 (r8 2 (r8 5 (.tmp rfl .nil))) (⟨rs1,fs2,b3,hs4,e5,lv6,rv7,z78⟩) ?_ ?_
        ·(try dsimp only) <;>((exact⟨by assumption,by assumption,(s5 _ (J8 (by assumption))).1,(s5 _ (J8 (by assumption))).2⟩))
        ·rfl
     ·
      obtain⟨z81,hz82,b83⟩:=t9 (xs:=v4 rs1 fs2 b3 hs4 e5 lv6 rv7) (n:=x72) (by omega) (by omega)
      refine O8 7 10 rfl rfl (by kernel_rfl) rfl rfl (t8 rfl (by kernel_rfl) rfl rfl rfl b83 (f8 b83 hz82)) (oS 5) ?_ ?_
      ·
       refine O8 8 10 rfl rfl (by kernel_rfl) rfl rfl (p8 rfl (by kernel_rfl) rfl rfl rfl hz82) (oS 5) ?_ ?_
       ·
        refine dO 10 rfl (oS 5) ?_
        refine dT 11 rfl pA ?_
        refine dE ?_
        refine o9 9 rfl (K9 rfl) ?_
        refine w7 Tryz.func5 (r8 2 (r8 5 (.tmp rfl .nil))) (⟨rs1,fs2,b3,hs4,e5,lv6,rv7,z81⟩) ?_ ?_
        ·(try dsimp only) <;>((exact⟨by assumption,by assumption,(s5 _ (J8 (by assumption))).1,(s5 _ (J8 (by assumption))).2⟩))
        ·rfl
       ·
        refine dT 8 rfl (E8 (by kernel_rfl) rfl rfl rfl hz82) ?_
        refine dT 11 rfl pA ?_
        refine dE ?_
        refine o9 9 rfl (K9 rfl) ?_
        refine w7 Tryz.func5 (r8 2 (r8 5 (.tmp rfl .nil))) (⟨rs1,fs2,b3,hs4,e5,lv6,rv7,z81⟩) ?_ ?_
        ·(try dsimp only) <;>((exact⟨by assumption,by assumption,(s5 _ (J8 (by assumption))).1,(s5 _ (J8 (by assumption))).2⟩))
        ·rfl
      ·
       obtain⟨z84,hz85,b86⟩:=t9 (xs:=v4 rs1 fs2 b3 hs4 e5 lv6 rv7) (n:=x72) (by omega) (by omega)
       refine dT 7 rfl (T9 (by kernel_rfl) rfl rfl rfl b86 (f8 b86 hz85)) ?_
       refine dT 8 rfl (E8 (by kernel_rfl) rfl rfl rfl hz85) ?_
       refine dT 11 rfl pA ?_
       refine dE ?_
       refine o9 9 rfl (K9 rfl) ?_
       refine w7 Tryz.func5 (r8 2 (r8 5 (.tmp rfl .nil))) (⟨rs1,fs2,b3,hs4,e5,lv6,rv7,z84⟩) ?_ ?_
       ·(try dsimp only) <;>((exact⟨by assumption,by assumption,(s5 _ (J8 (by assumption))).1,(s5 _ (J8 (by assumption))).2⟩))
       ·rfl
    ·
     rintro⟨⟨x66,i267,h268⟩,hq69⟩
     try dsimp only at hq69
     try dsimp only
     obtain⟨q70,q71⟩:=hq69
     refine dT 0 rfl (pC 2) ?_
     obtain⟨z87,hz88,b89⟩:=t9 (xs:=v4 rs1 fs2 b3 hs4 e5 lv6 rv7) (n:=x66) (by omega) (by omega)
     refine O8 7 9 rfl rfl (by kernel_rfl) rfl rfl (t8 rfl (by kernel_rfl) rfl rfl rfl b89 (f8 b89 hz88)) (oS 2) ?_ ?_
     ·
      refine O8 8 9 rfl rfl (by kernel_rfl) rfl rfl (p8 rfl (by kernel_rfl) rfl rfl rfl hz88) (oS 2) ?_ ?_
      ·
       refine dO 9 rfl (oS 2) ?_
       refine dO 10 rfl (oS 5) ?_
       refine dT 11 rfl pA ?_
       refine dE ?_
       refine o9 9 rfl (K9 rfl) ?_
       refine w7 Tryz.func5 (r8 2 (r8 5 (.tmp rfl .nil))) (⟨rs1,fs2,b3,hs4,e5,lv6,rv7,z87⟩) ?_ ?_
       ·(try dsimp only) <;>((exact⟨by assumption,by assumption,(s5 _ (J8 (by assumption))).1,(s5 _ (J8 (by assumption))).2⟩))
       ·rfl
      ·
       refine O8 8 10 rfl rfl (by kernel_rfl) rfl rfl (p8 rfl (by kernel_rfl) rfl rfl rfl hz88) (oS 5) ?_ ?_
       ·
        refine dO 10 rfl (oS 5) ?_
        refine dT 11 rfl pA ?_
        refine dE ?_
        refine o9 9 rfl (K9 rfl) ?_
        refine w7 Tryz.func5 (r8 2 (r8 5 (.tmp rfl .nil))) (⟨rs1,fs2,b3,hs4,e5,lv6,rv7,z87⟩) ?_ ?_
        ·(try dsimp only) <;>((exact⟨by assumption,by assumption,(s5 _ (J8 (by assumption))).1,(s5 _ (J8 (by assumption))).2⟩))
        ·rfl
       ·
        refine dT 8 rfl (E8 (by kernel_rfl) rfl rfl rfl hz88) ?_
        refine dT 11 rfl pA ?_
        refine dE ?_
        refine o9 9 rfl (K9 rfl) ?_
        refine w7 Tryz.func5 (r8 2 (r8 5 (.tmp rfl .nil))) (⟨rs1,fs2,b3,hs4,e5,lv6,rv7,z87⟩) ?_ ?_
        ·(try dsimp only) <;>((exact⟨by assumption,by assumption,(s5 _ (J8 (by assumption))).1,(s5 _ (J8 (by assumption))).2⟩))
        ·rfl
     ·
      obtain⟨z90,hz91,b92⟩:=t9 (xs:=v4 rs1 fs2 b3 hs4 e5 lv6 rv7) (n:=x66) (by omega) (by omega)
      refine O8 7 10 rfl rfl (by kernel_rfl) rfl rfl (t8 rfl (by kernel_rfl) rfl rfl rfl b92 (f8 b92 hz91)) (oS 5) ?_ ?_
      ·
       refine O8 8 10 rfl rfl (by kernel_rfl) rfl rfl (p8 rfl (by kernel_rfl) rfl rfl rfl hz91) (oS 5) ?_ ?_
       ·
        refine dO 10 rfl (oS 5) ?_
        refine dT 11 rfl pA ?_
        refine dE ?_
        refine o9 9 rfl (K9 rfl) ?_
        refine w7 Tryz.func5 (r8 2 (r8 5 (.tmp rfl .nil))) (⟨rs1,fs2,b3,hs4,e5,lv6,rv7,z90⟩) ?_ ?_
        ·(try dsimp only) <;>((exact⟨by assumption,by assumption,(s5 _ (J8 (by assumption))).1,(s5 _ (J8 (by assumption))).2⟩))
        ·rfl
       ·
        refine dT 8 rfl (E8 (by kernel_rfl) rfl rfl rfl hz91) ?_
        refine dT 11 rfl pA ?_
        refine dE ?_
        refine o9 9 rfl (K9 rfl) ?_
        refine w7 Tryz.func5 (r8 2 (r8 5 (.tmp rfl .nil))) (⟨rs1,fs2,b3,hs4,e5,lv6,rv7,z90⟩) ?_ ?_
        ·(try dsimp only) <;>((exact⟨by assumption,by assumption,(s5 _ (J8 (by assumption))).1,(s5 _ (J8 (by assumption))).2⟩))
        ·rfl
      ·
       obtain⟨z93,hz94,b95⟩:=t9 (xs:=v4 rs1 fs2 b3 hs4 e5 lv6 rv7) (n:=x66) (by omega) (by omega)
       refine dT 7 rfl (T9 (by kernel_rfl) rfl rfl rfl b95 (f8 b95 hz94)) ?_
       refine dT 8 rfl (E8 (by kernel_rfl) rfl rfl rfl hz94) ?_
       refine dT 11 rfl pA ?_
       refine dE ?_
       refine o9 9 rfl (K9 rfl) ?_
       refine w7 Tryz.func5 (r8 2 (r8 5 (.tmp rfl .nil))) (⟨rs1,fs2,b3,hs4,e5,lv6,rv7,z93⟩) ?_ ?_
       ·(try dsimp only) <;>((exact⟨by assumption,by assumption,(s5 _ (J8 (by assumption))).1,(s5 _ (J8 (by assumption))).2⟩))
       ·rfl
   ·
    rintro⟨⟨x21,i222,h223⟩,hq24⟩
    try dsimp only at hq24
    try dsimp only
    obtain⟨q25,q26⟩:=hq24
    refine dT 0 rfl (pC 2) ?_
    obtain⟨z96,hz97,b98⟩:=t9 (xs:=v4 rs1 fs2 b3 hs4 e5 lv6 rv7) (n:=x21) (by omega) (by omega)
    refine gU 1 7 9 rfl rfl rfl (by kernel_rfl) rfl rfl rfl (oC 5) (t8 rfl (by kernel_rfl) rfl rfl rfl b98 (f8 b98 hz97)) (oS 2) ?_ ?_ ?_
    ·
     obtain⟨z99,hz100,b101⟩:=t9 (xs:=v4 rs1 fs2 b3 hs4 e5 lv6 rv7) (n:=x21) (by omega) (by omega)
     refine O8 7 9 rfl rfl (by kernel_rfl) rfl rfl (t8 rfl (by kernel_rfl) rfl rfl rfl b101 (f8 b101 hz100)) (oS 2) ?_ ?_
     ·
      refine O8 8 9 rfl rfl (by kernel_rfl) rfl rfl (p8 rfl (by kernel_rfl) rfl rfl rfl hz100) (oS 2) ?_ ?_
      ·
       refine dO 9 rfl (oS 2) ?_
       refine dO 10 rfl (oS 5) ?_
       refine dT 11 rfl pA ?_
       refine dE ?_
       refine o9 9 rfl (K9 rfl) ?_
       refine w7 Tryz.func5 (r8 2 (r8 5 (.tmp rfl .nil))) (⟨rs1,fs2,b3,hs4,e5,lv6,rv7,z99⟩) ?_ ?_
       ·(try dsimp only) <;>((exact⟨by assumption,by assumption,(s5 _ (J8 (by assumption))).1,(s5 _ (J8 (by assumption))).2⟩))
       ·rfl
      ·
       refine O8 8 10 rfl rfl (by kernel_rfl) rfl rfl (p8 rfl (by kernel_rfl) rfl rfl rfl hz100) (oS 5) ?_ ?_
       ·
        refine dO 10 rfl (oS 5) ?_
        refine dT 11 rfl pA ?_
        refine dE ?_
        refine o9 9 rfl (K9 rfl) ?_
        refine w7 Tryz.func5 (r8 2 (r8 5 (.tmp rfl .nil))) (⟨rs1,fs2,b3,hs4,e5,lv6,rv7,z99⟩) ?_ ?_
        ·(try dsimp only) <;>((exact⟨by assumption,by assumption,(s5 _ (J8 (by assumption))).1,(s5 _ (J8 (by assumption))).2⟩))
        ·rfl
       ·
        refine dT 8 rfl (E8 (by kernel_rfl) rfl rfl rfl hz100) ?_
        refine dT 11 rfl pA ?_
        refine dE ?_
        refine o9 9 rfl (K9 rfl) ?_
        refine w7 Tryz.func5 (r8 2 (r8 5 (.tmp rfl .nil))) (⟨rs1,fs2,b3,hs4,e5,lv6,rv7,z99⟩) ?_ ?_
        ·(try dsimp only) <;>((exact⟨by assumption,by assumption,(s5 _ (J8 (by assumption))).1,(s5 _ (J8 (by assumption))).2⟩))
        ·rfl
     ·
      obtain⟨z102,hz103,b104⟩:=t9 (xs:=v4 rs1 fs2 b3 hs4 e5 lv6 rv7) (n:=x21) (by omega) (by omega)
      refine O8 7 10 rfl rfl (by kernel_rfl) rfl rfl (t8 rfl (by kernel_rfl) rfl rfl rfl b104 (f8 b104 hz103)) (oS 5) ?_ ?_
      ·
       refine O8 8 10 rfl rfl (by kernel_rfl) rfl rfl (p8 rfl (by kernel_rfl) rfl rfl rfl hz103) (oS 5) ?_ ?_
       ·
        refine dO 10 rfl (oS 5) ?_
        refine dT 11 rfl pA ?_
        refine dE ?_
        refine o9 9 rfl (K9 rfl) ?_
        refine w7 Tryz.func5 (r8 2 (r8 5 (.tmp rfl .nil))) (⟨rs1,fs2,b3,hs4,e5,lv6,rv7,z102⟩) ?_ ?_
        ·(try dsimp only) <;>((exact⟨by assumption,by assumption,(s5 _ (J8 (by assumption))).1,(s5 _ (J8 (by assumption))).2⟩))
        ·rfl
       ·
        refine dT 8 rfl (E8 (by kernel_rfl) rfl rfl rfl hz103) ?_
        refine dT 11 rfl pA ?_
        refine dE ?_
        refine o9 9 rfl (K9 rfl) ?_
        refine w7 Tryz.func5 (r8 2 (r8 5 (.tmp rfl .nil))) (⟨rs1,fs2,b3,hs4,e5,lv6,rv7,z102⟩) ?_ ?_
        ·(try dsimp only) <;>((exact⟨by assumption,by assumption,(s5 _ (J8 (by assumption))).1,(s5 _ (J8 (by assumption))).2⟩))
        ·rfl
      ·
       obtain⟨z105,hz106,b107⟩:=t9 (xs:=v4 rs1 fs2 b3 hs4 e5 lv6 rv7) (n:=x21) (by omega) (by omega)
       refine dT 7 rfl (T9 (by kernel_rfl) rfl rfl rfl b107 (f8 b107 hz106)) ?_
       refine dT 8 rfl (E8 (by kernel_rfl) rfl rfl rfl hz106) ?_
       refine dT 11 rfl pA ?_
       refine dE ?_
       refine o9 9 rfl (K9 rfl) ?_
       refine w7 Tryz.func5 (r8 2 (r8 5 (.tmp rfl .nil))) (⟨rs1,fs2,b3,hs4,e5,lv6,rv7,z105⟩) ?_ ?_
       ·(try dsimp only) <;>((exact⟨by assumption,by assumption,(s5 _ (J8 (by assumption))).1,(s5 _ (J8 (by assumption))).2⟩))
       ·rfl
    ·
     refine gU 1 8 9 rfl rfl rfl (by kernel_rfl) rfl rfl rfl (oC 5) (p8 rfl (by kernel_rfl) rfl rfl rfl hz97) (oS 2) ?_ ?_ ?_
     ·
      refine O8 8 9 rfl rfl (by kernel_rfl) rfl rfl (p8 rfl (by kernel_rfl) rfl rfl rfl hz97) (oS 2) ?_ ?_
      ·
       refine dO 9 rfl (oS 2) ?_
       refine dO 10 rfl (oS 5) ?_
       refine dT 11 rfl pA ?_
       refine dE ?_
       refine o9 9 rfl (K9 rfl) ?_
       refine w7 Tryz.func5 (r8 2 (r8 5 (.tmp rfl .nil))) (⟨rs1,fs2,b3,hs4,e5,lv6,rv7,z96⟩) ?_ ?_
       ·(try dsimp only) <;>((exact⟨by assumption,by assumption,(s5 _ (J8 (by assumption))).1,(s5 _ (J8 (by assumption))).2⟩))
       ·rfl
      ·
       refine O8 8 10 rfl rfl (by kernel_rfl) rfl rfl (p8 rfl (by kernel_rfl) rfl rfl rfl hz97) (oS 5) ?_ ?_
       ·
        refine dO 10 rfl (oS 5) ?_
        refine dT 11 rfl pA ?_
        refine dE ?_
        refine o9 9 rfl (K9 rfl) ?_
        refine w7 Tryz.func5 (r8 2 (r8 5 (.tmp rfl .nil))) (⟨rs1,fs2,b3,hs4,e5,lv6,rv7,z96⟩) ?_ ?_
        ·(try dsimp only) <;>((exact⟨by assumption,by assumption,(s5 _ (J8 (by assumption))).1,(s5 _ (J8 (by assumption))).2⟩))
        ·rfl
       ·
        refine dT 8 rfl (E8 (by kernel_rfl) rfl rfl rfl hz97) ?_
        refine dT 11 rfl pA ?_
        refine dE ?_
        refine o9 9 rfl (K9 rfl) ?_
        refine w7 Tryz.func5 (r8 2 (r8 5 (.tmp rfl .nil))) (⟨rs1,fs2,b3,hs4,e5,lv6,rv7,z96⟩) ?_ ?_
        ·(try dsimp only) <;>((exact⟨by assumption,by assumption,(s5 _ (J8 (by assumption))).1,(s5 _ (J8 (by assumption))).2⟩))
        ·rfl
     ·
      refine O8 1 9 rfl rfl (by kernel_rfl) rfl rfl (oC 5) (oS 2) ?_ ?_
      ·
       refine dO 9 rfl (oS 2) ?_
       refine dO 10 rfl (oS 5) ?_
       refine dT 11 rfl pA ?_
       refine dE ?_
       refine o9 9 rfl (K9 rfl) ?_
       refine w7 Tryz.func5 (r8 2 (r8 5 (.tmp rfl .nil))) (⟨rs1,fs2,b3,hs4,e5,lv6,rv7,z96⟩) ?_ ?_
       ·(try dsimp only) <;>((exact⟨by assumption,by assumption,(s5 _ (J8 (by assumption))).1,(s5 _ (J8 (by assumption))).2⟩))
       ·rfl
      ·
       refine dT 1 rfl (pC 5) ?_
       refine dO 10 rfl (oS 5) ?_
       refine dT 11 rfl pA ?_
       refine dE ?_
       refine o9 9 rfl (K9 rfl) ?_
       refine w7 Tryz.func5 (r8 2 (r8 5 (.tmp rfl .nil))) (⟨rs1,fs2,b3,hs4,e5,lv6,rv7,z96⟩) ?_ ?_
       ·(try dsimp only) <;>((exact⟨by assumption,by assumption,(s5 _ (J8 (by assumption))).1,(s5 _ (J8 (by assumption))).2⟩))
       ·rfl
     ·
      refine dT 1 rfl (pC 5) ?_
      refine O8 8 10 rfl rfl (by kernel_rfl) rfl rfl (p8 rfl (by kernel_rfl) rfl rfl rfl hz97) (oS 5) ?_ ?_
      ·
       refine dO 10 rfl (oS 5) ?_
       refine dT 11 rfl pA ?_
       refine dE ?_
       refine o9 9 rfl (K9 rfl) ?_
       refine w7 Tryz.func5 (r8 2 (r8 5 (.tmp rfl .nil))) (⟨rs1,fs2,b3,hs4,e5,lv6,rv7,z96⟩) ?_ ?_
       ·(try dsimp only) <;>((exact⟨by assumption,by assumption,(s5 _ (J8 (by assumption))).1,(s5 _ (J8 (by assumption))).2⟩))
       ·rfl
      ·
       refine dT 8 rfl (E8 (by kernel_rfl) rfl rfl rfl hz97) ?_
       refine dT 11 rfl pA ?_
       refine dE ?_
       refine o9 9 rfl (K9 rfl) ?_
       refine w7 Tryz.func5 (r8 2 (r8 5 (.tmp rfl .nil))) (⟨rs1,fs2,b3,hs4,e5,lv6,rv7,z96⟩) ?_ ?_
       ·(try dsimp only) <;>((exact⟨by assumption,by assumption,(s5 _ (J8 (by assumption))).1,(s5 _ (J8 (by assumption))).2⟩))
       ·rfl
    ·
     refine dT 1 rfl (pC 5) ?_
     obtain⟨z108,hz109,b110⟩:=t9 (xs:=v4 rs1 fs2 b3 hs4 e5 lv6 rv7) (n:=x21) (by omega) (by omega)
     refine O8 7 10 rfl rfl (by kernel_rfl) rfl rfl (t8 rfl (by kernel_rfl) rfl rfl rfl b110 (f8 b110 hz109)) (oS 5) ?_ ?_
     ·
      refine O8 8 10 rfl rfl (by kernel_rfl) rfl rfl (p8 rfl (by kernel_rfl) rfl rfl rfl hz109) (oS 5) ?_ ?_
      ·
       refine dO 10 rfl (oS 5) ?_
       refine dT 11 rfl pA ?_
       refine dE ?_
       refine o9 9 rfl (K9 rfl) ?_
       refine w7 Tryz.func5 (r8 2 (r8 5 (.tmp rfl .nil))) (⟨rs1,fs2,b3,hs4,e5,lv6,rv7,z108⟩) ?_ ?_
       ·(try dsimp only) <;>((exact⟨by assumption,by assumption,(s5 _ (J8 (by assumption))).1,(s5 _ (J8 (by assumption))).2⟩))
       ·rfl
      ·
       refine dT 8 rfl (E8 (by kernel_rfl) rfl rfl rfl hz109) ?_
       refine dT 11 rfl pA ?_
       refine dE ?_
       refine o9 9 rfl (K9 rfl) ?_
       refine w7 Tryz.func5 (r8 2 (r8 5 (.tmp rfl .nil))) (⟨rs1,fs2,b3,hs4,e5,lv6,rv7,z108⟩) ?_ ?_
       ·(try dsimp only) <;>((exact⟨by assumption,by assumption,(s5 _ (J8 (by assumption))).1,(s5 _ (J8 (by assumption))).2⟩))
       ·rfl
     ·
      obtain⟨z111,hz112,b113⟩:=t9 (xs:=v4 rs1 fs2 b3 hs4 e5 lv6 rv7) (n:=x21) (by omega) (by omega)
      refine dT 7 rfl (T9 (by kernel_rfl) rfl rfl rfl b113 (f8 b113 hz112)) ?_
      refine dT 8 rfl (E8 (by kernel_rfl) rfl rfl rfl hz112) ?_
      refine dT 11 rfl pA ?_
      refine dE ?_
      refine o9 9 rfl (K9 rfl) ?_
      refine w7 Tryz.func5 (r8 2 (r8 5 (.tmp rfl .nil))) (⟨rs1,fs2,b3,hs4,e5,lv6,rv7,z111⟩) ?_ ?_
      ·(try dsimp only) <;>((exact⟨by assumption,by assumption,(s5 _ (J8 (by assumption))).1,(s5 _ (J8 (by assumption))).2⟩))
      ·rfl
  ·
   have h20':=(O4 h20)
   refine m9<|k9 ?_
   refine tD (fun i=>!(Nat.beq i 6||Nat.beq i 7||Nat.beq i 8)) ?_
   refine dT 2 rfl pM ?_
   refine dT 3 rfl (pC 2) ?_
   refine dT 4 rfl (pF 0) ?_
   refine dT 5 rfl pL ?_
   refine DU 0 1 6 rfl rfl rfl (by kernel_rfl) rfl rfl rfl (V0 (oC 2)) (V0 (oC 5)) (s9 4 11 12 (pv:=none) (N9 Tryz.func20) (L7 code i216 h217 rs1 fs2 b3 (by omega) (by omega) (by omega) (by omega) (by exact dd.2.2.1) (by omega)) rfl rfl (.cur rfl (.agg rfl rfl (.cons rfl .nil))) rfl (fun⟨_,_,_⟩=>rfl) (fun _=>rfl) (fun⟨_,_,_⟩=>rfl) rfl rfl) ?_ ?_ ?_
   ·
    rintro⟨⟩
    refine d7 1 6 rfl rfl (by kernel_rfl) rfl rfl (V0 (oC 5)) (s9 4 11 12 (pv:=none) (N9 Tryz.func20) (L7 code i216 h217 rs1 fs2 b3 (by omega) (by omega) (by omega) (by omega) (by exact dd.2.2.1) (by omega)) rfl rfl (.cur rfl (.agg rfl rfl (.cons rfl .nil))) rfl (fun⟨_,_,_⟩=>rfl) (fun _=>rfl) (fun⟨_,_,_⟩=>rfl) rfl rfl) ?_ ?_
    ·
     rintro⟨⟩
     refine lZ 6 rfl (s9 4 11 12 (pv:=none) (N9 Tryz.func20) (L7 code i216 h217 rs1 fs2 b3 (by omega) (by omega) (by omega) (by omega) (by exact dd.2.2.1) (by omega)) rfl rfl (.cur rfl (.agg rfl rfl (.cons rfl .nil))) rfl (fun⟨_,_,_⟩=>rfl) (fun _=>rfl) (fun⟨_,_,_⟩=>rfl) rfl rfl) ?_
     rintro⟨⟨b128,i2129,h2130⟩,hq131⟩
     try dsimp only at hq131
     try dsimp only
     obtain⟨q132,q133,q134⟩:=hq131
     refine dO 7 rfl (oS 2) ?_
     refine dO 8 rfl (oS 5) ?_
     refine dT 9 rfl pA ?_
     refine dE ?_
     refine w7 Tryz.func5 (r8 2 (r8 5 (.tmp rfl .nil))) (⟨rs1,fs2,b3,hs4,e5,lv6,rv7,b128⟩) ?_ ?_
     ·(try dsimp only) <;>((exact⟨by assumption,by assumption,by assumption,by assumption⟩))
     ·rfl
    ·
     rintro⟨⟨b121,i2122,h2123⟩,hq124⟩
     try dsimp only at hq124
     try dsimp only
     obtain⟨q125,q126,q127⟩:=hq124
     refine O8 1 7 rfl rfl (by kernel_rfl) rfl rfl (oC 5) (oS 2) ?_ ?_
     ·
      refine dO 7 rfl (oS 2) ?_
      refine dO 8 rfl (oS 5) ?_
      refine dT 9 rfl pA ?_
      refine dE ?_
      refine w7 Tryz.func5 (r8 2 (r8 5 (.tmp rfl .nil))) (⟨rs1,fs2,b3,hs4,e5,lv6,rv7,b121⟩) ?_ ?_
      ·(try dsimp only) <;>((exact⟨by assumption,by assumption,by assumption,by assumption⟩))
      ·rfl
     ·
      refine dT 1 rfl (pC 5) ?_
      refine dO 8 rfl (oS 5) ?_
      refine dT 9 rfl pA ?_
      refine dE ?_
      refine w7 Tryz.func5 (r8 2 (r8 5 (.tmp rfl .nil))) (⟨rs1,fs2,b3,hs4,e5,lv6,rv7,b121⟩) ?_ ?_
      ·(try dsimp only) <;>((exact⟨by assumption,by assumption,by assumption,by assumption⟩))
      ·rfl
   ·
    rintro⟨⟩
    refine d7 0 6 rfl rfl (by kernel_rfl) rfl rfl (V0 (oC 2)) (s9 4 11 12 (pv:=none) (N9 Tryz.func20) (L7 code i216 h217 rs1 fs2 b3 (by omega) (by omega) (by omega) (by omega) (by exact dd.2.2.1) (by omega)) rfl rfl (.cur rfl (.agg rfl rfl (.cons rfl .nil))) rfl (fun⟨_,_,_⟩=>rfl) (fun _=>rfl) (fun⟨_,_,_⟩=>rfl) rfl rfl) ?_ ?_
    ·
     rintro⟨⟩
     refine lZ 6 rfl (s9 4 11 12 (pv:=none) (N9 Tryz.func20) (L7 code i216 h217 rs1 fs2 b3 (by omega) (by omega) (by omega) (by omega) (by exact dd.2.2.1) (by omega)) rfl rfl (.cur rfl (.agg rfl rfl (.cons rfl .nil))) rfl (fun⟨_,_,_⟩=>rfl) (fun _=>rfl) (fun⟨_,_,_⟩=>rfl) rfl rfl) ?_
     rintro⟨⟨b142,i2143,h2144⟩,hq145⟩
     try dsimp only at hq145
     try dsimp only
     obtain⟨q146,q147,q148⟩:=hq145
     refine dO 7 rfl (oS 2) ?_
     refine dO 8 rfl (oS 5) ?_
     refine dT 9 rfl pA ?_
     refine dE ?_
     refine w7 Tryz.func5 (r8 2 (r8 5 (.tmp rfl .nil))) (⟨rs1,fs2,b3,hs4,e5,lv6,rv7,b142⟩) ?_ ?_
     ·(try dsimp only) <;>((exact⟨by assumption,by assumption,by assumption,by assumption⟩))
     ·rfl
    ·
     rintro⟨⟨b135,i2136,h2137⟩,hq138⟩
     try dsimp only at hq138
     try dsimp only
     obtain⟨q139,q140,q141⟩:=hq138
     refine dT 0 rfl (pC 2) ?_
     refine dO 7 rfl (oS 2) ?_
     refine dO 8 rfl (oS 5) ?_
     refine dT 9 rfl pA ?_
     refine dE ?_
     refine w7 Tryz.func5 (r8 2 (r8 5 (.tmp rfl .nil))) (⟨rs1,fs2,b3,hs4,e5,lv6,rv7,b135⟩) ?_ ?_
     ·(try dsimp only) <;>((exact⟨by assumption,by assumption,by assumption,by assumption⟩))
     ·rfl
   ·
    rintro⟨⟨b114,i2115,h2116⟩,hq117⟩
    try dsimp only at hq117
    try dsimp only
    obtain⟨q118,q119,q120⟩:=hq117
    refine dT 0 rfl (pC 2) ?_
    refine O8 1 7 rfl rfl (by kernel_rfl) rfl rfl (oC 5) (oS 2) ?_ ?_
    ·
     refine dO 7 rfl (oS 2) ?_
     refine dO 8 rfl (oS 5) ?_
     refine dT 9 rfl pA ?_
     refine dE ?_
     refine w7 Tryz.func5 (r8 2 (r8 5 (.tmp rfl .nil))) (⟨rs1,fs2,b3,hs4,e5,lv6,rv7,b114⟩) ?_ ?_
     ·(try dsimp only) <;>((exact⟨by assumption,by assumption,by assumption,by assumption⟩))
     ·rfl
    ·
     refine dT 1 rfl (pC 5) ?_
     refine dO 8 rfl (oS 5) ?_
     refine dT 9 rfl pA ?_
     refine dE ?_
     refine w7 Tryz.func5 (r8 2 (r8 5 (.tmp rfl .nil))) (⟨rs1,fs2,b3,hs4,e5,lv6,rv7,b114⟩) ?_ ?_
     ·(try dsimp only) <;>((exact⟨by assumption,by assumption,by assumption,by assumption⟩))
     ·rfl
 ·
  have g14':=l8 g14
  refine x9 (C9 g14) (fun _=>?_)
  refine x9 (C9 g14) (fun _=>?_)
  refine d9 (H9 rfl rfl g14 rfl) ?_
  refine c9 ?_
  refine j9 rfl (C9 rfl) (fun _=>?_)
  refine m9<|k9 ?_
  refine tD (fun i=>!(Nat.beq i 6||Nat.beq i 7||Nat.beq i 8)) ?_
  refine dT 2 rfl pM ?_
  refine dT 3 rfl (pC 2) ?_
  refine dT 4 rfl (pF 0) ?_
  refine dT 5 rfl pL ?_
  refine DU 0 1 6 rfl rfl rfl (by kernel_rfl) rfl rfl rfl (V0 (oC 2)) (V0 (oC 5)) (s9 4 10 11 (pv:=none) (N9 Tryz.func20) (L7 code i28 h29 rs1 fs2 b3 (by omega) (by omega) (by omega) (by omega) (by exact dd.2.2.1) (by omega)) rfl rfl (.cur rfl (.agg rfl rfl (.cons rfl .nil))) rfl (fun⟨_,_,_⟩=>rfl) (fun _=>rfl) (fun⟨_,_,_⟩=>rfl) rfl rfl) ?_ ?_ ?_
  ·
   rintro⟨⟩
   refine d7 1 6 rfl rfl (by kernel_rfl) rfl rfl (V0 (oC 5)) (s9 4 10 11 (pv:=none) (N9 Tryz.func20) (L7 code i28 h29 rs1 fs2 b3 (by omega) (by omega) (by omega) (by omega) (by exact dd.2.2.1) (by omega)) rfl rfl (.cur rfl (.agg rfl rfl (.cons rfl .nil))) rfl (fun⟨_,_,_⟩=>rfl) (fun _=>rfl) (fun⟨_,_,_⟩=>rfl) rfl rfl) ?_ ?_
   ·
    rintro⟨⟩
    refine lZ 6 rfl (s9 4 10 11 (pv:=none) (N9 Tryz.func20) (L7 code i28 h29 rs1 fs2 b3 (by omega) (by omega) (by omega) (by omega) (by exact dd.2.2.1) (by omega)) rfl rfl (.cur rfl (.agg rfl rfl (.cons rfl .nil))) rfl (fun⟨_,_,_⟩=>rfl) (fun _=>rfl) (fun⟨_,_,_⟩=>rfl) rfl rfl) ?_
    rintro⟨⟨b163,i2164,h2165⟩,hq166⟩
    try dsimp only at hq166
    try dsimp only
    obtain⟨q167,q168,q169⟩:=hq166
    refine dO 7 rfl (oS 2) ?_
    refine dO 8 rfl (oS 5) ?_
    refine dT 9 rfl pA ?_
    refine dE ?_
    refine w7 Tryz.func5 (r8 2 (r8 5 (.tmp rfl .nil))) (⟨rs1,fs2,b3,hs4,e5,lv6,rv7,b163⟩) ?_ ?_
    ·(try dsimp only) <;>((exact⟨by assumption,by assumption,by assumption,by assumption⟩))
    ·rfl
   ·
    rintro⟨⟨b156,i2157,h2158⟩,hq159⟩
    try dsimp only at hq159
    try dsimp only
    obtain⟨q160,q161,q162⟩:=hq159
    refine O8 1 7 rfl rfl (by kernel_rfl) rfl rfl (oC 5) (oS 2) ?_ ?_
    ·
     refine dO 7 rfl (oS 2) ?_
     refine dO 8 rfl (oS 5) ?_
     refine dT 9 rfl pA ?_
     refine dE ?_
     refine w7 Tryz.func5 (r8 2 (r8 5 (.tmp rfl .nil))) (⟨rs1,fs2,b3,hs4,e5,lv6,rv7,b156⟩) ?_ ?_
     ·(try dsimp only) <;>((exact⟨by assumption,by assumption,by assumption,by assumption⟩))
     ·rfl
    ·
     refine dT 1 rfl (pC 5) ?_
     refine dO 8 rfl (oS 5) ?_
     refine dT 9 rfl pA ?_
     refine dE ?_
     refine w7 Tryz.func5 (r8 2 (r8 5 (.tmp rfl .nil))) (⟨rs1,fs2,b3,hs4,e5,lv6,rv7,b156⟩) ?_ ?_
     ·(try dsimp only) <;>((exact⟨by assumption,by assumption,by assumption,by assumption⟩))
     ·rfl
  ·
   rintro⟨⟩
   refine d7 0 6 rfl rfl (by kernel_rfl) rfl rfl (V0 (oC 2)) (s9 4 10 11 (pv:=none) (N9 Tryz.func20) (L7 code i28 h29 rs1 fs2 b3 (by omega) (by omega) (by omega) (by omega) (by exact dd.2.2.1) (by omega)) rfl rfl (.cur rfl (.agg rfl rfl (.cons rfl .nil))) rfl (fun⟨_,_,_⟩=>rfl) (fun _=>rfl) (fun⟨_,_,_⟩=>rfl) rfl rfl) ?_ ?_
   ·
    rintro⟨⟩
    refine lZ 6 rfl (s9 4 10 11 (pv:=none) (N9 Tryz.func20) (L7 code i28 h29 rs1 fs2 b3 (by omega) (by omega) (by omega) (by omega) (by exact dd.2.2.1) (by omega)) rfl rfl (.cur rfl (.agg rfl rfl (.cons rfl .nil))) rfl (fun⟨_,_,_⟩=>rfl) (fun _=>rfl) (fun⟨_,_,_⟩=>rfl) rfl rfl) ?_
    rintro⟨⟨b177,i2178,h2179⟩,hq180⟩
    try dsimp only at hq180
    try dsimp only
    obtain⟨q181,q182,q183⟩:=hq180
    refine dO 7 rfl (oS 2) ?_
    refine dO 8 rfl (oS 5) ?_
    refine dT 9 rfl pA ?_
    refine dE ?_
    refine w7 Tryz.func5 (r8 2 (r8 5 (.tmp rfl .nil))) (⟨rs1,fs2,b3,hs4,e5,lv6,rv7,b177⟩) ?_ ?_
    ·(try dsimp only) <;>((exact⟨by assumption,by assumption,by assumption,by assumption⟩))
    ·rfl
   ·
    rintro⟨⟨b170,i2171,h2172⟩,hq173⟩
    try dsimp only at hq173
    try dsimp only
    obtain⟨q174,q175,q176⟩:=hq173
    refine dT 0 rfl (pC 2) ?_
    refine dO 7 rfl (oS 2) ?_
    refine dO 8 rfl (oS 5) ?_
    refine dT 9 rfl pA ?_
    refine dE ?_
    refine w7 Tryz.func5 (r8 2 (r8 5 (.tmp rfl .nil))) (⟨rs1,fs2,b3,hs4,e5,lv6,rv7,b170⟩) ?_ ?_
    ·(try dsimp only) <;>((exact⟨by assumption,by assumption,by assumption,by assumption⟩))
    ·rfl
  ·
   rintro⟨⟨b149,i2150,h2151⟩,hq152⟩
   try dsimp only at hq152
   try dsimp only
   obtain⟨q153,q154,q155⟩:=hq152
   refine dT 0 rfl (pC 2) ?_
   refine O8 1 7 rfl rfl (by kernel_rfl) rfl rfl (oC 5) (oS 2) ?_ ?_
   ·
    refine dO 7 rfl (oS 2) ?_
    refine dO 8 rfl (oS 5) ?_
    refine dT 9 rfl pA ?_
    refine dE ?_
    refine w7 Tryz.func5 (r8 2 (r8 5 (.tmp rfl .nil))) (⟨rs1,fs2,b3,hs4,e5,lv6,rv7,b149⟩) ?_ ?_
    ·(try dsimp only) <;>((exact⟨by assumption,by assumption,by assumption,by assumption⟩))
    ·rfl
   ·
    refine dT 1 rfl (pC 5) ?_
    refine dO 8 rfl (oS 5) ?_
    refine dT 9 rfl pA ?_
    refine dE ?_
    refine w7 Tryz.func5 (r8 2 (r8 5 (.tmp rfl .nil))) (⟨rs1,fs2,b3,hs4,e5,lv6,rv7,b149⟩) ?_ ?_
    ·(try dsimp only) <;>((exact⟨by assumption,by assumption,by assumption,by assumption⟩))
    ·rfl
theorem L6 (a0 a1 a2:Int):Pu Tryz.prog 88 [.c (.t none (.v (.int .i64 a0))),.c (.t none (.v (.int .i64 a1))),.c (.t none (.v (.int .i64 a2)))] [] 0 (.c (.t none (.v (.bool (decide (a1≤a0∧a0≤a2)))))):=by
 refine u6 Tryz.func88 fun w S=>?_
 refine w9<|rA<|o7 ?_
 refine rM ?_
 refine rM ?_
 refine rB ?_
 refine rM ?_
 refine x9 (fun g1=>?_) (fun g1=>?_)
 ·
  have g1':=j8 g1
  refine rM ?_
  refine x9 (fun _=>?_) (nc g1)
  refine rM ?_
  refine x9 (fun _=>?_) (nc g1)
  refine rB ?_
  refine d9 (M9 rfl rfl g1 rfl) ?_
  refine rA<|c9 ?_
  refine tk Tryz.func88 (.tmp rfl .nil) ?_
  all_goals(simp_all <;> omega)
 ·
  have g1':=l8 g1
  refine x9 (C9 g1) (fun _=>?_)
  refine x9 (C9 g1) (fun _=>?_)
  refine d9 (H9 rfl rfl g1 rfl) ?_
  refine rA<|c9 ?_
  refine tk Tryz.func88 (.tmp rfl .nil) ?_
  all_goals(simp_all <;> omega)
theorem MZ (n:List UInt8)(a:Int)(s:Bool):Pu Tryz.prog 87 [.agg [.t none (.v (.string (JY n))),.t none (.v (.int .i64 a)),.t none (.v (.bool s))]] [] 0 (.c (.t none (.v (.bool (I1 (n,a,s)))))):=by
 refine u6 Tryz.func87 fun w S=>?_
 refine w9 ?_
 refine d9 (X9 0 rfl rfl rfl rfl) ?_
 refine rA<|o7 ?_
 refine rF 0 ?_
 refine rL ?_
 refine d9 (DK rfl Tryz.underlying9 rfl) ?_
 refine rB ?_
 refine rM ?_
 refine x9 (fun g1=>?_) (fun g1=>?_)
 ·
  have g1':=j8 g1
  refine rF 0 ?_
  refine x9 (fun _=>?_) (nc g1)
  refine rL ?_
  refine x9 (fun _=>?_) (nc g1)
  refine d9 (CI rfl rfl rfl rfl) ?_
  refine d9 (M9 rfl rfl g1 rfl) ?_
  refine rM ?_
  refine x9 (fun g2=>?_) (fun g2=>?_)
  ·
   have g2':=(P4 g2)
   refine rF 0 ?_
   refine x9 (fun _=>?_) (nc g2)
   refine rL ?_
   refine x9 (fun _=>?_) (nc g2)
   refine d9 (CI rfl rfl rfl rfl) ?_
   refine d9 (M9 rfl rfl g2 rfl) ?_
   refine rM ?_
   refine x9 (fun g3=>?_) (fun g3=>?_)
   ·
    have g3':=(P4 g3)
    refine rF 1 ?_
    refine x9 (fun _=>?_) (nc g3)
    refine rL ?_
    refine x9 (fun _=>?_) (nc g3)
    refine d9 (n9 1 1 false (N9 Tryz.func88) (L6 a 1 3) rfl (.cons rfl (.c .t0) (.cons rfl (.c .t0) (.cons rfl (.c .t0) .nil))) rfl rfl rfl) ?_
    refine d9 (M9 rfl rfl g3 rfl) ?_
    refine rA<|c9 ?_
    refine tk Tryz.func87 (.tmp rfl .nil) ?_
    all_goals(refine N7 ?_;(obtain⟨c,rfl⟩:=OW (by assumption);simp only [cR,gR,Bool.not_eq_true',Bool.not_eq_false',decide_eq_true_eq,decide_eq_false_iff_not] at *;simp [I1,OY];omega))
   ·
    have g3':=(O4 g3)
    refine x9 (C9 g3) (fun _=>?_)
    refine x9 (C9 g3) (fun _=>?_)
    refine d9 (H9 rfl rfl g3 rfl) ?_
    refine rA<|c9 ?_
    refine tk Tryz.func87 (.tmp rfl .nil) ?_
    all_goals(refine N7 ?_;(obtain⟨c,rfl⟩:=OW (by assumption);simp only [cR,gR,Bool.not_eq_true',Bool.not_eq_false',decide_eq_true_eq,decide_eq_false_iff_not] at *;simp [I1,OY];omega))
  ·
   have g2':=(O4 g2)
   refine x9 (C9 g2) (fun _=>?_)
   refine x9 (C9 g2) (fun _=>?_)
   refine d9 (H9 rfl rfl g2 rfl) ?_
   refine rM ?_
   refine x9 (C9 rfl) (fun _=>?_)
   refine x9 (C9 rfl) (fun _=>?_)
   refine x9 (C9 rfl) (fun _=>?_)
   refine d9 (H9 rfl rfl rfl rfl) ?_
   refine rA<|c9 ?_
   refine tk Tryz.func87 (.tmp rfl .nil) ?_
   all_goals(refine N7 ?_;(obtain⟨c,rfl⟩:=OW (by assumption);simp only [cR,gR,Bool.not_eq_true',Bool.not_eq_false',decide_eq_true_eq,decide_eq_false_iff_not] at *;simp [I1,OY];omega))
 ·
  have g1':=l8 g1
  refine x9 (C9 g1) (fun _=>?_)
  refine x9 (C9 g1) (fun _=>?_)
  refine d9 (H9 rfl rfl g1 rfl) ?_
  refine rM ?_
  refine x9 (C9 rfl) (fun _=>?_)
  refine x9 (C9 rfl) (fun _=>?_)
  refine x9 (C9 rfl) (fun _=>?_)
  refine d9 (H9 rfl rfl rfl rfl) ?_
  refine rM ?_
  refine x9 (C9 rfl) (fun _=>?_)
  refine x9 (C9 rfl) (fun _=>?_)
  refine x9 (C9 rfl) (fun _=>?_)
  refine d9 (H9 rfl rfl rfl rfl) ?_
  refine rA<|c9 ?_
  refine tk Tryz.func87 (.tmp rfl .nil) ?_
  all_goals(refine N7 ?_;(have e:=mT (by assumption);simp [I1,e];done))
theorem j5 (l:List (List UInt8 × Int × Bool))(hl:l.length≤4611686018427387904):Pu Tryz.prog 42 [.c (.t none (.sl 3 (d8 Z9 f9 a8) l))] [] 0 (.c (.t none (.v (.bool (S5 l))))):=by
 refine u6 Tryz.func42 fun w S=>?_
 refine w9<|rA<|c9<|k9<|w9 ?_
 refine rM ?_
 refine d9 (S9 rfl rfl rfl) ?_
 refine rM<|c9<|r9 ?_
 refine L9 (fun m=>⟨[(0,some (.c (.t none (.sl 3 (d8 Z9 f9 a8) l)))),(5,some (.c (.t none (.sl 3 (d8 Z9 f9 a8) l)))),(6,some (.c (.t none (.v (.int .i64 ((l.length:Int))))))),(7,some (.c (.t none (.v (.int .i64 ((m:Int)))))))],[],0⟩:Nat→St) (fun m=>m≤l.length∧∀j,j < m→R3 l j=true) (fun m=>l.length - m) 0 ⟨⟨rfl,⟨rfl,⟨rfl,⟨rfl,trivial⟩⟩⟩⟩,trivial,rfl⟩ (by exact⟨Nat.zero_le _,fun j h=>by omega⟩) ?_
 rintro m hI ih0
 try dsimp only at hI ih0
 obtain⟨i1,i2⟩:=hI
 refine w9<|rB<|c9<|k9 ?_
 refine j9 rfl (fun h1=>?_) (fun h1=>?_)
 ·
  have h1':=j8 h1
  refine m9<|k9<|r9<|w9<|rM ?_
  obtain⟨z2,hz3,b4⟩:=t9 (xs:=l) (n:=(m:Int)) (by omega) (by omega)
  refine d9 (P9 rfl (by kernel_rfl) rfl rfl b4 hz3) ?_
  refine d9 (A6 rfl (n:=3) (by kernel_rfl) (by kernel_rfl) rfl rfl) ?_
  refine d9 (I9 0 (zs:=[.string (JY ([])),.int .i64 0,.bool false]) rfl rfl (by kernel_rfl) rfl) ?_
  refine rA ?_
  refine rS 3<|c9<|k9 ?_
  refine tY ?_
  refine dT 0 rfl (pC 3) ?_
  refine dO 1 rfl (n9 1 1 false (N9 Tryz.func87) (MZ z2.1 z2.2.1 z2.2.2) rfl (.cons rfl (.agg (.cons .t0 (.cons .t0 (.cons .t0 .nil)))) .nil) rfl rfl rfl) ?_
  refine dT 2 rfl (T3 rfl) ?_
  refine dT 3 rfl pM ?_
  refine dH 4 rfl (fun _=>pM) (fun g5=>?_) (fun g5=>?_)
  ·
   have g5':=(O4 g5)
   refine dH 5 rfl (fun _=>pB) (fun _=>?_) (C9 g5)
   refine dH 6 rfl (fun _=>pM) (fun _=>?_) (C9 g5)
   refine dH 7 rfl (fun _=>pF 0) (fun g6=>?_) (fun g6=>?_)
   ·
    have g6':=j8 g6
    refine dH 8 rfl (fun _=>pL) (fun _=>?_) (nc g6)
    refine dH 9 rfl (fun _=>pM) (fun _=>?_) (nc g6)
    refine dH 10 rfl (fun _=>pM) (fun _=>?_) (nc g6)
    refine dH 11 rfl (fun _=>pB) (fun _=>?_) (nc g6)
    obtain⟨z7,hz8,b9⟩:=t9 (xs:=l) (n:=IntKind.i64.wrap ((m:Int) - 1)) (by(simp only [IntKind.wrap_i64];omega)) (by(simp only [IntKind.wrap_i64];omega))
    refine dH 12 rfl (fun _=>w8 (by kernel_rfl) rfl rfl b9 hz8) (fun _=>?_) (nc g6)
    refine dH 13 rfl (fun _=>N2 (off:=0) (by kernel_rfl) rfl) (fun _=>?_) (nc g6)
    refine dH 14 rfl (fun _=>t7 (by kernel_rfl) rfl rfl) (fun _=>?_) (nc g6)
    refine dH 15 rfl (fun _=>bK rfl rfl rfl) (fun _=>?_) (nc g6)
    refine dH 16 rfl (fun _=>H8 rfl g6 rfl) (fun _=>?_) (C9 g5)
    refine dT 17 rfl (o8 rfl g5 rfl) ?_
    refine dE ?_
    refine j9 rfl (fun h10=>?_) (fun h10=>?_)
    ·
     have h10':=(P4 h10)
     refine w9<|rA<|c9 ?_
     refine tk Tryz.func42 (.tmp rfl .nil) ?_ <;>(try clear ih0)
     all_goals(rw [QZ (m:=m) (by omega) (cZ (n:=(IntKind.i64.wrap ((m:Int) - 1)).toNat) (by assumption) (by assumption) (by omega) (by simp only [IntKind.wrap_i64];omega) (by assumption) (by assumption))])
    ·
     have h10':=(O4 h10)
     refine m9<|i9<|l9<|rB ?_
     refine rM<|c9 ?_
     refine n8 ?_ (ih0 (m + 1) (by(try dsimp only);omega) (by(try dsimp only);exact⟨by omega,d6 i2 (cZ (n:=(IntKind.i64.wrap ((m:Int) - 1)).toNat) (by assumption) (by assumption) (by omega) (by simp only [IntKind.wrap_i64];omega) (by assumption) (by assumption))⟩))
     exact⟨⟨rfl,⟨rfl,⟨rfl,⟨(i6 (s8 (by omega) (by omega))),trivial⟩⟩⟩⟩,trivial,rfl⟩
   ·
    have g6':=l8 g6
    refine dG 8 (C9 g6) (fun _=>?_)
    refine dG 9 (C9 g6) (fun _=>?_)
    refine dG 10 (C9 g6) (fun _=>?_)
    refine dG 11 (C9 g6) (fun _=>?_)
    refine dG 12 (C9 g6) (fun _=>?_)
    refine dG 13 (C9 g6) (fun _=>?_)
    refine dG 14 (C9 g6) (fun _=>?_)
    refine dG 15 (C9 g6) (fun _=>?_)
    refine dH 16 rfl (fun _=>o8 rfl g6 rfl) (fun _=>?_) (C9 g5)
    refine dT 17 rfl (o8 rfl g5 rfl) ?_
    refine dE ?_
    refine j9 rfl (C9 rfl) (fun _=>?_)
    refine m9<|i9<|l9<|rB ?_
    refine rM<|c9 ?_
    refine n8 ?_ (ih0 (m + 1) (by(try dsimp only);omega) (by(try dsimp only);exact⟨by omega,d6 i2 (zW (by assumption) (by assumption) (by omega))⟩))
    exact⟨⟨rfl,⟨rfl,⟨rfl,⟨(i6 (s8 (by omega) (by omega))),trivial⟩⟩⟩⟩,trivial,rfl⟩
  ·
   have g5':=(P4 g5)
   refine dG 5 (nc g5) (fun _=>?_)
   refine dG 6 (nc g5) (fun _=>?_)
   refine dK 7 ?_
   refine dK 8 ?_
   refine dK 9 ?_
   refine dK 10 ?_
   refine dK 11 ?_
   refine dK 12 ?_
   refine dK 13 ?_
   refine dK 14 ?_
   refine dK 15 ?_
   refine dG 16 (nc g5) (fun _=>?_)
   refine dT 17 rfl (H8 rfl g5 rfl) ?_
   refine dE ?_
   refine j9 rfl (fun _=>?_) (nc rfl)
   refine w9<|rA<|c9 ?_
   refine tk Tryz.func42 (.tmp rfl .nil) ?_ <;>(try clear ih0)
   all_goals(rw [QZ (m:=m) (by omega) (wV (by assumption) (by assumption))])
 ·
  have h1':=l8 h1
  refine R9 rfl<|w9<|rM ?_
  refine d9 (S9 rfl rfl rfl) ?_
  refine rB ?_
  refine rA<|c9 ?_
  refine tk Tryz.func42 (.tmp rfl .nil) ?_ <;>(try clear ih0)
  all_goals(rw [FU (m:=m) i2 (by omega)];exact rG (by omega))
theorem R2 (l:List Int)(f:Nat)(cs:List ((Nat→T) × Nat))(p:Int→Bool)(hl:l.length≤9223372036854775807)(hf:∀x∈l,Fu Tryz.prog f ([.c (.t none (.v (.int .i64 x)))]++ET cs) (.c (.t none (.v (.bool (p x)))))):Pu Tryz.prog 124 [.c (.t none (.sl 1 f9 l)),.c (.fv f cs)] [] 0 (.c (.t none (.v (.int .i64 (V1 p l))))):=by
 refine u6 Tryz.func124 fun w S=>?_
 refine w9<|rA<|c9<|k9<|w9 ?_
 refine rM ?_
 refine d9 (S9 rfl rfl rfl) ?_
 refine rM<|c9<|r9 ?_
 refine L9 (fun m=>⟨[(0,some (.c (.t none (.sl 1 f9 l)))),(1,some (.c (.fv f cs))),(7,some (.c (.t none (.v (.int .i64 ((l.length:Int))))))),(8,some (.c (.t none (.v (.int .i64 ((m:Int)))))))],[],0⟩:Nat→St) (fun m=>m≤l.length∧∀j z,j < m→l[j]? =some z→p z=false) (fun m=>l.length - m) 0 ⟨⟨rfl,⟨rfl,⟨rfl,⟨rfl,trivial⟩⟩⟩⟩,trivial,rfl⟩ (by exact⟨Nat.zero_le _,fun j z h=>by omega⟩) ?_
 rintro m hI ih0
 try dsimp only at hI ih0
 obtain⟨i1,i2⟩:=hI
 refine w9<|rB<|c9<|k9 ?_
 refine j9 rfl (fun h1=>?_) (fun h1=>?_)
 ·
  have h1':=j8 h1
  refine m9<|k9<|r9<|w9<|rM ?_
  refine rA<|o7 ?_
  refine rM ?_
  refine rM ?_
  refine rM ?_
  obtain⟨z2,hz3,b4⟩:=t9 (xs:=l) (n:=(m:Int)) (by omega) (by omega)
  refine d9 (P9 rfl (by kernel_rfl) rfl rfl b4 hz3) ?_
  refine d9 (c8 rfl (by kernel_rfl) rfl rfl) ?_
  refine d9 (nR 0 0 false (hf z2 (J8 (by assumption))).1 (hf z2 (J8 (by assumption))).2 rfl rfl (.c .fv) (.cons rfl (.c .t0) .nil) rfl rfl rfl) ?_
  refine c9 ?_
  refine j9 rfl (fun h5=>?_) (fun h5=>?_)
  ·
   have h5':=h5
   refine w9<|rM ?_
   refine rA<|c9 ?_
   refine tk Tryz.func124 (.tmp rfl .nil) ?_ <;>(try clear ih0)
   all_goals(rw [SZ i2 (by assumption) (by assumption)])
  ·
   have h5':=h5
   refine m9<|i9<|l9<|rB ?_
   refine rM<|c9 ?_
   refine n8 ?_ (ih0 (m + 1) (by(try dsimp only);omega) (by(try dsimp only);exact⟨by omega,W4 i2 (by assumption) rfl (by assumption)⟩))
   exact⟨⟨rfl,⟨rfl,⟨rfl,⟨(i6 (s8 (by omega) (by omega))),trivial⟩⟩⟩⟩,trivial,rfl⟩
 ·
  have h1':=l8 h1
  refine R9 rfl<|w9<|rA<|c9 ?_
  refine tk Tryz.func124 (.tmp rfl .nil) ?_ <;>(try clear ih0)
  all_goals(rw [C0 i2 (by omega)])
theorem a5 (l:List Int)(f:Nat)(cs:List ((Nat→T) × Nat))(p:Int→Bool)(hl:l.length≤9223372036854775807)(hf:∀x∈l,Fu Tryz.prog f ([.c (.t none (.v (.int .i64 x)))]++ET cs) (.c (.t none (.v (.bool (p x)))))):Pu Tryz.prog 89 [.c (.t none (.sl 1 f9 l)),.c (.fv f cs)] [] 0 (.c (.t none (.v (.bool (l.any p))))):=by
 refine u6 Tryz.func89 fun w S=>?_
 refine w9<|rA<|o7 ?_
 refine rM ?_
 refine rM ?_
 refine d9 (n9 0 0 false (N9 Tryz.func124) (R2 l f cs p (by omega) hf) rfl (.cons rfl (.c .t0) (.cons rfl (.c .fv) .nil)) rfl rfl rfl) ?_
 refine rB ?_
 refine rA<|c9 ?_
 refine tk Tryz.func89 (.tmp rfl .nil) ?_
 all_goals(exact N7 eZ)
theorem E6 (v:Int):Pu Tryz.prog 66 [.c (.t none (.v (.int .i64 v)))] [] 0 (.c (.t none (.v (.bool (decide (-40≤v∧v≤9)))))):=by
 refine u6 Tryz.func66 fun w S=>?_
 refine w9<|rA<|o7 ?_
 refine rM ?_
 refine d9 (n9 0 0 false (N9 Tryz.func88) (L6 v (-40) 9) rfl (.cons rfl (.c .t0) (.cons rfl (.c .t0) (.cons rfl (.c .t0) .nil))) rfl rfl rfl) ?_
 refine rA<|c9 ?_
 refine tk Tryz.func66 (.tmp rfl .nil) ?_
 all_goals rfl
theorem uY (t:Int):Pu Tryz.prog 90 [.c (.t none (.v (.int .i64 t)))] [] 0 (.c (.t none (.v (.bool (!(ZZ t)))))):=by
 refine u6 Tryz.func90 fun w S=>?_
 refine w9<|rA<|o7 ?_
 refine rM ?_
 refine d9 (n9 0 0 false (N9 Tryz.func66) (E6 t) rfl (.cons rfl (.c .t0) .nil) rfl rfl rfl) ?_
 refine d9 (Q8 rfl rfl) ?_
 refine rA<|c9 ?_
 refine tk Tryz.func90 (.tmp rfl .nil) ?_
 all_goals rfl
theorem eW (rs:List (List UInt8 × Int × Bool))(r:Int)(ts:List Int)(hrs:rs.length≤4611686018427387904)(hts:ts.length≤4611686018427387904)(ho:∀x∈ts,s7 x):Pu Tryz.prog 43 [.c (.t none (.sl 3 (d8 Z9 f9 a8) rs)),.agg [.t none (.v (.int .i64 r)),.t none (.sl 1 f9 ts)]] [] 0 (.c (.t none (.v (.bool (v6 rs r ts))))):=by
 refine u6 Tryz.func43 fun w S=>?_
 refine w9 ?_
 refine d9 (X9 0 rfl rfl rfl rfl) ?_
 refine rA<|c9<|k9<|k9 ?_
 refine tY ?_
 refine dT 0 rfl pM ?_
 refine dO 1 rfl (n9 1 1 false (N9 Tryz.func42) (j5 rs (by omega)) rfl (.cons rfl (.c .t0) .nil) rfl rfl rfl) ?_
 refine dT 2 rfl (T3 rfl) ?_
 refine dT 3 rfl pM ?_
 refine dH 4 rfl (fun _=>pF 0) (fun g1=>?_) (fun g1=>?_)
 ·
  have g1':=(O4 g1)
  refine dH 5 rfl (fun _=>pL) (fun _=>?_) (C9 g1)
  refine dH 6 rfl (fun _=>pM) (fun _=>?_) (C9 g1)
  refine dH 7 rfl (fun _=>BZ rfl rfl) (fun _=>?_) (C9 g1)
  refine dH 8 rfl (fun _=>pB) (fun _=>?_) (C9 g1)
  refine s6 9 rfl rfl (by kernel_rfl) rfl rfl rfl (fun _=>(n9 1 1 false (N9 Tryz.func88) (L6 r 0 (IntKind.i64.wrap ((rs.length:Int) - 1))) rfl (.cons rfl (.c .t0) (.cons rfl (.c .t0) (.cons rfl (.c .t0) .nil))) rfl rfl rfl)) (fun _=>?_) (C9 g1)
  refine dH 10 rfl (fun _=>T3 rfl) (fun _=>?_) (C9 g1)
  refine dT 11 rfl (o8 rfl g1 rfl) ?_
  refine dT 12 rfl pM ?_
  refine dH 13 rfl (fun _=>pF 1) (fun g2=>?_) (fun g2=>?_)
  ·
   have g2':=j8 (O4 g2)
   refine dH 14 rfl (fun _=>pL) (fun _=>?_) (C9 g2)
   refine dH 15 rfl (fun _=>BZ rfl rfl) (fun _=>?_) (C9 g2)
   refine dH 16 rfl (fun _=>pM) (fun _=>?_) (C9 g2)
   refine dH 17 rfl (fun _=>pF 0) (fun _=>?_) (C9 g2)
   refine dH 18 rfl (fun _=>pL) (fun _=>?_) (C9 g2)
   obtain⟨z3,hz4,b5⟩:=t9 (xs:=rs) (n:=r) (by omega) (by(simp only [IntKind.wrap_i64] at *;omega))
   refine dH 19 rfl (fun _=>w8 (by kernel_rfl) rfl rfl b5 hz4) (fun _=>?_) (C9 g2)
   refine dH 20 rfl (fun _=>N2 (off:=1) (by kernel_rfl) rfl) (fun _=>?_) (C9 g2)
   refine dH 21 rfl (fun _=>t7 (by kernel_rfl) rfl rfl) (fun _=>?_) (C9 g2)
   refine dH 22 rfl (fun _=>pB) (fun _=>?_) (C9 g2)
   refine dT 23 rfl (o8 rfl g2 rfl) ?_
   refine dE ?_
   refine j9 rfl (fun h6=>?_) (fun h6=>?_)
   ·
    have h6':=j8 h6
    refine w9<|rA<|c9 ?_
    refine tk Tryz.func43 (.tmp rfl .nil) ?_
    all_goals(refine N7 ?_;(rw [YQ (by assumption) (by assumption)];done))
   ·
    have h6':=l8 h6
    refine m9<|w9<|rF 1 ?_
    refine rL ?_
    refine d9 (n9 1 1 false (N9 Tryz.func89) (a5 ts 90 ([]) (fun(x0:Int)=>!(ZZ x0)) (by omega) (fun x0 mx0=>⟨N9 Tryz.func90,uY x0⟩)) rfl (.cons rfl (.c .t0) (.cons rfl (.c (.clo .nil)) .nil)) rfl rfl rfl) ?_
    refine d9 (Q8 rfl rfl) ?_
    refine rA<|c9 ?_
    refine tk Tryz.func43 (.tmp rfl .nil) ?_
    all_goals(refine N7 ?_;(rw [fT (by assumption) (by simp only [IntKind.wrap_i64] at *;omega) (by assumption) (by omega)];done))
  ·
   have g2':=l8 (P4 g2)
   refine dG 14 (nc g2) (fun _=>?_)
   refine dG 15 (nc g2) (fun _=>?_)
   refine dG 16 (nc g2) (fun _=>?_)
   refine dG 17 (nc g2) (fun _=>?_)
   refine dG 18 (nc g2) (fun _=>?_)
   refine dG 19 (nc g2) (fun _=>?_)
   refine dG 20 (nc g2) (fun _=>?_)
   refine dG 21 (nc g2) (fun _=>?_)
   refine dG 22 (nc g2) (fun _=>?_)
   refine dT 23 rfl (H8 rfl g2 rfl) ?_
   refine dE ?_
   refine j9 rfl (fun _=>?_) (nc rfl)
   refine w9<|rA<|c9 ?_
   refine tk Tryz.func43 (.tmp rfl .nil) ?_
   all_goals(refine N7 ?_;(rw [fP (by simp only [IntKind.wrap_i64] at *;omega)];done))
 ·
  have g1':=(P4 g1)
  refine dG 5 (nc g1) (fun _=>?_)
  refine dG 6 (nc g1) (fun _=>?_)
  refine dG 7 (nc g1) (fun _=>?_)
  refine dG 8 (nc g1) (fun _=>?_)
  refine dG 9 (nc g1) (fun _=>?_)
  refine dG 10 (nc g1) (fun _=>?_)
  refine dT 11 rfl (H8 rfl g1 rfl) ?_
  refine dT 12 rfl pM ?_
  refine dG 13 (nc rfl) (fun _=>?_)
  refine dG 14 (nc rfl) (fun _=>?_)
  refine dG 15 (nc rfl) (fun _=>?_)
  refine dG 16 (nc rfl) (fun _=>?_)
  refine dG 17 (nc rfl) (fun _=>?_)
  refine dG 18 (nc rfl) (fun _=>?_)
  refine dG 19 (nc rfl) (fun _=>?_)
  refine dG 20 (nc rfl) (fun _=>?_)
  refine dG 21 (nc rfl) (fun _=>?_)
  refine dG 22 (nc rfl) (fun _=>?_)
  refine dT 23 rfl (H8 rfl rfl rfl) ?_
  refine dE ?_
  refine j9 rfl (fun _=>?_) (nc rfl)
  refine w9<|rA<|c9 ?_
  refine tk Tryz.func43 (.tmp rfl .nil) ?_
  all_goals(refine N7 ?_;(rw [tP (by assumption)];done))
theorem sZ (x:Int):Pu Tryz.prog 125 [.c (.t none (.v (.int .i64 x)))] [] 0 (.c (.t none (.v (.bool false)))):=by
 refine u6 Tryz.func125 fun w S=>?_
 refine w9<|rA<|o7 ?_
 refine rM ?_
 refine rM ?_
 refine rB ?_
 refine rA<|c9 ?_
 refine tk Tryz.func125 (.tmp rfl .nil) ?_
 all_goals simp
theorem J0 (x y:Int):Pu Tryz.prog 92 [.c (.t none (.v (.int .i64 x))),.c (.t none (.v (.int .i64 y)))] [] 0 (.c (.t none (.v (.int .i64 (RV x y))))):=by
 refine u6 Tryz.func92 fun w S=>?_
 refine w9<|rA<|o7 ?_
 refine rM ?_
 refine d9 (n9 0 0 false (N9 Tryz.func125) (sZ x) rfl (.cons rfl (.c .t0) .nil) rfl rfl rfl) ?_
 refine rA<|o7 ?_
 refine rM ?_
 refine d9 (n9 0 0 false (N9 Tryz.func125) (sZ y) rfl (.cons rfl (.c .t0) .nil) rfl rfl rfl) ?_
 refine rA<|c9<|k9<|w9 ?_
 refine rM<|c9 ?_
 refine j9 rfl (C9 rfl) (fun _=>?_)
 refine m9<|k9<|w9<|rM<|c9 ?_
 refine j9 rfl (C9 rfl) (fun _=>?_)
 refine m9<|k9<|w9<|rM ?_
 refine rM ?_
 refine rB<|c9 ?_
 refine j9 rfl (fun h1=>?_) (fun h1=>?_)
 ·
  have h1':=j8 h1
  refine w9<|rA<|c9 ?_
  refine tk Tryz.func92 (.tmp rfl .nil) ?_
  all_goals(refine qX ?_;unfold RV;(rw [if_pos (by assumption)];done))
 ·
  have h1':=l8 h1
  refine m9<|k9<|w9<|rM ?_
  refine rM ?_
  refine rB<|c9 ?_
  refine j9 rfl (fun h2=>?_) (fun h2=>?_)
  ·
   have h2':=j8 h2
   refine w9<|rA<|c9 ?_
   refine tk Tryz.func92 (.tmp rfl .nil) ?_
   all_goals(refine qX ?_;unfold RV;(rw [if_neg (by assumption),if_pos (by omega)];done))
  ·
   have h2':=l8 h2
   refine m9<|w9<|rA<|c9 ?_
   refine tk Tryz.func92 (.tmp rfl .nil) ?_
   all_goals(refine qX ?_;unfold RV;(rw [if_neg (by assumption),if_neg (by omega)];done))
theorem R1 (a b:List Int)(ha:a.length≤4611686018427387904)(hb:b.length≤4611686018427387904):Pu Tryz.prog 93 [.c (.t none (.sl 1 f9 a)),.c (.t none (.sl 1 f9 b))] [] 0 (.c (.t none (.v (.int .i64 (T6 a b))))):=by
 refine u6 Tryz.func93 fun w S=>?_
 refine w9<|rA<|c9<|k9<|w9 ?_
 refine rM ?_
 refine d9 (S9 rfl rfl rfl) ?_
 refine rM<|c9<|r9 ?_
 refine L9 (fun m=>⟨[(0,some (.c (.t none (.sl 1 f9 a)))),(1,some (.c (.t none (.sl 1 f9 b)))),(9,some (.c (.t none (.sl 1 f9 a)))),(10,some (.c (.t none (.v (.int .i64 ((a.length:Int))))))),(11,some (.c (.t none (.v (.int .i64 ((m:Int)))))))],[],0⟩:Nat→St) (fun m=>m≤a.length∧m≤b.length∧a.take m=b.take m) (fun m=>a.length - m) 0 ⟨⟨rfl,⟨rfl,⟨rfl,⟨rfl,⟨rfl,trivial⟩⟩⟩⟩⟩,trivial,rfl⟩ (by exact⟨Nat.zero_le _,Nat.zero_le _,rfl⟩) ?_
 rintro m hI ih0
 try dsimp only at hI ih0
 obtain⟨i1,i2,i3⟩:=hI
 refine w9<|rB<|c9<|k9 ?_
 refine j9 rfl (fun h1=>?_) (fun h1=>?_)
 ·
  have h1':=j8 h1
  refine m9<|k9<|r9<|w9<|rM ?_
  obtain⟨z2,hz3,b4⟩:=t9 (xs:=a) (n:=(m:Int)) (by omega) (by omega)
  refine d9 (P9 rfl (by kernel_rfl) rfl rfl b4 hz3) ?_
  refine d9 (c8 rfl (by kernel_rfl) rfl rfl) ?_
  refine rA ?_
  refine rA<|c9<|k9<|w9 ?_
  refine rM ?_
  refine rM ?_
  refine d9 (S9 rfl rfl rfl) ?_
  refine rB<|c9 ?_
  refine j9 rfl (fun h5=>?_) (fun h5=>?_)
  ·
   have h5':=j8 h5
   refine w9<|rA<|c9 ?_
   refine tk Tryz.func93 (.tmp rfl .nil) ?_ <;>(try clear ih0)
   all_goals(refine qX ?_;(rw [(f4 i3 i1 i2).2.1 (by omega) (by omega)];done))
  ·
   have h5':=l8 h5
   refine m9<|w9<|rM ?_
   refine rM ?_
   obtain⟨z6,hz7,b8⟩:=t9 (xs:=b) (n:=(m:Int)) (by omega) (by omega)
   refine d9 (P9 rfl (by kernel_rfl) rfl rfl b8 hz7) ?_
   refine d9 (c8 rfl (by kernel_rfl) rfl rfl) ?_
   refine rA<|o7 ?_
   refine rM ?_
   refine rM ?_
   refine d9 (n9 0 0 false (N9 Tryz.func92) (J0 z2 z6) rfl (.cons rfl (.c .t0) (.cons rfl (.c .t0) .nil)) rfl rfl rfl) ?_
   refine rA<|o7 ?_
   refine rM ?_
   refine rB<|c9 ?_
   refine j9 rfl (fun h9=>?_) (fun h9=>?_)
   ·
    have h9':=j8 h9
    refine w9<|rM ?_
    refine rA<|c9 ?_
    refine tk Tryz.func93 (.tmp rfl .nil) ?_ <;>(try clear ih0)
    all_goals(refine qX ?_;(exact HN i3 (by assumption) (by assumption) (by omega)))
   ·
    have h9':=l8 h9
    refine m9<|i9<|l9<|rB ?_
    refine rM<|c9 ?_
    refine n8 ?_ (ih0 (m + 1) (by(try dsimp only);omega) (by(try dsimp only);exact⟨by omega,by omega,oZ i3 (FW (by assumption) (by assumption) (mJ (by omega)))⟩))
    exact⟨⟨rfl,⟨rfl,⟨rfl,⟨rfl,⟨(i6 (s8 (by omega) (by omega))),trivial⟩⟩⟩⟩⟩,trivial,rfl⟩
 ·
  have h1':=l8 h1
  refine R9 rfl<|k9<|w9<|rM ?_
  refine d9 (S9 rfl rfl rfl) ?_
  refine rM ?_
  refine d9 (S9 rfl rfl rfl) ?_
  refine rB<|c9 ?_
  refine j9 rfl (fun h10=>?_) (fun h10=>?_)
  ·
   have h10':=j8 h10
   refine w9<|rA<|c9 ?_
   refine tk Tryz.func93 (.tmp rfl .nil) ?_ <;>(try clear ih0)
   all_goals(refine qX ?_;(rw [(f4 i3 i1 i2).1 (by omega) (by omega)];done))
  ·
   have h10':=l8 h10
   refine m9<|w9<|rA<|c9 ?_
   refine tk Tryz.func93 (.tmp rfl .nil) ?_ <;>(try clear ih0)
   all_goals(refine qX ?_;(rw [(f4 i3 i1 i2).2.2 (by omega) (by omega)];done))
theorem NT (l:List Int)(hl:l.length≤4611686018427387904):Pu Tryz.prog 91 [.c (.t none (.sl 1 f9 l))] [] 0 (.c (.t none (.v (.int .i64 (OL l))))):=by
 refine u6 Tryz.func91 fun w S=>?_
 refine w9<|rA<|o7 ?_
 refine rA<|c9<|k9<|w9 ?_
 refine rM ?_
 refine d9 (S9 rfl rfl rfl) ?_
 refine rM<|c9<|r9 ?_
 refine L9 (fun m=>⟨[(3,some (.c (.t none (.v (.int .i64 0))))),(6,some (.c (.t none (.sl 1 f9 l)))),(7,some (.c (.t none (.v (.int .i64 ((l.length:Int))))))),(8,some (.c (.t none (.v (.int .i64 ((m:Int)))))))],[],0⟩:Nat→St) (fun m=>m≤l.length∧∀j y,j < m→l[j]? =some y→y=0) (fun m=>l.length - m) 0 ⟨⟨rfl,⟨rfl,⟨rfl,⟨rfl,trivial⟩⟩⟩⟩,trivial,rfl⟩ (by exact⟨Nat.zero_le _,fun j z h=>by omega⟩) ?_
 rintro m hI ih0
 try dsimp only at hI ih0
 obtain⟨i1,i2⟩:=hI
 refine w9<|rB<|c9<|k9 ?_
 refine j9 rfl (fun h1=>?_) (fun h1=>?_)
 ·
  have h1':=j8 h1
  refine m9<|k9<|r9<|w9 ?_
  obtain⟨z2,hz3,b4⟩:=t9 (xs:=l) (n:=(m:Int)) (by omega) (by omega)
  refine d9 (P9 rfl (by kernel_rfl) rfl rfl b4 hz3) ?_
  refine d9 (c8 rfl (by kernel_rfl) rfl rfl) ?_
  refine rA<|o7 ?_
  refine rM ?_
  refine rM ?_
  refine rB<|c9 ?_
  refine j9 rfl (fun h5=>?_) (fun h5=>?_)
  ·
   have h5':=j8 h5
   refine w9<|rM ?_
   refine rA<|c9 ?_
   refine tk Tryz.func91 (.tmp rfl .nil) ?_ <;>(try clear ih0)
   all_goals(refine qX ?_;(rw [UK i2 (by assumption) (by omega)];done))
  ·
   have h5':=l8 h5
   refine m9<|i9<|l9<|rB ?_
   refine rM<|c9 ?_
   refine n8 ?_ (ih0 (m + 1) (by(try dsimp only);omega) (by(try dsimp only);exact⟨by omega,mM i2 (by assumption) rfl (by omega)⟩))
   exact⟨⟨rfl,⟨rfl,⟨rfl,⟨(i6 (s8 (by omega) (by omega))),trivial⟩⟩⟩⟩,trivial,rfl⟩
 ·
  have h1':=l8 h1
  refine R9 rfl<|w9<|rM ?_
  refine rA<|c9 ?_
  refine tk Tryz.func91 (.tmp rfl .nil) ?_ <;>(try clear ih0)
  all_goals(refine qX ?_;(rw [kQ fun j y hj hy=>i2 j y (by omega) hy];done))
theorem E1 (r:Int)(l:List Int)(r2:Int)(l2:List Int)(hl:l.length≤1048576)(hl2:l2.length≤1048576):Pu Tryz.prog 44 [.agg [.t none (.v (.int .i64 r)),.t none (.sl 1 f9 l)],.agg [.t none (.v (.int .i64 r2)),.t none (.sl 1 f9 l2)]] [] 0 (.c (.t none (.v (.int .i64 (S8 (r,l) (r2,l2)))))):=by
 refine u6 Tryz.func44 fun w S=>?_
 refine w9 ?_
 refine d9 (X9 0 rfl rfl rfl rfl) ?_
 refine d9 (X9 1 rfl rfl rfl rfl) ?_
 refine rA<|c9<|k9 ?_
 refine tY ?_
 refine dT 0 rfl (pF 0) ?_
 refine dT 1 rfl pL ?_
 refine dT 2 rfl (pF 0) ?_
 refine dT 3 rfl pL ?_
 refine dT 5 rfl (pF 1) ?_
 refine dT 6 rfl pL ?_
 refine dT 7 rfl (pF 1) ?_
 refine dT 8 rfl pL ?_
 refine dO 4 rfl (n9 2 2 false (N9 Tryz.func92) (J0 r r2) rfl (.cons rfl (.c .t0) (.cons rfl (.c .t0) .nil)) rfl rfl rfl) ?_
 refine dO 9 rfl (n9 2 2 false (N9 Tryz.func93) (R1 l l2 (by omega) (by omega)) rfl (.cons rfl (.c .t0) (.cons rfl (.c .t0) .nil)) rfl rfl rfl) ?_
 refine dO 10 rfl (G8 2 (e:=3) (sz:=1) (zs:=[.int .i64 0]) rfl rfl (by kernel_rfl) rfl rfl rfl rfl rfl) ?_
 refine dO 11 rfl (n9 3 3 false (N9 Tryz.func91) (NT ([RV r r2,T6 l l2]) (by(simp;done))) rfl (.cons rfl (.c (.bsl rfl rfl (.cons .t (.cons .t .nil)))) .nil) rfl rfl rfl) ?_
 refine dT 12 rfl pA ?_
 refine dE ?_
 refine tk Tryz.func44 (.tmp rfl .nil) ?_
 all_goals(refine qX ?_;exact oJ (r,l) (r2,l2))
theorem f5 (v:Int)(hv: -9223372036854775808≤v)(hv2:v≤9223372036854775807):Pu Tryz.prog 64 [.c (.t none (.v (.int .i64 v)))] [] 0 (.tup [(false,[.t none (.v (.int .i64 (if -40≤v∧v≤ -1 then -1 - v else 0)))]),(false,[.t none (.v (.bool (decide (-40≤v∧v≤ -1))))])]):=by
 refine u6 Tryz.func64 fun w S=>?_
 refine w9<|rA ?_
 refine rA<|c9<|k9<|w9 ?_
 refine rM ?_
 refine rB ?_
 refine d9 (n9 0 0 false (N9 Tryz.func88) (L6 (IntKind.i64.wrap ((-1) - v)) 0 39) rfl (.cons rfl (.c .t0) (.cons rfl (.c .t0) (.cons rfl (.c .t0) .nil))) rfl rfl rfl) ?_
 refine d9 (Q8 rfl rfl) ?_
 refine c9 ?_
 refine j9 rfl (fun h1=>?_) (fun h1=>?_)
 ·
  have h1':=l8 (P4 h1)
  refine w9<|rA ?_
  refine rA<|c9 ?_
  refine tk Tryz.func64 (.tmp rfl (.tmp rfl .nil)) ?_
  all_goals(((have hn:¬(-40≤v∧v≤ -1):=by(simp only [IntKind.wrap_i64] at *;omega));(simp [hn];done)))
 ·
  have h1':=j8 (O4 h1)
  refine m9<|w9<|rM ?_
  refine rB ?_
  refine rA ?_
  refine rA<|c9 ?_
  refine tk Tryz.func64 (.tmp rfl (.tmp rfl .nil)) ?_
  all_goals(((have hn:(-40≤v∧v≤ -1):=by(simp only [IntKind.wrap_i64] at *;omega));(have e:IntKind.i64.wrap (-1 - v)= -1 - v:=s8 (by omega) (by omega));(simp [hn,e];done)))
def Tryz.sortL_ren : Go.Shelf.Ren := ⟨fun | 5 => 84 | 8 => 113 | 7 => 120 | 19 => 143 | 20 => 144 | 10 => 146 | 11 => 147 | 12 => 148 | 13 => 149 | 14 => 150 | 15 => 151 | 16 => 152 | 17 => 153 | 18 => 154 | 30 => 168 | 31 => 164 | 32 => 165 | 33 => 169 | 34 => 170 | 35 => 125 | 40 => 176 | n => n, fun | 23 => 31 | 25 => 3 | 3 => 3 | 32 => 123 | 22 => 31 | 0 => 0 | 44 => 151 | 46 => 153 | 4 => 4 | 36 => 145 | 35 => 144 | 41 => 61 | 5 => 5 | 9 => 9 | 53 => 167 | 57 => 171 | 63 => 176 | 64 => 177 | n => n, fun | n => n⟩
theorem Tryz.sortL : Go.Proofs.SlLaysM.n5 Tryz.prog Tryz.sortL_ren := {
 mixed := by kernel_rfl
 f5 := ⟨Tryz.f84.name, by decide, Tryz.func84.trans (congrArg some (by kernel_rfl))⟩
 f7 := ⟨Tryz.f120.name, by decide, Tryz.func120.trans (congrArg some (by kernel_rfl))⟩
 f8 := Tryz.func113.trans (congrArg some (by kernel_rfl))
 f10 := ⟨Tryz.f146.name, by decide, Tryz.func146.trans (congrArg some (by kernel_rfl))⟩
 f11 := ⟨Tryz.f147.name, by decide, Tryz.func147.trans (congrArg some (by kernel_rfl))⟩
 f12 := ⟨Tryz.f148.name, by decide, Tryz.func148.trans (congrArg some (by kernel_rfl))⟩
 f13 := ⟨Tryz.f149.name, by decide, Tryz.func149.trans (congrArg some (by kernel_rfl))⟩
 f14 := ⟨Tryz.f150.name, by decide, Tryz.func150.trans (congrArg some (by kernel_rfl))⟩
 f15 := ⟨Tryz.f151.name, by decide, Tryz.func151.trans (congrArg some (by kernel_rfl))⟩
 f16 := ⟨Tryz.f152.name, by decide, Tryz.func152.trans (congrArg some (by kernel_rfl))⟩
 f17 := ⟨Tryz.f153.name, by decide, Tryz.func153.trans (congrArg some (by kernel_rfl))⟩
 f18 := ⟨Tryz.f154.name, by decide, Tryz.func154.trans (congrArg some (by kernel_rfl))⟩
 f19 := Tryz.func143.trans (congrArg some (by kernel_rfl))
 f20 := Tryz.func144.trans (congrArg some (by kernel_rfl))
 f30 := ⟨Tryz.f168.name, by decide, Tryz.func168.trans (congrArg some (by kernel_rfl))⟩
 f31 := Tryz.func164.trans (congrArg some (by kernel_rfl))
 f32 := Tryz.func165.trans (congrArg some (by kernel_rfl))
 f33 := ⟨Tryz.f169.name, by decide, Tryz.func169.trans (congrArg some (by kernel_rfl))⟩
 f34 := ⟨Tryz.f170.name, by decide, Tryz.func170.trans (congrArg some (by kernel_rfl))⟩
 f35 := ⟨Tryz.f125.name, by decide, Tryz.func125.trans (congrArg some (by kernel_rfl))⟩
 f40 := ⟨Tryz.f176.name, by decide, Tryz.func176.trans (congrArg some (by kernel_rfl))⟩
 t0 := Tryz.underlying0
 a0 := Tryz.isAgg0
 z0 := Tryz.sizeOf0
 v0 := Tryz.zeroValue0
 t3 := Tryz.underlying3
 a3 := Tryz.isAgg3
 z3 := Tryz.sizeOf3
 v3 := Tryz.zeroValue3
 t4 := Tryz.underlying4
 a4 := Tryz.isAgg4
 z4 := Tryz.sizeOf4
 v4 := Tryz.zeroValue4
 t5 := Tryz.underlying5
 a5 := Tryz.isAgg5
 z5 := Tryz.sizeOf5
 v5 := Tryz.zeroValue5
 t9 := Tryz.underlying9
 a9 := Tryz.isAgg9
 z9 := Tryz.sizeOf9
 v9 := Tryz.zeroValue9
 t22 := Tryz.underlying31
 a22 := Tryz.isAgg31
 z22 := Tryz.sizeOf31
 v22 := Tryz.zeroValue31
 t23 := Tryz.underlying31
 a23 := Tryz.isAgg31
 z23 := Tryz.sizeOf31
 v23 := Tryz.zeroValue31
 t25 := Tryz.underlying3
 a25 := Tryz.isAgg3
 z25 := Tryz.sizeOf3
 v25 := Tryz.zeroValue3
 t32 := Tryz.underlying123
 a32 := Tryz.isAgg123
 z32 := Tryz.sizeOf123
 v32 := Tryz.zeroValue123
 t35 := Tryz.underlying144
 a35 := Tryz.isAgg144
 z35 := Tryz.sizeOf144
 v35 := Tryz.zeroValue144
 t36 := Tryz.underlying145
 a36 := Tryz.isAgg145
 z36 := Tryz.sizeOf145
 v36 := Tryz.zeroValue145
 t41 := Tryz.underlying61
 a41 := Tryz.isAgg61
 z41 := Tryz.sizeOf61
 v41 := Tryz.zeroValue61
 t44 := Tryz.underlying151
 a44 := Tryz.isAgg151
 z44 := Tryz.sizeOf151
 v44 := Tryz.zeroValue151
 t46 := Tryz.underlying153
 a46 := Tryz.isAgg153
 z46 := Tryz.sizeOf153
 v46 := Tryz.zeroValue153
 t53 := Tryz.underlying167
 a53 := Tryz.isAgg167
 z53 := Tryz.sizeOf167
 v53 := Tryz.zeroValue167
 t57 := Tryz.underlying171
 a57 := Tryz.isAgg171
 z57 := Tryz.sizeOf171
 v57 := Tryz.zeroValue171
 t63 := Tryz.underlying176
 a63 := Tryz.isAgg176
 z63 := Tryz.sizeOf176
 v63 := Tryz.zeroValue176
 t64 := Tryz.underlying177
 a64 := Tryz.isAgg177
 z64 := Tryz.sizeOf177
 v64 := Tryz.zeroValue177 }
theorem Q4 (U:Nat→Value)(e0:Nat)(l:List Int)(hl:l.length≤1099511627776):Mu Tryz.prog 84 [.c (.own 0)] [(0,some (.row (some (U 0)) e0 true 1 f9 l))] 1 [(0,some (.row (some (U 0)) e0 true 1 f9 (G1 l)))] 1 (.tup []):=by
 exact hJ Tryz.sortL U e0 l (by omega)
theorem x4 (U:Nat→Value)(e0:Nat)(l:List Int)(hl:l.length≤4611686018427387904):Mu Tryz.prog 85 [.c (.own 0)] [(0,some (.row (some (U 0)) e0 true 1 f9 l))] 1 [(0,some (.row none e0 true 1 f9 (K8 l)))] 1 (.c (.own 0)):=by
 refine AY Tryz.func85 rfl (Nat.le_of_ble_eq_true rfl) fun w S M=>?_
 refine w9<|rA<|c9<|k9<|w9 ?_
 refine rM ?_
 refine d9 (M7 rfl rfl rfl rfl) ?_
 refine rB<|c9 ?_
 refine j9 rfl (fun h1=>?_) (fun h1=>?_)
 ·
  have h1':=j8 h1
  refine w9<|rM ?_
  refine rA<|c9 ?_
  refine mZ 0 rfl ?_
  refine ER Tryz.func85 (.tmp rfl .nil) ?_ (hL:=⟨E7 ?_,trivial⟩) <;>(try clear ih0) <;>(try clear ih1)
  all_goals first | rfl | ((match l with | []=>rfl | [_]=>rfl | _::_::_=>(exfalso;simp at *;omega)))
 ·
  have h1':=l8 h1
  refine m9<|k9<|w9<|rA<|c9<|r9 ?_
  refine L9 (fun m=>⟨[(0,some (.c (.own 0))),(3,some (.c (.t none (.v (.int .i64 ((m:Int)))))))],[(0,some (.row (some (U 0)) e0 true 1 f9 l))],1⟩:Nat→St) (fun m=>1≤m∧m≤l.length∧K8 (l.take m)=l.take m) (fun m=>l.length - m) 1 ⟨⟨rfl,⟨(i6 rfl),trivial⟩⟩,⟨rfl,trivial⟩,rfl⟩ (by exact⟨Nat.le_refl _,by omega,by(rcases l with _ | ⟨x,l⟩ <;> simp [K8])⟩) ?_
  rintro m hI ih0
  try dsimp only at hI ih0
  obtain⟨i1,i2,i3⟩:=hI
  refine k9<|w9<|rM ?_
  refine rM ?_
  refine d9 (M7 rfl rfl rfl rfl) ?_
  refine rB<|c9 ?_
  refine j9 rfl (fun h2=>?_) (fun h2=>?_)
  ·
   have h2':=j8 h2
   refine m9<|k9<|r9<|k9 ?_
   refine tY ?_
   refine dT 0 rfl pM ?_
   refine dT 1 rfl pM ?_
   obtain⟨z3,hz4,b5⟩:=t9 (xs:=l) (n:=(m:Int)) (by omega) (by omega)
   refine dT 2 rfl (T9 (by kernel_rfl) rfl rfl rfl b5 (f8 b5 hz4)) ?_
   refine dT 3 rfl (E8 (by kernel_rfl) rfl rfl rfl hz4) ?_
   refine dT 4 rfl pM ?_
   refine dT 5 rfl pM ?_
   refine dT 6 rfl pB ?_
   obtain⟨z6,hz7,b8⟩:=t9 (xs:=l) (n:=IntKind.i64.wrap ((m:Int) - 1)) (by(simp only [IntKind.wrap_i64];omega)) (by(simp only [IntKind.wrap_i64];omega))
   refine dT 7 rfl (T9 (by kernel_rfl) rfl rfl rfl b8 (f8 b8 hz7)) ?_
   refine dT 8 rfl (E8 (by kernel_rfl) rfl rfl rfl hz7) ?_
   refine dT 9 rfl pB ?_
   refine dE ?_
   refine j9 rfl (fun h9=>?_) (fun h9=>?_)
   ·
    have h9':=j8 h9
    refine w9<|rM ?_
    refine rM ?_
    refine d9 (iU rfl (by kernel_rfl) rfl rfl rfl (by omega) (by omega)) ?_
    refine rA<|c9<|k9<|w9 ?_
    refine rA<|c9<|r9 ?_
    refine L9 (fun(j,k,q)=>⟨[(0,some (.c (.own 0))),(3,some (.c (.t none (.v (.int .i64 ((k:Int))))))),(4,some (.c (.vw 0 (((m:Int)).toNat) ((l.length - ((m:Int)).toNat)) 1))),(5,some (.c (.t none (.v (.int .i64 ((j:Int)))))))],[(0,some (.row (some (U 0)) e0 true 1 f9 q))],1⟩:Nat × Nat × List Int→St) (fun(j,k,q)=>1≤j∧YP l q k (m + j)) (fun(j,k,q)=>l.length - j) (1,m,l) ⟨⟨rfl,⟨rfl,⟨rfl,⟨(i6 rfl),trivial⟩⟩⟩⟩,⟨rfl,trivial⟩,rfl⟩ (by exact⟨Nat.le_refl _,GP i3 (by assumption) (by assumption) (by simp only [IntKind.wrap_i64];omega) i1 (by omega)⟩) ?_
    rintro⟨j,k,q⟩ hI ih1
    try dsimp only at hI ih1
    obtain⟨j0,j1⟩:=hI;have j2:=j1.1;have j3:=j1.2.1;have j4:=j1.2.2.1
    refine k9<|w9<|rM ?_
    refine rM ?_
    refine d9 (XK rfl rfl rfl) ?_
    refine rB<|c9 ?_
    refine j9 rfl (fun h10=>?_) (fun h10=>?_)
    ·
     have h10':=j8 h10
     refine m9<|k9<|r9<|k9 ?_
     refine tY ?_
     refine dT 0 rfl pM ?_
     refine dT 1 rfl pM ?_
     obtain⟨z11,hz12⟩:=CR (xs:=q) (n:=(((m:Int)).toNat +((j:Int)).toNat)) (by omega)
     refine dT 2 rfl (DY (by kernel_rfl) rfl rfl (by omega) (by omega)) ?_
     refine dT 3 rfl (E8 (by kernel_rfl) rfl rfl rfl hz12) ?_
     refine dT 4 rfl pM ?_
     refine dT 5 rfl pM ?_
     refine dT 6 rfl pB ?_
     obtain⟨z14,hz15⟩:=CR (xs:=q) (n:=(((m:Int)).toNat +(IntKind.i64.wrap ((j:Int) - 1)).toNat)) (by(simp only [IntKind.wrap_i64];omega))
     refine dT 7 rfl (DY (by kernel_rfl) rfl rfl (by(simp only [IntKind.wrap_i64];omega)) (by(simp only [IntKind.wrap_i64];omega))) ?_
     refine dT 8 rfl (E8 (by kernel_rfl) rfl rfl rfl hz15) ?_
     refine dT 9 rfl pB ?_
     refine dE ?_
     refine j9 rfl (fun h17=>?_) (fun h17=>?_)
     ·
      have h17':=j8 h17
      refine w9<|rM ?_
      refine rM ?_
      refine rM ?_
      refine rM ?_
      refine d9 (eQ rfl (by kernel_rfl) rfl rfl (by omega) (by omega)) ?_
      refine d9 (p8 rfl (by kernel_rfl) rfl rfl rfl hz12) ?_
      obtain⟨z18,hz19,b20⟩:=t9 (xs:=q) (n:=(k:Int)) (by omega) (by omega)
      refine d9 (t8 rfl (by kernel_rfl) rfl rfl rfl b20 (f8 b20 hz19)) ?_
      refine d9 (D8 z11 (n:=1) (by kernel_rfl) rfl rfl hz19 rfl rfl rfl rfl (.cons .sc .nil) rfl (fun j h1 h2=>by(simp at h1 h2;omega))) ?_
      refine dJ<|rM ?_
      refine rB ?_
      refine rA<|c9<|i9<|l9 ?_
      refine rM ?_
      refine rB ?_
      refine rA<|c9 ?_
      refine n8 ?_ (ih1 (j + 1,k + 1,q.set ((k:Int)).toNat z11) (by(try dsimp only);omega) (by(try dsimp only);exact⟨by omega,kM (j:=m + j) (n:=((m:Int)).toNat +(IntKind.i64.wrap ((j:Int) - 1)).toNat) j1 (by assumption) (by assumption) (by simp only [IntKind.wrap_i64];omega) (by omega)⟩))
      exact⟨⟨rfl,⟨(i6 (s8 (by omega) (by omega))),⟨rfl,⟨(i6 (s8 (by omega) (by omega))),trivial⟩⟩⟩⟩,⟨rfl,trivial⟩,rfl⟩
     ·
      have h17':=l8 h17
      refine m9<|i9<|l9<|rM ?_
      refine rB ?_
      refine rA<|c9 ?_
      refine n8 ?_ (ih1 (j + 1,k,q) (by(try dsimp only);omega) (by(try dsimp only);exact⟨by omega,oM (j:=m + j) (n:=((m:Int)).toNat +(IntKind.i64.wrap ((j:Int) - 1)).toNat) j1 (by assumption) (by assumption) (by simp only [IntKind.wrap_i64];omega) (by omega)⟩))
      exact⟨⟨rfl,⟨rfl,⟨rfl,⟨(i6 (s8 (by omega) (by omega))),trivial⟩⟩⟩⟩,⟨rfl,trivial⟩,rfl⟩
    ·
     have h10':=l8 h10
     refine R9 rfl<|w9<|rM ?_
     refine rM ?_
     refine d9 (iU rfl (by kernel_rfl) rfl rfl rfl (by omega) (by omega)) ?_
     refine d9 (YM 0 rfl rfl Tryz.underlying31 (by kernel_rfl) rfl (.v rfl) (by omega) (by omega)) ?_
     refine o7<|rM ?_
     refine rM ?_
     refine d9 (rO rfl (by kernel_rfl) rfl rfl rfl (by omega) (by(simp only [List.length_append,List.length_take,List.length_replicate,List.length_drop];omega)) (by(simp only [List.length_append,List.length_take,List.length_replicate,List.length_drop];omega))) ?_
     refine rA<|c9 ?_
     refine zN 2 0 rfl rfl (by(simp only [List.length_append,List.length_take,List.length_replicate,List.length_drop];omega)) (by(simp only [List.length_append,List.length_take,List.length_replicate,List.length_drop];omega)) ?_
     refine ER Tryz.func85 (.tmp rfl .nil) ?_ (hL:=⟨E7 ?_,trivial⟩) <;>(try clear ih0) <;>(try clear ih1)
     all_goals first | rfl | (rw [List.append_assoc];exact TL j1 (by omega))
   ·
    have h9':=l8 h9
    refine m9<|i9<|l9<|rM ?_
    refine rB ?_
    refine rA<|c9 ?_
    refine n8 ?_ (ih0 (m + 1) (by(try dsimp only);omega) (by(try dsimp only);exact⟨by omega,by omega,NN i3 (by assumption) (by assumption) (by simp only [IntKind.wrap_i64];omega) i1 (by omega)⟩))
    exact⟨⟨rfl,⟨(i6 (s8 (by omega) (by omega))),trivial⟩⟩,⟨rfl,trivial⟩,rfl⟩
  ·
   have h2':=l8 h2
   refine R9 rfl<|w9<|rM ?_
   refine rA<|c9 ?_
   refine mZ 0 rfl ?_
   refine ER Tryz.func85 (.tmp rfl .nil) ?_ (hL:=⟨E7 ?_,trivial⟩) <;>(try clear ih0) <;>(try clear ih1)
   all_goals first | rfl | (rw [List.take_of_length_le (by omega)] at i3;exact i3.symm)
theorem wY (l:List Int)(hl:l.length≤1048576)(ho:∀x∈l,s7 x):Pu Tryz.prog 40 [.c (.t none (.sl 1 f9 l))] [(0,some (.row none 3 true 1 f9 (G9 (m8 l))))] 1 (.c (.own 0)):=by
 refine u6 Tryz.func40 fun w S=>?_
 refine w9<|rA<|o7 ?_
 refine d9 (C7 0 (e:=3) (sz:=1) (zs:=[.int .i64 0]) f9 rfl rfl (by kernel_rfl) rfl) ?_
 refine rA<|c9<|k9<|w9 ?_
 refine rM ?_
 refine d9 (S9 rfl rfl rfl) ?_
 refine rM<|c9<|r9 ?_
 refine L9 (fun m=>⟨[(2,some (.c (.t none (.v (.slice none 0 0))))),(3,some (.c (.own 0))),(9,some (.c (.t none (.sl 1 f9 l)))),(10,some (.c (.t none (.v (.int .i64 ((l.length:Int))))))),(11,some (.c (.t none (.v (.int .i64 ((m:Int)))))))],[(0,some (.row none 3 true 1 f9 (m8 (l.take m))))],1⟩:Nat→St) (fun m=>m≤l.length) (fun m=>l.length - m) 0 ⟨⟨rfl,⟨rfl,⟨rfl,⟨rfl,⟨rfl,trivial⟩⟩⟩⟩⟩,⟨rfl,trivial⟩,rfl⟩ (by exact Nat.zero_le _) ?_
 rintro m hI ih0
 try dsimp only at hI ih0
 have i1:=hI;have q2:=XT l m
 refine w9<|rB<|c9<|k9 ?_
 refine j9 rfl (fun h1=>?_) (fun h1=>?_)
 ·
  have h1':=j8 h1
  refine m9<|k9<|r9<|w9 ?_
  obtain⟨z2,hz3,b4⟩:=t9 (xs:=l) (n:=(m:Int)) (by omega) (by omega)
  refine d9 (P9 rfl (by kernel_rfl) rfl rfl b4 hz3) ?_
  refine d9 (c8 rfl (by kernel_rfl) rfl rfl) ?_
  refine rA<|o7 ?_
  refine rM ?_
  refine d9 (n9 1 1 false (N9 Tryz.func64) (f5 z2 (by exact(ho _ (J8 (by assumption))).1) (by exact(ho _ (J8 (by assumption))).2)) rfl (.cons rfl (.c .t0) .nil) rfl rfl rfl) ?_
  refine rM ?_
  refine d9 (O9 rfl rfl rfl rfl) ?_
  refine d9 (O9 rfl rfl rfl rfl) ?_
  refine rA ?_
  refine rA<|o7 ?_
  refine rM<|c9 ?_
  refine j9 rfl (fun h5=>?_) (fun h5=>?_)
  ·
   have h5':=j8 h5
   refine l9<|rM ?_
   refine rM ?_
   refine d9 (G8 1 (e:=3) (sz:=1) (zs:=[.int .i64 0]) rfl rfl (by kernel_rfl) rfl rfl rfl rfl rfl) ?_
   refine d9 (i8 0 (e:=3) (sz:=1) (by':=8) (if -40≤z2∧z2≤ -1 then -1 - z2 else 0) rfl (by kernel_rfl) rfl rfl rfl rfl rfl rfl (.cons .sc .nil) rfl (by omega) (by omega)) ?_
   refine rA<|c9<|i9<|l9 ?_
   refine rB ?_
   refine rM<|c9 ?_
   refine n8 ?_ (ih0 (m + 1) (by(try dsimp only);omega) (by(try dsimp only);omega))
   exact⟨⟨rfl,⟨rfl,⟨rfl,⟨rfl,⟨(i6 (s8 (by omega) (by omega))),trivial⟩⟩⟩⟩⟩,⟨(E7 (by(rw [sS (by assumption) (by assumption)];done))),trivial⟩,rfl⟩
  ·
   have h5':=l8 h5
   refine m9<|i9<|l9<|rB ?_
   refine rM<|c9 ?_
   refine n8 ?_ (ih0 (m + 1) (by(try dsimp only);omega) (by(try dsimp only);omega))
   exact⟨⟨rfl,⟨rfl,⟨rfl,⟨rfl,⟨(i6 (s8 (by omega) (by omega))),trivial⟩⟩⟩⟩⟩,⟨(E7 (by(rw [dS (by assumption) (by assumption)];done))),trivial⟩,rfl⟩
 ·
  have h1':=l8 h1
  refine R9 rfl<|w9<|rM ?_
  refine d9 (jR [⟨0,none,3,1,_,f9,m8 (l.take m),G1 (m8 (l.take m))⟩] (N9 Tryz.func84) (fun U=>Q4 U 3 (m8 (l.take m)) (by omega)) rfl ⟨rfl,trivial⟩ rfl rfl (.cons rfl (.own rfl) .nil) rfl) ?_
  refine o7<|rM ?_
  refine d9 (kX 0 (l':=K8 (G1 (m8 (l.take m)))) (N9 Tryz.func85) (fun U=>x4 U 3 (G1 (m8 (l.take m))) (by(rw [lX];omega))) rfl rfl (.cons rfl (.own rfl) .nil)) ?_
  refine rA<|c9 ?_
  refine tk Tryz.func40 (.tmp rfl .nil) ?_ (hL:=⟨E7 ?_,trivial⟩) <;>(try clear ih0)
  all_goals first | rfl | ((rw [jP (by omega),MW]))
theorem A0 (r:Int)(l:List Int)(hl:l.length≤1048576)(ho:∀x∈l,s7 x):Pu Tryz.prog 45 [.agg [.t none (.v (.int .i64 r)),.t none (.sl 1 f9 l)]] [(1,some (.row none 3 true 1 f9 (G9 (m8 l))))] 2 (.c (.own 1)):=by
 refine u6 Tryz.func45 fun w S=>?_
 refine w9 ?_
 refine d9 (X9 0 rfl rfl rfl rfl) ?_
 refine rA<|o7 ?_
 refine rF 1 ?_
 refine rL ?_
 refine d9 (n9 1 2 false (N9 Tryz.func40) (wY l (by omega) (by omega)) rfl (.cons rfl (.c .t0) .nil) rfl rfl rfl) ?_
 refine rA<|c9 ?_
 refine tk Tryz.func45 (.tmp rfl .nil) ?_ (hL:=⟨E7 ?_,trivial⟩)
 all_goals rfl
theorem f7 (rs:V9)(l:p9)(hrs:rs.length≤4611686018427387904)(hl:l7 (fun(x:Int ×(List Int))=>x.2.length) l≤1048576)(ho:∀z∈l,∀x∈z.2,s7 x):Pu Tryz.prog 12 [.agg [.t none (.sl 3 (d8 Z9 f9 a8) rs),.t none (.sl 2 (E9 f9 (B9 1 f9)) l)]] [] 0 (.c (.t none (.v (.bool (M8 rs l))))):=by
 refine u6 Tryz.func12 fun w S=>?_
 have gl:=L8 (f:=(fun(x:Int ×(List Int))=>x.2.length)) (l:=l)
 refine w9 ?_
 refine d9 (X9 0 rfl rfl rfl rfl) ?_
 refine rA<|c9<|k9<|w9 ?_
 refine rF 0 ?_
 refine rL ?_
 refine d9 (n9 1 1 false (N9 Tryz.func42) (j5 rs (by omega)) rfl (.cons rfl (.c .t0) .nil) rfl rfl rfl) ?_
 refine d9 (Q8 rfl rfl) ?_
 refine rM ?_
 refine x9 (fun g1=>?_) (fun g1=>?_)
 ·
  have g1':=(O4 g1)
  refine rF 1 ?_
  refine x9 (fun _=>?_) (C9 g1)
  refine rL ?_
  refine x9 (fun _=>?_) (C9 g1)
  refine d9 (S9 rfl rfl rfl) ?_
  refine x9 (fun _=>?_) (C9 g1)
  refine rB ?_
  refine d9 (H9 rfl rfl g1 rfl) ?_
  refine c9 ?_
  refine j9 rfl (fun h2=>?_) (fun h2=>?_)
  ·
   have h2':=j8 h2
   refine w9<|rA<|c9 ?_
   refine tk Tryz.func12 (.tmp rfl .nil) ?_ <;>(try clear ih0)
   all_goals(refine N7 ?_;(rw [WT (by clear hl gl ho hrs;grind)];done))
  ·
   have h2':=l8 h2
   refine m9<|k9<|w9<|rF 1 ?_
   refine rL ?_
   refine d9 (S9 rfl rfl rfl) ?_
   refine rM<|c9<|r9 ?_
   refine L9 (fun m=>⟨[(1,some (.c (.ptr 0 0))),(16,some (.c (.t none (.sl 2 (E9 f9 (B9 1 f9)) l)))),(17,some (.c (.t none (.v (.int .i64 ((l.length:Int))))))),(18,some (.c (.t none (.v (.int .i64 ((m:Int)))))))],[(0,some (.box [.t none (.sl 3 (d8 Z9 f9 a8) rs),.t none (.sl 2 (E9 f9 (B9 1 f9)) l)]))],1⟩:Nat→St) (fun m=>m≤l.length∧∀j,j < m→S4 rs l j=true) (fun m=>l.length - m) 0 ⟨⟨rfl,⟨rfl,⟨rfl,⟨rfl,trivial⟩⟩⟩⟩,⟨rfl,trivial⟩,rfl⟩ (by exact⟨Nat.zero_le _,fun j h=>by omega⟩) ?_
   rintro m hI ih0
   try dsimp only at hI ih0
   obtain⟨i1,i2⟩:=hI
   refine w9<|rB<|c9<|k9 ?_
   refine j9 rfl (fun h3=>?_) (fun h3=>?_)
   ·
    have h3':=j8 h3
    refine m9<|k9<|r9<|w9<|rM ?_
    obtain⟨z4,hz5,b6⟩:=t9 (xs:=l) (n:=(m:Int)) (by omega) (by omega)
    refine d9 (P9 rfl (by kernel_rfl) rfl rfl b6 hz5) ?_
    refine d9 (A6 rfl (n:=2) (by kernel_rfl) (by kernel_rfl) rfl rfl) ?_
    refine d9 (I9 1 (zs:=[.int .i64 0,.slice none 0 0]) rfl rfl (by kernel_rfl) rfl) ?_
    refine rA ?_
    refine rS 2<|c9<|k9<|k9 ?_
    refine tY ?_
    refine dT 0 rfl (pF 0) ?_
    refine dT 1 rfl pL ?_
    refine dT 2 rfl (pC 2) ?_
    refine dO 3 rfl (n9 2 2 false (N9 Tryz.func43) (eW rs z4.1 z4.2 (by omega) (by(have e1:=j6 (f:=(fun(x:Int ×(List Int))=>x.2.length)) (l:=l) (m:=m) (by assumption);(try dsimp only at e1);omega)) (by exact ho _ (J8 (by assumption)))) rfl (.cons rfl (.c .t0) (.cons rfl (.agg (.cons .t0 (.cons .t0 .nil))) .nil)) rfl rfl rfl) ?_
    refine dT 4 rfl (T3 rfl) ?_
    refine dT 5 rfl pM ?_
    refine dH 6 rfl (fun _=>pM) (fun g7=>?_) (fun g7=>?_)
    ·
     have g7':=(O4 g7)
     refine dH 7 rfl (fun _=>pB) (fun _=>?_) (C9 g7)
     refine dH 8 rfl (fun _=>pM) (fun _=>?_) (C9 g7)
     refine dH 9 rfl (fun _=>pF 1) (fun g8=>?_) (fun g8=>?_)
     ·
      have g8':=j8 g8
      refine dH 10 rfl (fun _=>pL) (fun _=>?_) (nc g8)
      refine dH 11 rfl (fun _=>pM) (fun _=>?_) (nc g8)
      refine dH 12 rfl (fun _=>pB) (fun _=>?_) (nc g8)
      obtain⟨z9,hz10,b11⟩:=t9 (xs:=l) (n:=IntKind.i64.wrap ((m:Int) - 1)) (by(simp only [IntKind.wrap_i64] at *;omega)) (by(simp only [IntKind.wrap_i64] at *;omega))
      refine dH 13 rfl (fun _=>w8 (by kernel_rfl) rfl rfl b11 hz10) (fun _=>?_) (nc g8)
      refine dH 14 rfl (fun _=>p6 (n:=2) (by kernel_rfl) (by kernel_rfl) rfl rfl) (fun _=>?_) (nc g8)
      refine dH 15 rfl (fun _=>pC 2) (fun _=>?_) (nc g8)
      refine s6 16 rfl rfl (by kernel_rfl) rfl rfl rfl (fun _=>(n9 2 2 false (N9 Tryz.func44) (E1 z9.1 z9.2 z4.1 z4.2 (by(have e1:=j6 (f:=(fun(x:Int ×(List Int))=>x.2.length)) (l:=l) (m:=(IntKind.i64.wrap ((m:Int) - 1)).toNat) (by assumption);(try dsimp only at e1);omega)) (by(have e1:=j6 (f:=(fun(x:Int ×(List Int))=>x.2.length)) (l:=l) (m:=m) (by assumption);(try dsimp only at e1);omega))) rfl (.cons rfl (.agg (.cons .t0 (.cons .t0 .nil))) (.cons rfl (.agg (.cons .t0 (.cons .t0 .nil))) .nil)) rfl rfl rfl)) (fun _=>?_) (nc g8)
      refine dH 17 rfl (fun _=>pB) (fun _=>?_) (nc g8)
      refine dH 18 rfl (fun _=>H8 rfl g8 rfl) (fun _=>?_) (C9 g7)
      refine dT 19 rfl (o8 rfl g7 rfl) ?_
      refine dE ?_
      refine j9 rfl (fun h12=>?_) (fun h12=>?_)
      ·
       have h12':=j8 h12
       refine w9<|rA<|c9 ?_
       refine tk Tryz.func12 (.tmp rfl .nil) ?_ <;>(try clear ih0)
       all_goals(refine N7 ?_;(rw [B4 (rs:=rs) (l:=l) (m:=m) (by omega) (by(try(have qb:=U8 (rs:=rs) (l:=l) (m:=m) hz5 (by assumption)));(try(have qz:=N8 (rs:=rs) (l:=l) (m:=m) hz5 (by omega)));(try(have qp:=V8 (rs:=rs) (l:=l) (m:=m) hz5 (by omega) hz10 (by simp only [IntKind.wrap_i64];omega)));(try(have qS:=B8 (rs:=rs) (r:=z4.1) (ts:=z4.2) hz10));(try(have qT:=B8 (rs:=rs) (r:=z4.1) (ts:=z4.2) (by assumption)));clear hl gl ho hrs;grind)];done))
      ·
       have h12':=l8 h12
       refine m9<|w9<|rF 0 ?_
       refine rL ?_
       refine rF 0 ?_
       refine rL ?_
       obtain⟨z13,hz14,b15⟩:=t9 (xs:=rs) (n:=z4.1) (by exact(V2 (by assumption)).1) (by exact(V2 (by assumption)).2)
       refine d9 (P9 rfl (by kernel_rfl) rfl rfl b15 hz14) ?_
       refine d9 (K1 rfl (off:=2) (by kernel_rfl) rfl) ?_
       refine d9 (c8 rfl (by kernel_rfl) rfl rfl) ?_
       refine rM ?_
       refine x9 (fun g16=>?_) (fun g16=>?_)
       ·
        have g16':=g16
        refine rC 2 ?_
        refine x9 (fun _=>?_) (nc g16)
        refine d9 (n9 2 4 false (N9 Tryz.func45) (A0 z4.1 z4.2 (by(have e1:=j6 (f:=(fun(x:Int ×(List Int))=>x.2.length)) (l:=l) (m:=m) (by assumption);(try dsimp only at e1);omega)) (by exact ho _ (J8 (by assumption)))) rfl (.cons rfl (.agg (.cons .t0 (.cons .t0 .nil))) .nil) rfl rfl rfl) ?_
        refine x9 (fun _=>?_) (nc g16)
        refine d9 (M7 rfl rfl rfl rfl) ?_
        refine x9 (fun _=>?_) (nc g16)
        refine rB ?_
        refine d9 (M9 rfl rfl g16 rfl) ?_
        refine c9 ?_
        refine j9 rfl (fun h17=>?_) (fun h17=>?_)
        ·
         have h17':=j8 h17
         refine w9<|rA<|c9 ?_
         refine tk Tryz.func12 (.tmp rfl .nil) ?_ <;>(try clear ih0)
         all_goals(refine N7 ?_;(rw [B4 (rs:=rs) (l:=l) (m:=m) (by omega) (by(try(have qb:=U8 (rs:=rs) (l:=l) (m:=m) hz5 (by assumption)));(try(have qz:=N8 (rs:=rs) (l:=l) (m:=m) hz5 (by omega)));(try(have qp:=V8 (rs:=rs) (l:=l) (m:=m) hz5 (by omega) hz10 (by simp only [IntKind.wrap_i64];omega)));(try(have qS:=B8 (rs:=rs) (r:=z4.1) (ts:=z4.2) hz10));(try(have qT:=B8 (rs:=rs) (r:=z4.1) (ts:=z4.2) hz14));clear hl gl ho hrs;grind)];done))
        ·
         have h17':=l8 h17
         refine m9<|i9<|l9<|rB ?_
         refine rM<|c9 ?_
         refine n8 ?_ (ih0 (m + 1) (by(try dsimp only);omega) (by(try dsimp only);exact⟨by omega,d6 i2 (by(try(have qb:=U8 (rs:=rs) (l:=l) (m:=m) hz5 (by assumption)));(try(have qz:=N8 (rs:=rs) (l:=l) (m:=m) hz5 (by omega)));(try(have qp:=V8 (rs:=rs) (l:=l) (m:=m) hz5 (by omega) hz10 (by simp only [IntKind.wrap_i64];omega)));(try(have qS:=B8 (rs:=rs) (r:=z4.1) (ts:=z4.2) hz10));(try(have qT:=B8 (rs:=rs) (r:=z4.1) (ts:=z4.2) hz14));clear hl gl ho hrs;grind)⟩))
         exact⟨⟨rfl,⟨rfl,⟨rfl,⟨(i6 (s8 (by omega) (by omega))),trivial⟩⟩⟩⟩,⟨rfl,trivial⟩,rfl⟩
       ·
        have g16':=g16
        refine x9 (C9 g16) (fun _=>?_)
        refine x9 (C9 g16) (fun _=>?_)
        refine x9 (C9 g16) (fun _=>?_)
        refine d9 (H9 rfl rfl g16 rfl) ?_
        refine c9 ?_
        refine j9 rfl (C9 rfl) (fun _=>?_)
        refine m9<|i9<|l9<|rB ?_
        refine rM<|c9 ?_
        refine n8 ?_ (ih0 (m + 1) (by(try dsimp only);omega) (by(try dsimp only);exact⟨by omega,d6 i2 (by(try(have qb:=U8 (rs:=rs) (l:=l) (m:=m) hz5 (by assumption)));(try(have qz:=N8 (rs:=rs) (l:=l) (m:=m) hz5 (by omega)));(try(have qp:=V8 (rs:=rs) (l:=l) (m:=m) hz5 (by omega) hz10 (by simp only [IntKind.wrap_i64];omega)));(try(have qS:=B8 (rs:=rs) (r:=z4.1) (ts:=z4.2) hz10));(try(have qT:=B8 (rs:=rs) (r:=z4.1) (ts:=z4.2) hz14));clear hl gl ho hrs;grind)⟩))
        exact⟨⟨rfl,⟨rfl,⟨rfl,⟨(i6 (s8 (by omega) (by omega))),trivial⟩⟩⟩⟩,⟨rfl,trivial⟩,rfl⟩
     ·
      have g8':=l8 g8
      refine dG 10 (C9 g8) (fun _=>?_)
      refine dG 11 (C9 g8) (fun _=>?_)
      refine dG 12 (C9 g8) (fun _=>?_)
      refine dG 13 (C9 g8) (fun _=>?_)
      refine dG 14 (C9 g8) (fun _=>?_)
      refine dG 15 (C9 g8) (fun _=>?_)
      refine dG 16 (C9 g8) (fun _=>?_)
      refine dG 17 (C9 g8) (fun _=>?_)
      refine dH 18 rfl (fun _=>o8 rfl g8 rfl) (fun _=>?_) (C9 g7)
      refine dT 19 rfl (o8 rfl g7 rfl) ?_
      refine dE ?_
      refine j9 rfl (C9 rfl) (fun _=>?_)
      refine m9<|w9<|rF 0 ?_
      refine rL ?_
      refine rF 0 ?_
      refine rL ?_
      obtain⟨z18,hz19,b20⟩:=t9 (xs:=rs) (n:=z4.1) (by exact(V2 (by assumption)).1) (by exact(V2 (by assumption)).2)
      refine d9 (P9 rfl (by kernel_rfl) rfl rfl b20 hz19) ?_
      refine d9 (K1 rfl (off:=2) (by kernel_rfl) rfl) ?_
      refine d9 (c8 rfl (by kernel_rfl) rfl rfl) ?_
      refine rM ?_
      refine x9 (fun g21=>?_) (fun g21=>?_)
      ·
       have g21':=g21
       refine rC 2 ?_
       refine x9 (fun _=>?_) (nc g21)
       refine d9 (n9 2 4 false (N9 Tryz.func45) (A0 z4.1 z4.2 (by(have e1:=j6 (f:=(fun(x:Int ×(List Int))=>x.2.length)) (l:=l) (m:=m) (by assumption);(try dsimp only at e1);omega)) (by exact ho _ (J8 (by assumption)))) rfl (.cons rfl (.agg (.cons .t0 (.cons .t0 .nil))) .nil) rfl rfl rfl) ?_
       refine x9 (fun _=>?_) (nc g21)
       refine d9 (M7 rfl rfl rfl rfl) ?_
       refine x9 (fun _=>?_) (nc g21)
       refine rB ?_
       refine d9 (M9 rfl rfl g21 rfl) ?_
       refine c9 ?_
       refine j9 rfl (fun h22=>?_) (fun h22=>?_)
       ·
        have h22':=j8 h22
        refine w9<|rA<|c9 ?_
        refine tk Tryz.func12 (.tmp rfl .nil) ?_ <;>(try clear ih0)
        all_goals(refine N7 ?_;(rw [B4 (rs:=rs) (l:=l) (m:=m) (by omega) (by(try(have qb:=U8 (rs:=rs) (l:=l) (m:=m) hz5 (by assumption)));(try(have qz:=N8 (rs:=rs) (l:=l) (m:=m) hz5 (by omega)));(try(have qp:=V8 (rs:=rs) (l:=l) (m:=m) hz5 (by omega) hz19 (by simp only [IntKind.wrap_i64];omega)));(try(have qS:=B8 (rs:=rs) (r:=z4.1) (ts:=z4.2) hz19));(try(have qT:=B8 (rs:=rs) (r:=z4.1) (ts:=z4.2) (by assumption)));clear hl gl ho hrs;grind)];done))
       ·
        have h22':=l8 h22
        refine m9<|i9<|l9<|rB ?_
        refine rM<|c9 ?_
        refine n8 ?_ (ih0 (m + 1) (by(try dsimp only);omega) (by(try dsimp only);exact⟨by omega,d6 i2 (by(try(have qb:=U8 (rs:=rs) (l:=l) (m:=m) hz5 (by assumption)));(try(have qz:=N8 (rs:=rs) (l:=l) (m:=m) hz5 (by omega)));(try(have qp:=V8 (rs:=rs) (l:=l) (m:=m) hz5 (by omega) hz19 (by simp only [IntKind.wrap_i64];omega)));(try(have qS:=B8 (rs:=rs) (r:=z4.1) (ts:=z4.2) hz19));(try(have qT:=B8 (rs:=rs) (r:=z4.1) (ts:=z4.2) (by assumption)));clear hl gl ho hrs;grind)⟩))
        exact⟨⟨rfl,⟨rfl,⟨rfl,⟨(i6 (s8 (by omega) (by omega))),trivial⟩⟩⟩⟩,⟨rfl,trivial⟩,rfl⟩
      ·
       have g21':=g21
       refine x9 (C9 g21) (fun _=>?_)
       refine x9 (C9 g21) (fun _=>?_)
       refine x9 (C9 g21) (fun _=>?_)
       refine d9 (H9 rfl rfl g21 rfl) ?_
       refine c9 ?_
       refine j9 rfl (C9 rfl) (fun _=>?_)
       refine m9<|i9<|l9<|rB ?_
       refine rM<|c9 ?_
       refine n8 ?_ (ih0 (m + 1) (by(try dsimp only);omega) (by(try dsimp only);exact⟨by omega,d6 i2 (by(try(have qb:=U8 (rs:=rs) (l:=l) (m:=m) hz5 (by assumption)));(try(have qz:=N8 (rs:=rs) (l:=l) (m:=m) hz5 (by omega)));(try(have qp:=V8 (rs:=rs) (l:=l) (m:=m) hz5 (by omega) hz19 (by simp only [IntKind.wrap_i64];omega)));(try(have qS:=B8 (rs:=rs) (r:=z4.1) (ts:=z4.2) hz19));(try(have qT:=B8 (rs:=rs) (r:=z4.1) (ts:=z4.2) (by assumption)));clear hl gl ho hrs;grind)⟩))
       exact⟨⟨rfl,⟨rfl,⟨rfl,⟨(i6 (s8 (by omega) (by omega))),trivial⟩⟩⟩⟩,⟨rfl,trivial⟩,rfl⟩
    ·
     have g7':=(P4 g7)
     refine dG 7 (nc g7) (fun _=>?_)
     refine dG 8 (nc g7) (fun _=>?_)
     refine dK 9 ?_
     refine dK 10 ?_
     refine dK 11 ?_
     refine dK 12 ?_
     refine dK 13 ?_
     refine dK 14 ?_
     refine dK 15 ?_
     refine dK 16 ?_
     refine dK 17 ?_
     refine dG 18 (nc g7) (fun _=>?_)
     refine dT 19 rfl (H8 rfl g7 rfl) ?_
     refine dE ?_
     refine j9 rfl (fun _=>?_) (nc rfl)
     refine w9<|rA<|c9 ?_
     refine tk Tryz.func12 (.tmp rfl .nil) ?_ <;>(try clear ih0)
     all_goals(refine N7 ?_;(rw [B4 (rs:=rs) (l:=l) (m:=m) (by omega) (by(try(have qb:=U8 (rs:=rs) (l:=l) (m:=m) hz5 (by assumption)));(try(have qz:=N8 (rs:=rs) (l:=l) (m:=m) hz5 (by omega)));(try(have qp:=V8 (rs:=rs) (l:=l) (m:=m) hz5 (by omega) (by assumption) (by simp only [IntKind.wrap_i64];omega)));(try(have qS:=B8 (rs:=rs) (r:=z4.1) (ts:=z4.2) (by assumption)));(try(have qT:=B8 (rs:=rs) (r:=z4.1) (ts:=z4.2) (by assumption)));clear hl gl ho hrs;grind)];done))
   ·
    have h3':=l8 h3
    refine R9 rfl<|w9<|rA<|c9 ?_
    refine tk Tryz.func12 (.tmp rfl .nil) ?_ <;>(try clear ih0)
    all_goals(refine N7 ?_;(rw [RZ (m:=m) i2 (by omega)];clear hl gl ho hrs;grind))
 ·
  have g1':=(P4 g1)
  refine x9 (nc g1) (fun _=>?_)
  refine x9 (nc g1) (fun _=>?_)
  refine x9 (nc g1) (fun _=>?_)
  refine d9 (M9 rfl rfl g1 rfl) ?_
  refine c9 ?_
  refine j9 rfl (fun _=>?_) (nc rfl)
  refine w9<|rA<|c9 ?_
  refine tk Tryz.func12 (.tmp rfl .nil) ?_ <;>(try clear ih0)
  all_goals(refine N7 ?_;(rw [WT (by clear hl gl ho hrs;grind)];done))
theorem SY (t:Int):Pu Tryz.prog 174 [.c (.t none (.v (.int .i64 t)))] [] 0 (.c (.t none (.v (.bool (!(X4 t)))))):=by
 refine u6 Tryz.func174 fun w S=>?_
 refine w9<|rA<|o7 ?_
 refine rM ?_
 refine d9 (n9 0 0 false (N9 Tryz.func88) (L6 t (-10) 4) rfl (.cons rfl (.c .t0) (.cons rfl (.c .t0) (.cons rfl (.c .t0) .nil))) rfl rfl rfl) ?_
 refine d9 (Q8 rfl rfl) ?_
 refine rA<|c9 ?_
 refine tk Tryz.func174 (.tmp rfl .nil) ?_
 all_goals rfl
theorem KX (rs:List (List UInt8 × Int × Bool))(r:Int)(ts:List Int)(hrs:rs.length≤4611686018427387904)(hts:ts.length≤4611686018427387904):Pu Tryz.prog 160 [.c (.t none (.sl 3 (d8 Z9 f9 a8) rs)),.agg [.t none (.v (.int .i64 r)),.t none (.sl 1 f9 ts)]] [] 0 (.c (.t none (.v (.bool (F5 rs r ts))))):=by
 refine u6 Tryz.func160 fun w S=>?_
 refine w9 ?_
 refine d9 (X9 0 rfl rfl rfl rfl) ?_
 refine rA<|c9<|k9<|k9 ?_
 refine tY ?_
 refine dT 0 rfl pM ?_
 refine dO 1 rfl (n9 1 1 false (N9 Tryz.func42) (j5 rs (by omega)) rfl (.cons rfl (.c .t0) .nil) rfl rfl rfl) ?_
 refine dT 2 rfl (T3 rfl) ?_
 refine dT 3 rfl pM ?_
 refine dH 4 rfl (fun _=>pF 0) (fun g1=>?_) (fun g1=>?_)
 ·
  have g1':=(O4 g1)
  refine dH 5 rfl (fun _=>pL) (fun _=>?_) (C9 g1)
  refine dH 6 rfl (fun _=>pM) (fun _=>?_) (C9 g1)
  refine dH 7 rfl (fun _=>BZ rfl rfl) (fun _=>?_) (C9 g1)
  refine dH 8 rfl (fun _=>pB) (fun _=>?_) (C9 g1)
  refine s6 9 rfl rfl (by kernel_rfl) rfl rfl rfl (fun _=>(n9 1 1 false (N9 Tryz.func88) (L6 r 0 (IntKind.i64.wrap ((rs.length:Int) - 1))) rfl (.cons rfl (.c .t0) (.cons rfl (.c .t0) (.cons rfl (.c .t0) .nil))) rfl rfl rfl)) (fun _=>?_) (C9 g1)
  refine dH 10 rfl (fun _=>T3 rfl) (fun _=>?_) (C9 g1)
  refine dT 11 rfl (o8 rfl g1 rfl) ?_
  refine dT 12 rfl pM ?_
  refine dH 13 rfl (fun _=>pF 1) (fun g2=>?_) (fun g2=>?_)
  ·
   have g2':=j8 (O4 g2)
   refine dH 14 rfl (fun _=>pL) (fun _=>?_) (C9 g2)
   refine dH 15 rfl (fun _=>BZ rfl rfl) (fun _=>?_) (C9 g2)
   refine dH 16 rfl (fun _=>pM) (fun _=>?_) (C9 g2)
   refine dH 17 rfl (fun _=>pF 0) (fun _=>?_) (C9 g2)
   refine dH 18 rfl (fun _=>pL) (fun _=>?_) (C9 g2)
   obtain⟨z3,hz4,b5⟩:=t9 (xs:=rs) (n:=r) (by omega) (by(simp only [IntKind.wrap_i64] at *;omega))
   refine dH 19 rfl (fun _=>w8 (by kernel_rfl) rfl rfl b5 hz4) (fun _=>?_) (C9 g2)
   refine dH 20 rfl (fun _=>N2 (off:=1) (by kernel_rfl) rfl) (fun _=>?_) (C9 g2)
   refine dH 21 rfl (fun _=>t7 (by kernel_rfl) rfl rfl) (fun _=>?_) (C9 g2)
   refine dH 22 rfl (fun _=>pB) (fun _=>?_) (C9 g2)
   refine dT 23 rfl (o8 rfl g2 rfl) ?_
   refine dE ?_
   refine j9 rfl (fun h6=>?_) (fun h6=>?_)
   ·
    have h6':=j8 h6
    refine w9<|rA<|c9 ?_
    refine tk Tryz.func160 (.tmp rfl .nil) ?_
    all_goals(refine N7 ?_;(rw [hP (by assumption) (by assumption)];done))
   ·
    have h6':=l8 h6
    refine m9<|w9<|rF 1 ?_
    refine rL ?_
    refine d9 (n9 1 1 false (N9 Tryz.func89) (a5 ts 174 ([]) (fun(x0:Int)=>!(X4 x0)) (by omega) (fun x0 mx0=>⟨N9 Tryz.func174,SY x0⟩)) rfl (.cons rfl (.c .t0) (.cons rfl (.c (.clo .nil)) .nil)) rfl rfl rfl) ?_
    refine d9 (Q8 rfl rfl) ?_
    refine rA<|c9 ?_
    refine tk Tryz.func160 (.tmp rfl .nil) ?_
    all_goals(refine N7 ?_;(rw [xU (by assumption) (by simp only [IntKind.wrap_i64] at *;omega) (by assumption) (by omega)];done))
  ·
   have g2':=l8 (P4 g2)
   refine dG 14 (nc g2) (fun _=>?_)
   refine dG 15 (nc g2) (fun _=>?_)
   refine dG 16 (nc g2) (fun _=>?_)
   refine dG 17 (nc g2) (fun _=>?_)
   refine dG 18 (nc g2) (fun _=>?_)
   refine dG 19 (nc g2) (fun _=>?_)
   refine dG 20 (nc g2) (fun _=>?_)
   refine dG 21 (nc g2) (fun _=>?_)
   refine dG 22 (nc g2) (fun _=>?_)
   refine dT 23 rfl (H8 rfl g2 rfl) ?_
   refine dE ?_
   refine j9 rfl (fun _=>?_) (nc rfl)
   refine w9<|rA<|c9 ?_
   refine tk Tryz.func160 (.tmp rfl .nil) ?_
   all_goals(refine N7 ?_;(rw [FQ (by simp only [IntKind.wrap_i64] at *;omega)];done))
 ·
  have g1':=(P4 g1)
  refine dG 5 (nc g1) (fun _=>?_)
  refine dG 6 (nc g1) (fun _=>?_)
  refine dG 7 (nc g1) (fun _=>?_)
  refine dG 8 (nc g1) (fun _=>?_)
  refine dG 9 (nc g1) (fun _=>?_)
  refine dG 10 (nc g1) (fun _=>?_)
  refine dT 11 rfl (H8 rfl g1 rfl) ?_
  refine dT 12 rfl pM ?_
  refine dG 13 (nc rfl) (fun _=>?_)
  refine dG 14 (nc rfl) (fun _=>?_)
  refine dG 15 (nc rfl) (fun _=>?_)
  refine dG 16 (nc rfl) (fun _=>?_)
  refine dG 17 (nc rfl) (fun _=>?_)
  refine dG 18 (nc rfl) (fun _=>?_)
  refine dG 19 (nc rfl) (fun _=>?_)
  refine dG 20 (nc rfl) (fun _=>?_)
  refine dG 21 (nc rfl) (fun _=>?_)
  refine dG 22 (nc rfl) (fun _=>?_)
  refine dT 23 rfl (H8 rfl rfl rfl) ?_
  refine dE ?_
  refine j9 rfl (fun _=>?_) (nc rfl)
  refine w9<|rA<|c9 ?_
  refine tk Tryz.func160 (.tmp rfl .nil) ?_
  all_goals(refine N7 ?_;(rw [IQ (by assumption)];done))
theorem kW (r:Int)(ts:List Int)(rs:V9)(hrs:rs.length≤4611686018427387904)(hts:ts.length≤4611686018427387904):Pu Tryz.prog 159 [.agg [.t none (.v (.int .i64 r)),.t none (.sl 1 f9 ts)],.c (.pel none ((B9 3 (d8 Z9 f9 a8)) rs) 1)] [] 0 (.c (.t none (.v (.bool (G7 rs (r,ts)))))):=by
 refine u6 Tryz.func159 fun w S=>?_
 refine w9 ?_
 refine d9 (X9 0 rfl rfl rfl rfl) ?_
 refine rA<|o7 ?_
 refine d9 (c8 rfl (by kernel_rfl) rfl rfl) ?_
 refine rC 2 ?_
 refine d9 (n9 1 1 false (N9 Tryz.func160) (KX rs r ts (by omega) (by omega)) rfl (.cons rfl (.c .t0) (.cons rfl (.agg (.cons .t0 (.cons .t0 .nil))) .nil)) rfl rfl rfl) ?_
 refine d9 (Q8 rfl rfl) ?_
 refine rA<|c9 ?_
 refine tk Tryz.func159 (.tmp rfl .nil) ?_
 all_goals rfl
theorem V5 (l:List (Int ×(List Int)))(f:Nat)(cs:List ((Nat→T) × Nat))(p:Int ×(List Int)→Bool)(hl:l.length≤9223372036854775807)(hf:∀x∈l,Fu Tryz.prog f ([.agg [.t none (.v (.int .i64 x.1)),.t none (.sl 1 f9 x.2)]]++ET cs) (.c (.t none (.v (.bool (p x)))))):Pu Tryz.prog 161 [.c (.t none (.sl 2 (E9 f9 (B9 1 f9)) l)),.c (.fv f cs)] [] 0 (.c (.t none (.v (.int .i64 (V1 p l))))):=by
 refine u6 Tryz.func161 fun w S=>?_
 refine w9<|rA<|c9<|k9<|w9 ?_
 refine rM ?_
 refine d9 (S9 rfl rfl rfl) ?_
 refine rM<|c9<|r9 ?_
 refine L9 (fun m=>⟨[(0,some (.c (.t none (.sl 2 (E9 f9 (B9 1 f9)) l)))),(1,some (.c (.fv f cs))),(7,some (.c (.t none (.v (.int .i64 ((l.length:Int))))))),(8,some (.c (.t none (.v (.int .i64 ((m:Int)))))))],[],0⟩:Nat→St) (fun m=>m≤l.length∧∀j z,j < m→l[j]? =some z→p z=false) (fun m=>l.length - m) 0 ⟨⟨rfl,⟨rfl,⟨rfl,⟨rfl,trivial⟩⟩⟩⟩,trivial,rfl⟩ (by exact⟨Nat.zero_le _,fun j z h=>by omega⟩) ?_
 rintro m hI ih0
 try dsimp only at hI ih0
 obtain⟨i1,i2⟩:=hI
 refine w9<|rB<|c9<|k9 ?_
 refine j9 rfl (fun h1=>?_) (fun h1=>?_)
 ·
  have h1':=j8 h1
  refine m9<|k9<|r9<|w9<|rM ?_
  refine rA<|o7 ?_
  refine rM ?_
  refine rM ?_
  refine rM ?_
  obtain⟨z2,hz3,b4⟩:=t9 (xs:=l) (n:=(m:Int)) (by omega) (by omega)
  refine d9 (P9 rfl (by kernel_rfl) rfl rfl b4 hz3) ?_
  refine d9 (A6 rfl (n:=2) (by kernel_rfl) (by kernel_rfl) rfl rfl) ?_
  refine d9 (nR 0 0 false (hf z2 (J8 (by assumption))).1 (hf z2 (J8 (by assumption))).2 rfl rfl (.c .fv) (.cons rfl (.agg (.cons .t0 (.cons .t0 .nil))) .nil) rfl rfl rfl) ?_
  refine c9 ?_
  refine j9 rfl (fun h5=>?_) (fun h5=>?_)
  ·
   have h5':=h5
   refine w9<|rM ?_
   refine rA<|c9 ?_
   refine tk Tryz.func161 (.tmp rfl .nil) ?_ <;>(try clear ih0)
   all_goals(rw [SZ i2 (by assumption) (by assumption)])
  ·
   have h5':=h5
   refine m9<|i9<|l9<|rB ?_
   refine rM<|c9 ?_
   refine n8 ?_ (ih0 (m + 1) (by(try dsimp only);omega) (by(try dsimp only);exact⟨by omega,W4 i2 (by assumption) rfl (by assumption)⟩))
   exact⟨⟨rfl,⟨rfl,⟨rfl,⟨(i6 (s8 (by omega) (by omega))),trivial⟩⟩⟩⟩,trivial,rfl⟩
 ·
  have h1':=l8 h1
  refine R9 rfl<|w9<|rA<|c9 ?_
  refine tk Tryz.func161 (.tmp rfl .nil) ?_ <;>(try clear ih0)
  all_goals(rw [C0 i2 (by omega)])
theorem R7 (l:List (Int ×(List Int)))(f:Nat)(cs:List ((Nat→T) × Nat))(p:Int ×(List Int)→Bool)(hl:l.length≤9223372036854775807)(hf:∀x∈l,Fu Tryz.prog f ([.agg [.t none (.v (.int .i64 x.1)),.t none (.sl 1 f9 x.2)]]++ET cs) (.c (.t none (.v (.bool (p x)))))):Pu Tryz.prog 127 [.c (.t none (.sl 2 (E9 f9 (B9 1 f9)) l)),.c (.fv f cs)] [] 0 (.c (.t none (.v (.bool (l.any p))))):=by
 refine u6 Tryz.func127 fun w S=>?_
 refine w9<|rA<|o7 ?_
 refine rM ?_
 refine rM ?_
 refine d9 (n9 0 0 false (N9 Tryz.func161) (V5 l f cs p (by omega) hf) rfl (.cons rfl (.c .t0) (.cons rfl (.c .fv) .nil)) rfl rfl rfl) ?_
 refine rB ?_
 refine rA<|c9 ?_
 refine tk Tryz.func127 (.tmp rfl .nil) ?_
 all_goals(exact N7 eZ)
theorem C1 (rs:V9)(l:p9)(k:Int)(hrs:rs.length≤4611686018427387904)(hs:l7 (fun(x:Int ×(List Int))=>x.2.length) l≤1048576):Pu Tryz.prog 126 [.c (.t none (.sl 3 (d8 Z9 f9 a8) rs)),.c (.t none (.sl 2 (E9 f9 (B9 1 f9)) l)),.c (.t none (.v (.int .i64 k)))] [] 0 (.c (.t none (.v (.bool (I7 rs l k))))):=by
 refine u6 Tryz.func126 fun w S=>?_
 have gl:=L8 (f:=(fun(x:Int ×(List Int))=>x.2.length)) (l:=l)
 refine w9 ?_
 refine d9 (X9 0 rfl rfl rfl rfl) ?_
 refine rA<|o7 ?_
 refine rM ?_
 refine d9 (S9 rfl rfl rfl) ?_
 refine rM ?_
 refine d9 (n9 1 1 false (N9 Tryz.func88) (L6 ((l.length:Int)) 1 k) rfl (.cons rfl (.c .t0) (.cons rfl (.c .t0) (.cons rfl (.c .t0) .nil))) rfl rfl rfl) ?_
 refine rM ?_
 refine x9 (fun g1=>?_) (fun g1=>?_)
 ·
  have g1':=j8 g1
  refine rM ?_
  refine x9 (fun _=>?_) (nc g1)
  refine d9 (m0 rfl (.cons rfl .nil)) ?_
  refine x9 (fun _=>?_) (nc g1)
  refine d9 (n9 1 1 false (N9 Tryz.func127) (R7 l 159 ([((B9 3 (d8 Z9 f9 a8)) rs,1)]) (fun(x0:Int ×(List Int))=>G7 rs (x0.1,x0.2)) (by omega) (fun x0 mx0=>⟨N9 Tryz.func159,kW x0.1 x0.2 rs (by omega) (by(have e1:=PX (f:=(fun(x:Int ×(List Int))=>x.2.length)) (l:=l) (by assumption);(try dsimp only at e1);omega))⟩)) rfl (.cons rfl (.c .t0) (.cons rfl (.c (.clo (.cons rfl rfl rfl (.cons .t .nil) .nil))) .nil)) rfl rfl rfl) ?_
  refine x9 (fun _=>?_) (nc g1)
  refine d9 (Q8 rfl rfl) ?_
  refine d9 (M9 rfl rfl g1 rfl) ?_
  refine rA<|c9 ?_
  refine tk Tryz.func126 (.tmp rfl .nil) ?_
  all_goals(refine N7 ?_;unfold I7;(rw [decide_eq_true (by assumption)];rfl))
 ·
  have g1':=l8 g1
  refine x9 (C9 g1) (fun _=>?_)
  refine x9 (C9 g1) (fun _=>?_)
  refine x9 (C9 g1) (fun _=>?_)
  refine d9 (H9 rfl rfl g1 rfl) ?_
  refine rA<|c9 ?_
  refine tk Tryz.func126 (.tmp rfl .nil) ?_
  all_goals(refine N7 ?_;unfold I7;(rw [decide_eq_false (by assumption)];rfl))
theorem F4 (l:List (Int × List Int))(hl:l7 (fun(x:Int ×(List Int))=>x.2.length) l≤1048576):Pu Tryz.prog 97 [.c (.t none (.sl 2 (E9 f9 (B9 1 f9)) l))] [(0,some (.row none 3 true 1 f9 (G9 (F9 l))))] 1 (.c (.own 0)):=by
 refine u6 Tryz.func97 fun w S=>?_
 have gl:=L8 (f:=(fun(x:Int ×(List Int))=>x.2.length)) (l:=l);have gv:=H7 l
 refine w9<|rA<|o7 ?_
 refine d9 (C7 0 (e:=3) (sz:=1) (zs:=[.int .i64 0]) f9 rfl rfl (by kernel_rfl) rfl) ?_
 refine rA<|c9<|k9<|w9 ?_
 refine rM ?_
 refine d9 (S9 rfl rfl rfl) ?_
 refine rM<|c9<|r9 ?_
 refine L9 (fun m=>⟨[(2,some (.c (.t none (.v (.slice none 0 0))))),(3,some (.c (.own 0))),(9,some (.c (.t none (.sl 2 (E9 f9 (B9 1 f9)) l)))),(10,some (.c (.t none (.v (.int .i64 ((l.length:Int))))))),(11,some (.c (.t none (.v (.int .i64 ((m:Int)))))))],[(0,some (.row none 3 true 1 f9 (F9 (l.take m))))],1⟩:Nat→St) (fun m=>m≤l.length) (fun m=>l.length - m) 0 ⟨⟨rfl,⟨rfl,⟨rfl,⟨rfl,⟨rfl,trivial⟩⟩⟩⟩⟩,⟨rfl,trivial⟩,rfl⟩ (by exact Nat.zero_le _) ?_
 rintro m hI ih0
 try dsimp only at hI ih0
 have i1:=hI
 refine w9<|rB<|c9<|k9 ?_
 refine j9 rfl (fun h1=>?_) (fun h1=>?_)
 ·
  have h1':=j8 h1
  refine m9<|k9<|r9<|w9 ?_
  obtain⟨z2,hz3,b4⟩:=t9 (xs:=l) (n:=(m:Int)) (by omega) (by omega)
  refine d9 (P9 rfl (by kernel_rfl) rfl rfl b4 hz3) ?_
  refine d9 (A6 rfl (n:=2) (by kernel_rfl) (by kernel_rfl) rfl rfl) ?_
  refine d9 (I9 1 (zs:=[.int .i64 0,.slice none 0 0]) rfl rfl (by kernel_rfl) rfl) ?_
  refine rS 2<|o7 ?_
  refine rF 1 ?_
  refine rL ?_
  refine d9 (S9 rfl rfl rfl) ?_
  refine rM<|c9<|r9 ?_
  refine L9 (fun n=>⟨[(2,some (.c (.t none (.v (.slice none 0 0))))),(3,some (.c (.own 0))),(9,some (.c (.t none (.sl 2 (E9 f9 (B9 1 f9)) l)))),(10,some (.c (.t none (.v (.int .i64 ((l.length:Int))))))),(11,some (.c (.t none (.v (.int .i64 ((m:Int))))))),(16,some (.c (.t none (.sl 1 f9 z2.2)))),(17,some (.c (.t none (.v (.int .i64 ((z2.2.length:Int))))))),(18,some (.c (.t none (.v (.int .i64 ((n:Int)))))))],[(0,some (.row none 3 true 1 f9 (F9 (l.take m)++C6 (z2.2.take n)))),(1,some (.box [.t none (.v (.int .i64 z2.1)),.t none (.sl 1 f9 z2.2)]))],2⟩:Nat→St) (fun n=>n≤z2.2.length) (fun n=>z2.2.length - n) 0 ⟨⟨rfl,⟨rfl,⟨rfl,⟨rfl,⟨rfl,⟨rfl,⟨rfl,⟨rfl,trivial⟩⟩⟩⟩⟩⟩⟩⟩,⟨(E7 (by rw [EV,List.append_nil])),⟨rfl,trivial⟩⟩,rfl⟩ (by exact Nat.zero_le _) ?_
  rintro n hI ih1
  try dsimp only at hI ih1
  have j1:=hI;have vp:=NU (m:=m) (n:=n) hz3;(have e1:=j6 (f:=(fun(x:Int ×(List Int))=>x.2.length)) (l:=l) (m:=m) hz3;(try dsimp only at e1))
  refine w9<|rB<|c9<|k9 ?_
  refine j9 rfl (fun h5=>?_) (fun h5=>?_)
  ·
   have h5':=j8 h5
   refine m9<|k9<|r9<|w9 ?_
   obtain⟨z6,hz7,b8⟩:=t9 (xs:=z2.2) (n:=(n:Int)) (by omega) (by omega)
   refine d9 (P9 rfl (by kernel_rfl) rfl rfl b8 hz7) ?_
   refine d9 (c8 rfl (by kernel_rfl) rfl rfl) ?_
   refine rA<|o7 ?_
   refine rM ?_
   refine rB<|c9 ?_
   refine j9 rfl (fun h9=>?_) (fun h9=>?_)
   ·
    have h9':=j8 h9
    refine l9<|rM ?_
    refine rM ?_
    refine d9 (G8 2 (e:=3) (sz:=1) (zs:=[.int .i64 0]) rfl rfl (by kernel_rfl) rfl rfl rfl rfl rfl) ?_
    refine d9 (i8 0 (e:=3) (sz:=1) (by':=8) z6 rfl (by kernel_rfl) rfl rfl rfl rfl rfl rfl (.cons .sc .nil) rfl (by(simp only [List.length_append];omega)) (by(simp only [List.length_append];omega))) ?_
    refine rA<|c9<|i9<|l9 ?_
    refine rB ?_
    refine rM<|c9 ?_
    refine n8 ?_ (ih1 (n + 1) (by(try dsimp only);omega) (by(try dsimp only);omega))
    exact⟨⟨rfl,⟨rfl,⟨rfl,⟨rfl,⟨rfl,⟨rfl,⟨rfl,⟨(i6 (s8 (by omega) (by omega))),trivial⟩⟩⟩⟩⟩⟩⟩⟩,⟨(E7 (by(rw [xV (by assumption) (by omega),List.append_assoc];done))),⟨rfl,trivial⟩⟩,rfl⟩
   ·
    have h9':=l8 h9
    refine m9<|i9<|l9<|rB ?_
    refine rM<|c9 ?_
    refine n8 ?_ (ih1 (n + 1) (by(try dsimp only);omega) (by(try dsimp only);omega))
    exact⟨⟨rfl,⟨rfl,⟨rfl,⟨rfl,⟨rfl,⟨rfl,⟨rfl,⟨(i6 (s8 (by omega) (by omega))),trivial⟩⟩⟩⟩⟩⟩⟩⟩,⟨(E7 (by(rw [DV (by assumption) (by omega)];done))),⟨rfl,trivial⟩⟩,rfl⟩
  ·
   have h5':=l8 h5
   refine R9 rfl<|i9<|l9<|rB ?_
   refine rM<|c9 ?_
   refine n8 ?_ (ih0 (m + 1) (by(try dsimp only);omega) (by(try dsimp only);omega))
   exact⟨⟨rfl,⟨rfl,⟨rfl,⟨rfl,⟨(i6 (s8 (by omega) (by omega))),trivial⟩⟩⟩⟩⟩,⟨(E7 (by rw [TX (m:=m) hz3];congr 2;exact List.take_of_length_le (by omega))),trivial⟩,rfl⟩
 ·
  have h1':=l8 h1
  refine R9 rfl<|w9<|rM ?_
  refine d9 (jR [⟨0,none,3,1,_,f9,F9 (l.take m),G1 (F9 (l.take m))⟩] (N9 Tryz.func84) (fun U=>Q4 U 3 (F9 (l.take m)) (by(simp only [jX (by omega:l.length≤m)];omega))) rfl ⟨rfl,trivial⟩ rfl rfl (.cons rfl (.own rfl) .nil) rfl) ?_
  refine o7<|rM ?_
  refine d9 (kX 0 (l':=K8 (G1 (F9 (l.take m)))) (N9 Tryz.func85) (fun U=>x4 U 3 (G1 (F9 (l.take m))) (by(rw [lX];simp only [jX (by omega:l.length≤m)];omega))) rfl rfl (.cons rfl (.own rfl) .nil)) ?_
  refine rA<|c9 ?_
  refine tk Tryz.func97 (.tmp rfl .nil) ?_ (hL:=⟨E7 ?_,trivial⟩) <;>(try clear ih0) <;>(try clear ih1)
  all_goals first | rfl | ((rw [jX (by omega),MW]))
theorem J4 (l:List Int)(v:Int)(hl:l.length≤9223372036854775807):Pu Tryz.prog 129 [.c (.t none (.sl 1 f9 l)),.c (.t none (.v (.int .i64 v)))] [] 0 (.c (.t none (.v (.int .i64 (V1 (CS v) l))))):=by
 refine u6 Tryz.func129 fun w S=>?_
 refine w9<|rA<|c9<|k9<|w9 ?_
 refine rM ?_
 refine d9 (S9 rfl rfl rfl) ?_
 refine rM<|c9<|r9 ?_
 refine L9 (fun m=>⟨[(0,some (.c (.t none (.sl 1 f9 l)))),(1,some (.c (.t none (.v (.int .i64 v))))),(7,some (.c (.t none (.v (.int .i64 ((l.length:Int))))))),(8,some (.c (.t none (.v (.int .i64 ((m:Int)))))))],[],0⟩:Nat→St) (fun m=>m≤l.length∧∀j z,j < m→l[j]? =some z→CS v z=false) (fun m=>l.length - m) 0 ⟨⟨rfl,⟨rfl,⟨rfl,⟨rfl,trivial⟩⟩⟩⟩,trivial,rfl⟩ (by exact⟨Nat.zero_le _,fun j z h=>by omega⟩) ?_
 rintro m hI ih0
 try dsimp only at hI ih0
 obtain⟨i1,i2⟩:=hI
 refine w9<|rB<|c9<|k9 ?_
 refine j9 rfl (fun h1=>?_) (fun h1=>?_)
 ·
  have h1':=j8 h1
  refine m9<|k9<|r9<|w9<|rM ?_
  refine rA<|o7 ?_
  refine rM ?_
  refine rM ?_
  refine rM ?_
  obtain⟨z2,hz3,b4⟩:=t9 (xs:=l) (n:=(m:Int)) (by omega) (by omega)
  refine d9 (P9 rfl (by kernel_rfl) rfl rfl b4 hz3) ?_
  refine d9 (c8 rfl (by kernel_rfl) rfl rfl) ?_
  refine rB<|c9 ?_
  refine j9 rfl (fun h5=>?_) (fun h5=>?_)
  ·
   have h5':=j8 h5
   refine w9<|rM ?_
   refine rA<|c9 ?_
   refine tk Tryz.func129 (.tmp rfl .nil) ?_ <;>(try clear ih0)
   all_goals(rw [SZ i2 (by assumption) (decide_eq_true (by omega))])
  ·
   have h5':=l8 h5
   refine m9<|i9<|l9<|rB ?_
   refine rM<|c9 ?_
   refine n8 ?_ (ih0 (m + 1) (by(try dsimp only);omega) (by(try dsimp only);exact⟨by omega,W4 i2 (by assumption) rfl (decide_eq_false (by omega))⟩))
   exact⟨⟨rfl,⟨rfl,⟨rfl,⟨(i6 (s8 (by omega) (by omega))),trivial⟩⟩⟩⟩,trivial,rfl⟩
 ·
  have h1':=l8 h1
  refine R9 rfl<|w9<|rA<|c9 ?_
  refine tk Tryz.func129 (.tmp rfl .nil) ?_ <;>(try clear ih0)
  all_goals(rw [C0 i2 (by omega)])
theorem P7 (l:List Int)(v:Int)(hl:l.length≤9223372036854775807):Pu Tryz.prog 98 [.c (.t none (.sl 1 f9 l)),.c (.t none (.v (.int .i64 v)))] [] 0 (.c (.t none (.v (.bool (kZ l v))))):=by
 refine u6 Tryz.func98 fun w S=>?_
 refine w9<|rA<|o7 ?_
 refine rM ?_
 refine rM ?_
 refine d9 (n9 0 0 false (N9 Tryz.func129) (J4 l v (by omega)) rfl (.cons rfl (.c .t0) (.cons rfl (.c .t0) .nil)) rfl rfl rfl) ?_
 refine rB ?_
 refine rA<|c9 ?_
 refine tk Tryz.func98 (.tmp rfl .nil) ?_
 all_goals(exact N7 CK)
theorem G0 (r:Int)(ts:List Int)(rs:V9)(hr:0≤r∧r < rs.length):Pu Tryz.prog 128 [.agg [.t none (.v (.int .i64 r)),.t none (.sl 1 f9 ts)],.c (.pel none ((B9 3 (d8 Z9 f9 a8)) rs) 1)] [] 0 (.c (.t none (.v (.bool (I2 rs (r,ts)))))):=by
 refine u6 Tryz.func128 fun w S=>?_
 refine w9 ?_
 refine d9 (X9 0 rfl rfl rfl rfl) ?_
 refine rA<|o7 ?_
 refine d9 (c8 rfl (by kernel_rfl) rfl rfl) ?_
 refine rF 0 ?_
 refine rL ?_
 obtain⟨z1,hz2,b3⟩:=t9 (xs:=rs) (n:=r) (by omega) (by omega)
 refine d9 (P9 rfl (by kernel_rfl) rfl rfl b3 hz2) ?_
 refine d9 (K1 rfl (off:=2) (by kernel_rfl) rfl) ?_
 refine d9 (c8 rfl (by kernel_rfl) rfl rfl) ?_
 refine rA<|c9 ?_
 refine tk Tryz.func128 (.tmp rfl .nil) ?_
 all_goals(refine N7 ?_;rw [B8 (by assumption)])
theorem gZ (rs:V9)(a0:List (Int ×(List Int)))(a1:List (Int ×(List Int)))(a2:Bool)(a3:Int)(a4:Int)(hrs:rs.length≤4611686018427387904)(hs:l7 (fun(x:Int ×(List Int))=>x.2.length) a0 + l7 (fun(x:Int ×(List Int))=>x.2.length) a1≤1048576):Pu Tryz.prog 96 [.c (.t none (.sl 3 (d8 Z9 f9 a8) rs)),.agg [.t none (.sl 2 (E9 f9 (B9 1 f9)) a0),.t none (.sl 2 (E9 f9 (B9 1 f9)) a1),.t none (.v (.bool a2)),.t none (.v (.int .i64 a3)),.t none (.v (.int .i64 a4))]] [] 0 (.c (.t none (.v (.bool (D6 rs a0 a1 a2 a3 a4))))):=by
 refine u6 Tryz.func96 fun w S=>?_
 have g0:=L8 (f:=(fun(x:Int ×(List Int))=>x.2.length)) (l:=a0);have g1:=L8 (f:=(fun(x:Int ×(List Int))=>x.2.length)) (l:=a1);have v0:=F7 (F9 a0);have v1:=H7 a0
 refine w9 ?_
 refine d9 (X9 0 rfl rfl rfl rfl) ?_
 refine d9 (X9 1 rfl rfl rfl rfl) ?_
 refine rA<|o7 ?_
 refine rC 5 ?_
 refine d9 (I9 2 (zs:=[.slice none 0 0,.slice none 0 0,.bool false,.int .i64 0,.int .i64 0]) rfl rfl (by kernel_rfl) rfl) ?_
 refine rS 5<|c9<|k9<|w9 ?_
 refine rL ?_
 refine rF 0 ?_
 refine rL ?_
 refine d9 (n9 3 3 false (N9 Tryz.func126) (C1 rs a0 2 (by omega) (by omega)) rfl (.cons rfl (.c .t0) (.cons rfl (.c .t0) (.cons rfl (.c .t0) .nil))) rfl rfl rfl) ?_
 refine d9 (Q8 rfl rfl) ?_
 refine c9 ?_
 refine j9 rfl (fun h1=>?_) (fun h1=>?_)
 ·
  have h1':=(P4 h1)
  refine w9<|rA<|c9 ?_
  refine tk Tryz.func96 (.tmp rfl .nil) ?_
  all_goals(refine N7 ?_;clear hs g0 g1 v0 v1;unfold D6;grind)
 ·
  have h1':=(O4 h1)
  refine m9<|k9<|w9<|rF 2 ?_
  refine rL<|c9 ?_
  refine j9 rfl (fun h2=>?_) (fun h2=>?_)
  ·
   have h2':=h2
   refine w9<|rF 0 ?_
   refine rL ?_
   refine d9 (n9 3 4 false (N9 Tryz.func97) (F4 a0 (by omega)) rfl (.cons rfl (.c .t0) .nil) rfl rfl rfl) ?_
   refine rA<|o7 ?_
   refine rF 1 ?_
   refine rL ?_
   refine d9 (S9 rfl rfl rfl) ?_
   refine rB ?_
   refine rM ?_
   refine x9 (fun g3=>?_) (fun g3=>?_)
   ·
    have g3':=j8 g3
    refine rF 3 ?_
    refine x9 (fun _=>?_) (nc g3)
    refine rL ?_
    refine x9 (fun _=>?_) (nc g3)
    refine rF 4 ?_
    refine x9 (fun _=>?_) (nc g3)
    refine rL ?_
    refine x9 (fun _=>?_) (nc g3)
    refine rB ?_
    refine d9 (M9 rfl rfl g3 rfl) ?_
    refine rM ?_
    refine x9 (fun g4=>?_) (fun g4=>?_)
    ·
     have g4':=j8 g4
     refine rM ?_
     refine x9 (fun _=>?_) (nc g4)
     refine rF 3 ?_
     refine x9 (fun _=>?_) (nc g4)
     refine rL ?_
     refine x9 (fun _=>?_) (nc g4)
     refine d9 (n9 4 4 false (N9 Tryz.func98) (P7 (G9 (F9 a0)) a3 (by omega)) rfl (.cons rfl (.c (.own rfl)) (.cons rfl (.c .t0) .nil)) rfl rfl rfl) ?_
     refine d9 (M9 rfl rfl g4 rfl) ?_
     refine rM ?_
     refine x9 (fun g5=>?_) (fun g5=>?_)
     ·
      have g5':=g5
      refine rM ?_
      refine x9 (fun _=>?_) (nc g5)
      refine rF 4 ?_
      refine x9 (fun _=>?_) (nc g5)
      refine rL ?_
      refine x9 (fun _=>?_) (nc g5)
      refine d9 (n9 4 4 false (N9 Tryz.func98) (P7 (G9 (F9 a0)) a4 (by omega)) rfl (.cons rfl (.c (.own rfl)) (.cons rfl (.c .t0) .nil)) rfl rfl rfl) ?_
      refine d9 (M9 rfl rfl g5 rfl) ?_
      refine rA<|c9 ?_
      refine tk Tryz.func96 (.tmp rfl .nil) ?_
      all_goals(refine N7 ?_;clear hs g0 g1 v0 v1;unfold D6;grind)
     ·
      have g5':=g5
      refine x9 (C9 g5) (fun _=>?_)
      refine x9 (C9 g5) (fun _=>?_)
      refine x9 (C9 g5) (fun _=>?_)
      refine d9 (H9 rfl rfl g5 rfl) ?_
      refine rA<|c9 ?_
      refine tk Tryz.func96 (.tmp rfl .nil) ?_
      all_goals(refine N7 ?_;clear hs g0 g1 v0 v1;unfold D6;grind)
    ·
     have g4':=l8 g4
     refine x9 (C9 g4) (fun _=>?_)
     refine x9 (C9 g4) (fun _=>?_)
     refine x9 (C9 g4) (fun _=>?_)
     refine d9 (H9 rfl rfl g4 rfl) ?_
     refine rM ?_
     refine x9 (C9 rfl) (fun _=>?_)
     refine x9 (C9 rfl) (fun _=>?_)
     refine x9 (C9 rfl) (fun _=>?_)
     refine x9 (C9 rfl) (fun _=>?_)
     refine d9 (H9 rfl rfl rfl rfl) ?_
     refine rA<|c9 ?_
     refine tk Tryz.func96 (.tmp rfl .nil) ?_
     all_goals(refine N7 ?_;clear hs g0 g1 v0 v1;unfold D6;grind)
   ·
    have g3':=l8 g3
    refine x9 (C9 g3) (fun _=>?_)
    refine x9 (C9 g3) (fun _=>?_)
    refine x9 (C9 g3) (fun _=>?_)
    refine x9 (C9 g3) (fun _=>?_)
    refine d9 (H9 rfl rfl g3 rfl) ?_
    refine rM ?_
    refine x9 (C9 rfl) (fun _=>?_)
    refine x9 (C9 rfl) (fun _=>?_)
    refine x9 (C9 rfl) (fun _=>?_)
    refine x9 (C9 rfl) (fun _=>?_)
    refine d9 (H9 rfl rfl rfl rfl) ?_
    refine rM ?_
    refine x9 (C9 rfl) (fun _=>?_)
    refine x9 (C9 rfl) (fun _=>?_)
    refine x9 (C9 rfl) (fun _=>?_)
    refine x9 (C9 rfl) (fun _=>?_)
    refine d9 (H9 rfl rfl rfl rfl) ?_
    refine rA<|c9 ?_
    refine tk Tryz.func96 (.tmp rfl .nil) ?_
    all_goals(refine N7 ?_;clear hs g0 g1 v0 v1;unfold D6;grind)
  ·
   have h2':=h2
   refine m9<|w9<|rL ?_
   refine rF 1 ?_
   refine rL ?_
   refine d9 (n9 3 3 false (N9 Tryz.func126) (C1 rs a1 2 (by omega) (by omega)) rfl (.cons rfl (.c .t0) (.cons rfl (.c .t0) (.cons rfl (.c .t0) .nil))) rfl rfl rfl) ?_
   refine rM ?_
   refine x9 (fun g6=>?_) (fun g6=>?_)
   ·
    have g6':=g6
    refine rF 3 ?_
    refine x9 (fun _=>?_) (nc g6)
    refine rL ?_
    refine x9 (fun _=>?_) (nc g6)
    refine rB ?_
    refine d9 (M9 rfl rfl g6 rfl) ?_
    refine rM ?_
    refine x9 (fun g7=>?_) (fun g7=>?_)
    ·
     have g7':=j8 g7
     refine rF 4 ?_
     refine x9 (fun _=>?_) (nc g7)
     refine rL ?_
     refine x9 (fun _=>?_) (nc g7)
     refine rB ?_
     refine d9 (M9 rfl rfl g7 rfl) ?_
     refine rM ?_
     refine x9 (fun g8=>?_) (fun g8=>?_)
     ·
      have g8':=j8 g8
      refine rF 1 ?_
      refine x9 (fun _=>?_) (nc g8)
      refine rL ?_
      refine x9 (fun _=>?_) (nc g8)
      refine d9 (m0 rfl (.cons rfl .nil)) ?_
      refine x9 (fun _=>?_) (nc g8)
      refine d9 (n9 3 3 false (N9 Tryz.func127) (R7 a1 128 ([((B9 3 (d8 Z9 f9 a8)) rs,1)]) (fun(x0:Int ×(List Int))=>I2 rs (x0.1,x0.2)) (by omega) (fun x0 mx0=>⟨N9 Tryz.func128,G0 x0.1 x0.2 rs (by exact HM (by assumption) (by assumption))⟩)) rfl (.cons rfl (.c .t0) (.cons rfl (.c (.clo (.cons rfl rfl rfl (.cons .t .nil) .nil))) .nil)) rfl rfl rfl) ?_
      refine x9 (fun _=>?_) (nc g8)
      refine d9 (Q8 rfl rfl) ?_
      refine d9 (M9 rfl rfl g8 rfl) ?_
      refine rA<|c9 ?_
      refine tk Tryz.func96 (.tmp rfl .nil) ?_
      all_goals(refine N7 ?_;clear hs g0 g1 v0 v1;unfold D6;grind)
     ·
      have g8':=l8 g8
      refine x9 (C9 g8) (fun _=>?_)
      refine x9 (C9 g8) (fun _=>?_)
      refine x9 (C9 g8) (fun _=>?_)
      refine x9 (C9 g8) (fun _=>?_)
      refine d9 (H9 rfl rfl g8 rfl) ?_
      refine rA<|c9 ?_
      refine tk Tryz.func96 (.tmp rfl .nil) ?_
      all_goals(refine N7 ?_;clear hs g0 g1 v0 v1;unfold D6;grind)
    ·
     have g7':=l8 g7
     refine x9 (C9 g7) (fun _=>?_)
     refine x9 (C9 g7) (fun _=>?_)
     refine d9 (H9 rfl rfl g7 rfl) ?_
     refine rM ?_
     refine x9 (C9 rfl) (fun _=>?_)
     refine x9 (C9 rfl) (fun _=>?_)
     refine x9 (C9 rfl) (fun _=>?_)
     refine x9 (C9 rfl) (fun _=>?_)
     refine x9 (C9 rfl) (fun _=>?_)
     refine d9 (H9 rfl rfl rfl rfl) ?_
     refine rA<|c9 ?_
     refine tk Tryz.func96 (.tmp rfl .nil) ?_
     all_goals(refine N7 ?_;clear hs g0 g1 v0 v1;unfold D6;grind)
   ·
    have g6':=g6
    refine x9 (C9 g6) (fun _=>?_)
    refine x9 (C9 g6) (fun _=>?_)
    refine d9 (H9 rfl rfl g6 rfl) ?_
    refine rM ?_
    refine x9 (C9 rfl) (fun _=>?_)
    refine x9 (C9 rfl) (fun _=>?_)
    refine x9 (C9 rfl) (fun _=>?_)
    refine d9 (H9 rfl rfl rfl rfl) ?_
    refine rM ?_
    refine x9 (C9 rfl) (fun _=>?_)
    refine x9 (C9 rfl) (fun _=>?_)
    refine x9 (C9 rfl) (fun _=>?_)
    refine x9 (C9 rfl) (fun _=>?_)
    refine x9 (C9 rfl) (fun _=>?_)
    refine d9 (H9 rfl rfl rfl rfl) ?_
    refine rA<|c9 ?_
    refine tk Tryz.func96 (.tmp rfl .nil) ?_
    all_goals(refine N7 ?_;clear hs g0 g1 v0 v1;unfold D6;grind)
def hY:Option (List Int)→List (Nat × Option Ob)
 | none=>[]
 | some q=>[(3,some (.row none 3 true 1 f9 q))]
def GZ (r:Int) (ts:List Int) (b:List Int):Option (List Int)→AV
 | none=> .tup [(true,[.t none (.v (.int .i64 0)),.t none (.v (.slice none 0 0))]),(false,[.t none (.v (.bool false))])]
 | some q=> .tup [(true,[.t none (.v (.int .i64 r)),.own 3]),(false,[.t none (.v (.bool true))])]
theorem O5 (r:Int)(ts:List Int)(b:List Int)(hl:ts.length≤1048576)(ho:∀x∈ts,s7 x)(mo:Option (List Int))(hm:Y8 b ts=mo):Pu Tryz.prog 26 [.agg [.t none (.v (.int .i64 r)),.t none (.sl 1 f9 ts)],.c (.t none (.sl 1 f9 b))] (hY mo) 4 (GZ r ts b mo):=by
 refine u6 Tryz.func26 fun w S=>?_
 refine w9 ?_
 refine d9 (X9 0 rfl rfl rfl rfl) ?_
 refine d9 (I9 1 (zs:=[.int .i64 0,.slice none 0 0]) rfl rfl (by kernel_rfl) rfl) ?_
 refine rA<|o7 ?_
 refine rF 0 ?_
 refine rL ?_
 refine d9 (oD [(0,1),(1,1)] [.int .i64 0,.slice none 0 0]) ?_
 refine d9 (I9 2 (zs:=[.int .i64 0,.slice none 0 0]) rfl rfl (by kernel_rfl) rfl) ?_
 refine rS 2<|c9<|k9<|w9 ?_
 refine rF 1 ?_
 refine rL ?_
 refine d9 (S9 rfl rfl rfl) ?_
 refine rM<|c9<|r9 ?_
 refine I6 3 (b:=2) (o:=1) (et:=3) (sz:=1) true f9 rfl rfl rfl ?_
 refine L9 (fun(m,acc)=>⟨[(1,some (.c (.t none (.sl 1 f9 b)))),(4,some (.c (.ptr 1 0))),(6,some (.c (.ptr 2 0))),(14,some (.c (.t none (.sl 1 f9 ts)))),(15,some (.c (.t none (.v (.int .i64 ((ts.length:Int))))))),(16,some (.c (.t none (.v (.int .i64 ((m:Int)))))))],[(0,some (.box [.t none (.v (.int .i64 r)),.t none (.sl 1 f9 ts)])),(1,some (.box [.t none (.v (.int .i64 0)),.t none (.v (.slice none 0 0))])),(2,some (.box [.t none (.v (.int .i64 r)),.own 3])),(3,some (.row none 3 true 1 f9 acc))],4⟩:Nat × List Int→St) (fun(m,acc)=>m≤ts.length∧Y8 b (ts.take m)=some acc) (fun(m,acc)=>ts.length - m) (0,[]) ⟨⟨rfl,⟨rfl,⟨rfl,⟨rfl,⟨rfl,⟨rfl,trivial⟩⟩⟩⟩⟩⟩,⟨rfl,⟨rfl,⟨rfl,⟨rfl,trivial⟩⟩⟩⟩,rfl⟩ (by exact⟨Nat.zero_le _,rfl⟩) ?_
 rintro⟨m,acc⟩ hI ih0
 try dsimp only at hI ih0
 obtain⟨i1,i2⟩:=hI
 refine w9<|rB<|c9<|k9 ?_
 refine j9 rfl (fun h1=>?_) (fun h1=>?_)
 ·
  have h1':=j8 h1
  refine m9<|k9<|r9<|w9 ?_
  obtain⟨z2,hz3,b4⟩:=t9 (xs:=ts) (n:=(m:Int)) (by omega) (by omega)
  refine d9 (P9 rfl (by kernel_rfl) rfl rfl b4 hz3) ?_
  refine d9 (c8 rfl (by kernel_rfl) rfl rfl) ?_
  refine rA<|o7 ?_
  refine rM ?_
  refine rB ?_
  refine rA<|c9<|k9<|w9 ?_
  refine rM ?_
  refine rB<|c9 ?_
  refine j9 rfl (fun h5=>?_) (fun h5=>?_)
  ·
   have h5':=j8 h5
   refine k9<|w9<|rM ?_
   refine rM ?_
   refine d9 (S9 rfl rfl rfl) ?_
   refine rB<|c9 ?_
   refine j9 rfl (fun h6=>?_) (fun h6=>?_)
   ·
    have h6':=j8 h6
    refine w9 ?_
    refine d9 (oD [(0,1),(1,1)] [.int .i64 0,.slice none 0 0]) ?_
    refine rS 2 ?_
    refine rA<|c9 ?_
    refine uZ Tryz.func26 (r8 2 (.tmp rfl .nil)) rfl fun E S w u hI hd=>?_
    obtain rfl:mo=none:=by rw [← hm];exact Z1 i2 (by assumption) rfl (KQ (by assumption) (by assumption))
    refine P3 hI hd ?_ trivial rfl rfl rfl <;> clear hI hd <;>(try clear ih0)
    all_goals rfl
   ·
    have h6':=l8 h6
    refine m9<|l9<|rM ?_
    refine rM ?_
    obtain⟨z7,hz8,b9⟩:=t9 (xs:=b) (n:=z2) (by omega) (by omega)
    refine d9 (P9 rfl (by kernel_rfl) rfl rfl b9 hz8) ?_
    refine d9 (c8 rfl (by kernel_rfl) rfl rfl) ?_
    refine rA<|c9<|k9<|w9 ?_
    refine rM ?_
    refine d9 (n9 4 4 false (N9 Tryz.func66) (E6 z7) rfl (.cons rfl (.c .t0) .nil) rfl rfl rfl) ?_
    refine d9 (Q8 rfl rfl) ?_
    refine c9 ?_
    refine j9 rfl (fun h10=>?_) (fun h10=>?_)
    ·
     have h10':=l8 (P4 h10)
     refine w9 ?_
     refine d9 (oD [(0,1),(1,1)] [.int .i64 0,.slice none 0 0]) ?_
     refine rS 2 ?_
     refine rA<|c9 ?_
     refine uZ Tryz.func26 (r8 2 (.tmp rfl .nil)) rfl fun E S w u hI hd=>?_
     obtain rfl:mo=none:=by rw [← hm];exact Z1 i2 (by assumption) rfl (vP (by assumption) (by assumption) (by assumption))
     refine P3 hI hd ?_ trivial rfl rfl rfl <;> clear hI hd <;>(try clear ih0)
     all_goals rfl
    ·
     have h10':=j8 (O4 h10)
     refine m9<|l9<|rF 1 ?_
     refine rL ?_
     refine rM ?_
     refine d9 (G8 4 (e:=3) (sz:=1) (zs:=[.int .i64 0]) rfl rfl (by kernel_rfl) rfl rfl rfl rfl rfl) ?_
     refine d9 (i8 3 (e:=3) (sz:=1) (by':=8) z7 rfl (by kernel_rfl) rfl rfl rfl rfl rfl rfl (.cons .sc .nil) rfl (by(have:=N6 i2;simp at this;omega)) (by(have:=N6 i2;simp at this;omega))) ?_
     refine rF 1 ?_
     refine rS 1<|c9<|i9<|l9 ?_
     refine rB ?_
     refine rM<|c9 ?_
     refine n8 ?_ (ih0 (m + 1,acc++[z7]) (by(try dsimp only);omega) (by(try dsimp only);exact⟨by omega,iX i2 (by assumption) rfl (bX (by assumption) (by assumption) (by assumption))⟩))
     exact⟨⟨rfl,⟨rfl,⟨rfl,⟨rfl,⟨rfl,⟨(i6 (IH (by omega))),trivial⟩⟩⟩⟩⟩⟩,⟨rfl,⟨rfl,⟨rfl,⟨rfl,trivial⟩⟩⟩⟩,rfl⟩
  ·
   have h5':=l8 h5
   refine m9<|k9<|w9<|rM ?_
   refine d9 (n9 4 4 false (N9 Tryz.func66) (E6 (IntKind.i64.wrap ((-1) - z2))) rfl (.cons rfl (.c .t0) .nil) rfl rfl rfl) ?_
   refine d9 (Q8 rfl rfl) ?_
   refine c9 ?_
   refine j9 rfl (fun h11=>?_) (fun h11=>?_)
   ·
    have h11':=l8 (P4 h11)
    refine w9 ?_
    refine d9 (oD [(0,1),(1,1)] [.int .i64 0,.slice none 0 0]) ?_
    refine rS 2 ?_
    refine rA<|c9 ?_
    refine uZ Tryz.func26 (r8 2 (.tmp rfl .nil)) rfl fun E S w u hI hd=>?_
    obtain rfl:mo=none:=by rw [← hm];exact Z1 i2 (by assumption) rfl (ST (by omega) (ho _ (J8 (by assumption))).1 (by assumption))
    refine P3 hI hd ?_ trivial rfl rfl rfl <;> clear hI hd <;>(try clear ih0)
    all_goals rfl
   ·
    have h11':=j8 (O4 h11)
    refine m9<|l9<|rF 1 ?_
    refine rL ?_
    refine rM ?_
    refine d9 (G8 4 (e:=3) (sz:=1) (zs:=[.int .i64 0]) rfl rfl (by kernel_rfl) rfl rfl rfl rfl rfl) ?_
    refine d9 (i8 3 (e:=3) (sz:=1) (by':=8) (IntKind.i64.wrap ((-1) - z2)) rfl (by kernel_rfl) rfl rfl rfl rfl rfl rfl (.cons .sc .nil) rfl (by(have:=N6 i2;simp at this;omega)) (by(have:=N6 i2;simp at this;omega))) ?_
    refine rF 1 ?_
    refine rS 1<|c9<|i9<|l9 ?_
    refine rB ?_
    refine rM<|c9 ?_
    refine n8 ?_ (ih0 (m + 1,acc++[IntKind.i64.wrap ((-1) - z2)]) (by(try dsimp only);omega) (by(try dsimp only);exact⟨by omega,iX i2 (by assumption) rfl (uT (by omega) (ho _ (J8 (by assumption))).1 (by assumption))⟩))
    exact⟨⟨rfl,⟨rfl,⟨rfl,⟨rfl,⟨rfl,⟨(i6 (IH (by omega))),trivial⟩⟩⟩⟩⟩⟩,⟨rfl,⟨rfl,⟨rfl,⟨rfl,trivial⟩⟩⟩⟩,rfl⟩
 ·
  have h1':=l8 h1
  refine R9 rfl<|w9<|rC 2 ?_
  refine rS 2 ?_
  refine rA<|c9 ?_
  refine uZ Tryz.func26 (r8 2 (.tmp rfl .nil)) rfl fun E S w u hI hd=>?_
  obtain rfl:mo=some acc:=by rw [← hm];rw [List.take_of_length_le (by omega)] at i2;exact i2
  refine P3 hI hd ?_ ⟨E7 ?_,trivial⟩ rfl rfl rfl <;> clear hI hd <;>(try clear ih0)
  all_goals rfl
theorem D1 (r:Int)(l:List Int)(r2:Int)(l2:List Int)(hl:l.length≤1048576)(hl2:l2.length≤1048576):Pu Tryz.prog 69 [.agg [.t none (.v (.int .i64 r)),.t none (.sl 1 f9 l)],.agg [.t none (.v (.int .i64 r2)),.t none (.sl 1 f9 l2)]] [] 0 (.c (.t none (.v (.bool (decide (S8 (r,l) (r2,l2)=0)))))):=by
 refine u6 Tryz.func69 fun w S=>?_
 refine w9 ?_
 refine d9 (X9 0 rfl rfl rfl rfl) ?_
 refine d9 (X9 1 rfl rfl rfl rfl) ?_
 refine rA<|o7 ?_
 refine rC 2 ?_
 refine rC 2 ?_
 refine d9 (n9 2 2 false (N9 Tryz.func44) (E1 r l r2 l2 (by omega) (by omega)) rfl (.cons rfl (.agg (.cons .t0 (.cons .t0 .nil))) (.cons rfl (.agg (.cons .t0 (.cons .t0 .nil))) .nil)) rfl rfl rfl) ?_
 refine rB ?_
 refine rA<|c9 ?_
 refine tk Tryz.func69 (.tmp rfl .nil) ?_
 all_goals rfl
theorem PW (r:Int)(l:List Int)(f:Int × List Int)(hl:l.length≤1048576)(hf:f.2.length≤1048576):Pu Tryz.prog 95 [.agg [.t none (.v (.int .i64 r)),.t none (.sl 1 f9 l)],.c (.pel none ((E9 f9 (B9 1 f9)) f) 2)] [] 0 (.c (.t none (.v (.bool (decide (S8 (r,l) f=0)))))):=by
 refine u6 Tryz.func95 fun w S=>?_
 refine w9 ?_
 refine d9 (X9 0 rfl rfl rfl rfl) ?_
 refine rA<|o7 ?_
 refine rC 2 ?_
 refine d9 (A6 rfl (n:=2) (by kernel_rfl) (by kernel_rfl) rfl rfl) ?_
 refine d9 (n9 1 1 false (N9 Tryz.func69) (D1 r l f.1 f.2 (by omega) (by omega)) rfl (.cons rfl (.agg (.cons .t0 (.cons .t0 .nil))) (.cons rfl (.agg (.cons .t0 (.cons .t0 .nil))) .nil)) rfl rfl rfl) ?_
 refine rA<|c9 ?_
 refine tk Tryz.func95 (.tmp rfl .nil) ?_
 all_goals rfl
theorem Z5 (l:List (Int ×(List Int)))(f:Nat)(cs:List ((Nat→T) × Nat))(p:Int ×(List Int)→Bool)(hl:l.length≤9223372036854775807)(hf:∀x∈l,Fu Tryz.prog f ([.agg [.t none (.v (.int .i64 x.1)),.t none (.sl 1 f9 x.2)]]++ET cs) (.c (.t none (.v (.bool (p x)))))):Pu Tryz.prog 94 [.c (.t none (.sl 2 (E9 f9 (B9 1 f9)) l)),.c (.fv f cs)] [] 0 (.c (.t none (.v (.int .i64 (V1 p l))))):=by
 refine u6 Tryz.func94 fun w S=>?_
 refine w9<|rA<|c9<|k9<|w9 ?_
 refine rM ?_
 refine d9 (S9 rfl rfl rfl) ?_
 refine rM<|c9<|r9 ?_
 refine L9 (fun m=>⟨[(0,some (.c (.t none (.sl 2 (E9 f9 (B9 1 f9)) l)))),(1,some (.c (.fv f cs))),(7,some (.c (.t none (.v (.int .i64 ((l.length:Int))))))),(8,some (.c (.t none (.v (.int .i64 ((m:Int)))))))],[],0⟩:Nat→St) (fun m=>m≤l.length∧∀j z,j < m→l[j]? =some z→p z=false) (fun m=>l.length - m) 0 ⟨⟨rfl,⟨rfl,⟨rfl,⟨rfl,trivial⟩⟩⟩⟩,trivial,rfl⟩ (by exact⟨Nat.zero_le _,fun j z h=>by omega⟩) ?_
 rintro m hI ih0
 try dsimp only at hI ih0
 obtain⟨i1,i2⟩:=hI
 refine w9<|rB<|c9<|k9 ?_
 refine j9 rfl (fun h1=>?_) (fun h1=>?_)
 ·
  have h1':=j8 h1
  refine m9<|k9<|r9<|w9<|rM ?_
  refine rA<|o7 ?_
  refine rM ?_
  refine rM ?_
  refine rM ?_
  obtain⟨z2,hz3,b4⟩:=t9 (xs:=l) (n:=(m:Int)) (by omega) (by omega)
  refine d9 (P9 rfl (by kernel_rfl) rfl rfl b4 hz3) ?_
  refine d9 (A6 rfl (n:=2) (by kernel_rfl) (by kernel_rfl) rfl rfl) ?_
  refine d9 (nR 0 0 false (hf z2 (J8 (by assumption))).1 (hf z2 (J8 (by assumption))).2 rfl rfl (.c .fv) (.cons rfl (.agg (.cons .t0 (.cons .t0 .nil))) .nil) rfl rfl rfl) ?_
  refine c9 ?_
  refine j9 rfl (fun h5=>?_) (fun h5=>?_)
  ·
   have h5':=h5
   refine w9<|rM ?_
   refine rA<|c9 ?_
   refine tk Tryz.func94 (.tmp rfl .nil) ?_ <;>(try clear ih0)
   all_goals(rw [SZ i2 (by assumption) (by assumption)])
  ·
   have h5':=h5
   refine m9<|i9<|l9<|rB ?_
   refine rM<|c9 ?_
   refine n8 ?_ (ih0 (m + 1) (by(try dsimp only);omega) (by(try dsimp only);exact⟨by omega,W4 i2 (by assumption) rfl (by assumption)⟩))
   exact⟨⟨rfl,⟨rfl,⟨rfl,⟨(i6 (s8 (by omega) (by omega))),trivial⟩⟩⟩⟩,trivial,rfl⟩
 ·
  have h1':=l8 h1
  refine R9 rfl<|w9<|rA<|c9 ?_
  refine tk Tryz.func94 (.tmp rfl .nil) ?_ <;>(try clear ih0)
  all_goals(rw [C0 i2 (by omega)])
theorem Q7 (l:List (Int ×(List Int)))(f:Nat)(cs:List ((Nat→T) × Nat))(p:Int ×(List Int)→Bool)(hl:l.length≤9223372036854775807)(hf:∀x∈l,Fu Tryz.prog f ([.agg [.t none (.v (.int .i64 x.1)),.t none (.sl 1 f9 x.2)]]++ET cs) (.c (.t none (.v (.bool (p x)))))):Pu Tryz.prog 46 [.c (.t none (.sl 2 (E9 f9 (B9 1 f9)) l)),.c (.fv f cs)] [] 0 (.c (.t none (.v (.bool (l.any p))))):=by
 refine u6 Tryz.func46 fun w S=>?_
 refine w9<|rA<|o7 ?_
 refine rM ?_
 refine rM ?_
 refine d9 (n9 0 0 false (N9 Tryz.func94) (Z5 l f cs p (by omega) hf) rfl (.cons rfl (.c .t0) (.cons rfl (.c .fv) .nil)) rfl rfl rfl) ?_
 refine rB ?_
 refine rA<|c9 ?_
 refine tk Tryz.func46 (.tmp rfl .nil) ?_
 all_goals(exact N7 eZ)
theorem GY (fs:p9)(r:Int)(ts:List Int)(hfs:l7 (fun(x:Int ×(List Int))=>x.2.length) fs≤1048576)(hts:ts.length≤1048576):Pu Tryz.prog 48 [.c (.t none (.sl 2 (E9 f9 (B9 1 f9)) fs)),.agg [.t none (.v (.int .i64 r)),.t none (.sl 1 f9 ts)]] [] 0 (.c (.t none (.v (.bool (sU fs (r,ts)))))):=by
 refine u6 Tryz.func48 fun w S=>?_
 have gl:=L8 (f:=(fun(x:Int ×(List Int))=>x.2.length)) (l:=fs)
 refine w9 ?_
 refine d9 (X9 0 rfl rfl rfl rfl) ?_
 refine rA<|o7 ?_
 refine rM ?_
 refine d9 (m0 rfl (.cons rfl .nil)) ?_
 refine d9 (n9 1 1 false (N9 Tryz.func46) (Q7 fs 95 ([((E9 f9 (B9 1 f9)) ((r,ts)),2)]) (fun(x0:Int ×(List Int))=>decide (S8 (x0.1,x0.2) ((r,ts))=0)) (by omega) (fun x0 mx0=>⟨N9 Tryz.func95,PW x0.1 x0.2 ((r,ts)) (by(have e1:=PX (f:=(fun(x:Int ×(List Int))=>x.2.length)) (l:=fs) (by assumption);(try dsimp only at e1);omega)) (by omega)⟩)) rfl (.cons rfl (.c .t0) (.cons rfl (.c (.clo (.cons rfl rfl rfl (.cons .t (.cons .t .nil)) .nil))) .nil)) rfl rfl rfl) ?_
 refine rA<|c9 ?_
 refine tk Tryz.func48 (.tmp rfl .nil) ?_
 all_goals rfl
theorem kV (rs:V9)(fs:p9)(a0:List (Int ×(List Int)))(a1:List (Int ×(List Int)))(a2:Bool)(a3:Int)(a4:Int)(b:List Int)(hrs:rs.length≤4611686018427387904)(hfs:l7 (fun(x:Int ×(List Int))=>x.2.length) fs≤1048576)(ho:∀z∈fs,∀x∈z.2,s7 x)(hs:l7 (fun(x:Int ×(List Int))=>x.2.length) a0 + l7 (fun(x:Int ×(List Int))=>x.2.length) a1≤1048576)(hoa:∀z∈a0,∀x∈z.2,s7 x)(hob:∀x∈b,s7 x)(hbl:b.length≤1048576):Pu Tryz.prog 49 [.agg [.t none (.sl 3 (d8 Z9 f9 a8) rs),.t none (.sl 2 (E9 f9 (B9 1 f9)) fs)],.agg [.t none (.sl 2 (E9 f9 (B9 1 f9)) a0),.t none (.sl 2 (E9 f9 (B9 1 f9)) a1),.t none (.v (.bool a2)),.t none (.v (.int .i64 a3)),.t none (.v (.int .i64 a4))],.c (.t none (.sl 1 f9 b))] [] 0 (.c (.t none (.v (.bool (J5 rs fs a0 a1 a2 a3 a4 b))))):=by
 refine u6 Tryz.func49 fun w S=>?_
 have g0:=L8 (f:=(fun(x:Int ×(List Int))=>x.2.length)) (l:=a0);have v0:=F7 (F9 a0);have v1:=H7 a0
 refine w9 ?_
 refine d9 (X9 0 rfl rfl rfl rfl) ?_
 refine d9 (X9 1 rfl rfl rfl rfl) ?_
 refine rA<|c9<|k9<|w9 ?_
 refine rC 2 ?_
 refine d9 (n9 2 2 false (N9 Tryz.func12) (f7 rs fs (by omega) (by omega) (by omega)) rfl (.cons rfl (.agg (.cons .t0 (.cons .t0 .nil))) .nil) rfl rfl rfl) ?_
 refine d9 (Q8 rfl rfl) ?_
 refine rM ?_
 refine x9 (fun g1=>?_) (fun g1=>?_)
 ·
  have g1':=(O4 g1)
  refine rF 0 ?_
  refine x9 (fun _=>?_) (C9 g1)
  refine rL ?_
  refine x9 (fun _=>?_) (C9 g1)
  refine rC 5 ?_
  refine x9 (fun _=>?_) (C9 g1)
  refine d9 (n9 2 2 false (N9 Tryz.func96) (gZ rs a0 a1 a2 a3 a4 (by omega) (by omega)) rfl (.cons rfl (.c .t0) (.cons rfl (.agg (.cons .t0 (.cons .t0 (.cons .t0 (.cons .t0 (.cons .t0 .nil)))))) .nil)) rfl rfl rfl) ?_
  refine x9 (fun _=>?_) (C9 g1)
  refine d9 (Q8 rfl rfl) ?_
  refine d9 (H9 rfl rfl g1 rfl) ?_
  refine rM ?_
  refine x9 (fun g2=>?_) (fun g2=>?_)
  ·
   have g2':=(O4 g2)
   refine rM ?_
   refine x9 (fun _=>?_) (C9 g2)
   refine d9 (S9 rfl rfl rfl) ?_
   refine x9 (fun _=>?_) (C9 g2)
   refine rB ?_
   refine d9 (H9 rfl rfl g2 rfl) ?_
   refine c9 ?_
   refine j9 rfl (fun h3=>?_) (fun h3=>?_)
   ·
    have h3':=j8 h3
    refine w9<|rA<|c9 ?_
    refine tk Tryz.func49 (.tmp rfl .nil) ?_ <;>(try clear ih0) <;>(try clear ih1)
    all_goals(refine N7 ?_;(unfold J5;clear hrs hfs ho hs hoa hob g0 v0 v1;grind))
   ·
    have h3':=l8 h3
    refine m9<|w9<|rF 0 ?_
    refine rL ?_
    refine d9 (n9 2 3 false (N9 Tryz.func97) (F4 a0 (by omega)) rfl (.cons rfl (.c .t0) .nil) rfl rfl rfl) ?_
    refine rA<|c9<|k9<|w9 ?_
    refine rM ?_
    refine d9 (S9 rfl rfl rfl) ?_
    refine rM<|c9<|r9 ?_
    refine L9 (fun m=>⟨[(2,some (.c (.t none (.sl 1 f9 b)))),(3,some (.c (.ptr 0 0))),(4,some (.c (.ptr 1 0))),(7,some (.c (.own 2))),(32,some (.c (.t none (.sl 1 f9 b)))),(33,some (.c (.t none (.v (.int .i64 ((b.length:Int))))))),(34,some (.c (.t none (.v (.int .i64 ((m:Int)))))))],[(0,some (.box [.t none (.sl 3 (d8 Z9 f9 a8) rs),.t none (.sl 2 (E9 f9 (B9 1 f9)) fs)])),(1,some (.box [.t none (.sl 2 (E9 f9 (B9 1 f9)) a0),.t none (.sl 2 (E9 f9 (B9 1 f9)) a1),.t none (.v (.bool a2)),.t none (.v (.int .i64 a3)),.t none (.v (.int .i64 a4))])),(2,some (.row none 3 true 1 f9 (G9 (F9 a0))))],3⟩:Nat→St) (fun m=>m≤b.length∧∀j,j < m→TZ (G9 (F9 a0)) b j=true) (fun m=>b.length - m) 0 ⟨⟨rfl,⟨rfl,⟨rfl,⟨rfl,⟨rfl,⟨rfl,⟨rfl,trivial⟩⟩⟩⟩⟩⟩⟩,⟨rfl,⟨rfl,⟨rfl,trivial⟩⟩⟩,rfl⟩ (by exact⟨Nat.zero_le _,fun j h=>by omega⟩) ?_
    rintro m hI ih0
    try dsimp only at hI ih0
    obtain⟨i1,i2⟩:=hI
    refine w9<|rB<|c9<|k9 ?_
    refine j9 rfl (fun h4=>?_) (fun h4=>?_)
    ·
     have h4':=j8 h4
     refine m9<|k9<|r9<|w9<|rM ?_
     obtain⟨z5,hz6,b7⟩:=t9 (xs:=b) (n:=(m:Int)) (by omega) (by omega)
     refine d9 (P9 rfl (by kernel_rfl) rfl rfl b7 hz6) ?_
     refine d9 (c8 rfl (by kernel_rfl) rfl rfl) ?_
     refine rA ?_
     refine rA<|o7 ?_
     refine rM ?_
     refine rB ?_
     refine rM ?_
     refine rM ?_
     refine d9 (n9 3 3 false (N9 Tryz.func98) (P7 (G9 (F9 a0)) ((m:Int)) (by omega)) rfl (.cons rfl (.c (.own rfl)) (.cons rfl (.c .t0) .nil)) rfl rfl rfl) ?_
     refine d9 (XH rfl Tryz.underlying4 rfl rfl) ?_
     refine c9 ?_
     refine j9 rfl (fun h8=>?_) (fun h8=>?_)
     ·
      have h8':=h8
      try simp only [decide_eq_true_eq,decide_eq_false_iff_not,Bool.not_eq_true',Bool.not_eq_false',Bool.not_false,Bool.not_true] at h8'
      refine w9<|rA<|c9 ?_
      refine tk Tryz.func49 (.tmp rfl .nil) ?_ <;>(try clear ih0) <;>(try clear ih1)
      all_goals(refine N7 ?_;((have e:YX (G9 (F9 a0)) b=false:=OU (m:=m) (by omega) (by rw [B0 (V:=G9 (F9 a0)) (m:=m) hz6];(exact GJ (by assumption))));(unfold J5;rw [e];simp;done)))
     ·
      have h8':=h8
      try simp only [decide_eq_true_eq,decide_eq_false_iff_not,Bool.not_eq_true',Bool.not_eq_false',Bool.not_false,Bool.not_true] at h8'
      refine m9<|i9<|l9<|rB ?_
      refine rM<|c9 ?_
      refine n8 ?_ (ih0 (m + 1) (by(try dsimp only);omega) (by(try dsimp only);exact⟨by omega,d6 i2 (by rw [B0 (V:=G9 (F9 a0)) (m:=m) hz6];(exact mH (by assumption)))⟩))
      exact⟨⟨rfl,⟨rfl,⟨rfl,⟨rfl,⟨rfl,⟨rfl,⟨(i6 (s8 (by omega) (by omega))),trivial⟩⟩⟩⟩⟩⟩⟩,⟨rfl,⟨rfl,⟨rfl,trivial⟩⟩⟩,rfl⟩
    ·
     have h4':=l8 h4
     refine R9 rfl<|k9<|w9<|rF 0 ?_
     refine rL ?_
     refine d9 (S9 rfl rfl rfl) ?_
     refine rM<|c9<|r9 ?_
     refine L9 (fun n=>⟨[(2,some (.c (.t none (.sl 1 f9 b)))),(3,some (.c (.ptr 0 0))),(47,some (.c (.t none (.sl 2 (E9 f9 (B9 1 f9)) a0)))),(48,some (.c (.t none (.v (.int .i64 ((a0.length:Int))))))),(49,some (.c (.t none (.v (.int .i64 ((n:Int)))))))],[(0,some (.box [.t none (.sl 3 (d8 Z9 f9 a8) rs),.t none (.sl 2 (E9 f9 (B9 1 f9)) fs)])),(1,some (.box [.t none (.sl 2 (E9 f9 (B9 1 f9)) a0),.t none (.sl 2 (E9 f9 (B9 1 f9)) a1),.t none (.v (.bool a2)),.t none (.v (.int .i64 a3)),.t none (.v (.int .i64 a4))])),(2,some (.row none 3 true 1 f9 (G9 (F9 a0))))],3⟩:Nat→St) (fun n=>n≤a0.length∧∀j z,j < n→a0[j]? =some z→U4 fs b z=true) (fun n=>a0.length - n) 0 ⟨⟨rfl,⟨rfl,⟨rfl,⟨rfl,⟨rfl,trivial⟩⟩⟩⟩⟩,⟨rfl,⟨rfl,⟨rfl,trivial⟩⟩⟩,rfl⟩ (by exact⟨Nat.zero_le _,fun j z h=>by omega⟩) ?_
     rintro n hI ih1
     try dsimp only at hI ih1
     obtain⟨k1,k2⟩:=hI
     refine w9<|rB<|c9<|k9 ?_
     refine j9 rfl (fun h9=>?_) (fun h9=>?_)
     ·
      have h9':=j8 h9
      refine m9<|k9<|r9<|w9 ?_
      obtain⟨z10,hz11,b12⟩:=t9 (xs:=a0) (n:=(n:Int)) (by omega) (by omega)
      refine d9 (P9 rfl (by kernel_rfl) rfl rfl b12 hz11) ?_
      refine d9 (A6 rfl (n:=2) (by kernel_rfl) (by kernel_rfl) rfl rfl) ?_
      refine d9 (I9 3 (zs:=[.int .i64 0,.slice none 0 0]) rfl rfl (by kernel_rfl) rfl) ?_
      refine rS 2<|o7 ?_
      refine rC 2 ?_
      refine rM ?_
      rcases hm13:Y8 b z10.2 with _ | q15
      ·
       refine d9 (n9 4 8 false (N9 Tryz.func26) (O5 z10.1 z10.2 b (by(have e1:=j6 (f:=(fun(x:Int ×(List Int))=>x.2.length)) (l:=a0) (m:=n) (by assumption);(try dsimp only at e1);omega)) (by exact hoa _ (J8 (by assumption))) _ hm13) rfl (.cons rfl (.agg (.cons .t0 (.cons .t0 .nil))) (.cons rfl (.c .t0) .nil)) rfl rfl rfl) ?_
       refine rM ?_
       refine d9 (O9 rfl rfl rfl rfl) ?_
       refine d9 (O9 rfl rfl rfl rfl) ?_
       refine d9 (I9 8 (zs:=[.int .i64 0,.slice none 0 0]) rfl rfl (by kernel_rfl) rfl) ?_
       refine rS 2 ?_
       refine rA<|o7 ?_
       refine rM ?_
       refine d9 (Q8 rfl rfl) ?_
       refine rM ?_
       refine x9 (nc rfl) (fun _=>?_)
       refine x9 (nc rfl) (fun _=>?_)
       refine x9 (nc rfl) (fun _=>?_)
       refine x9 (nc rfl) (fun _=>?_)
       refine x9 (nc rfl) (fun _=>?_)
       refine d9 (M9 rfl rfl rfl rfl) ?_
       refine c9 ?_
       refine j9 rfl (fun _=>?_) (nc rfl)
       refine w9<|rA<|c9 ?_
       refine tk Tryz.func49 (.tmp rfl .nil) ?_ <;>(try clear ih0) <;>(try clear ih1)
       all_goals(refine N7 ?_;((have e:a0.all (U4 fs b)=false:=WV hz11 (by exact rP (by assumption)));(unfold J5;rw [e];simp;done)))
      ·
       refine d9 (n9 4 8 false (N9 Tryz.func26) (O5 z10.1 z10.2 b (by(have e1:=j6 (f:=(fun(x:Int ×(List Int))=>x.2.length)) (l:=a0) (m:=n) (by assumption);(try dsimp only at e1);omega)) (by exact hoa _ (J8 (by assumption))) _ hm13) rfl (.cons rfl (.agg (.cons .t0 (.cons .t0 .nil))) (.cons rfl (.c .t0) .nil)) rfl rfl rfl) ?_
       refine rM ?_
       refine d9 (O9 rfl rfl rfl rfl) ?_
       refine d9 (O9 rfl rfl rfl rfl) ?_
       refine d9 (I9 8 (zs:=[.int .i64 0,.slice none 0 0]) rfl rfl (by kernel_rfl) rfl) ?_
       refine rS 2 ?_
       refine rA<|o7 ?_
       refine rM ?_
       refine d9 (Q8 rfl rfl) ?_
       refine rM ?_
       refine x9 (fun _=>?_) (C9 rfl)
       refine rF 1 ?_
       refine x9 (fun _=>?_) (C9 rfl)
       refine rL ?_
       refine x9 (fun _=>?_) (C9 rfl)
       refine rC 2 ?_
       refine x9 (fun _=>?_) (C9 rfl)
       refine d9 (n9 9 9 false (N9 Tryz.func48) (GY fs z10.1 q15 (by omega) (by(have e5:=N6 (by assumption);have e1:=j6 (f:=(fun(x:Int ×(List Int))=>x.2.length)) (l:=a0) (m:=n) (by assumption);(try dsimp only at e1);omega))) rfl (.cons rfl (.c .t0) (.cons rfl (.agg (.cons .t0 (.cons (.own rfl) .nil))) .nil)) rfl rfl rfl) ?_
       refine x9 (fun _=>?_) (C9 rfl)
       refine d9 (Q8 rfl rfl) ?_
       refine d9 (H9 rfl rfl rfl rfl) ?_
       refine c9 ?_
       refine j9 rfl (fun h16=>?_) (fun h16=>?_)
       ·
        have h16':=(P4 h16)
        refine w9<|rA<|c9 ?_
        refine tk Tryz.func49 (.tmp rfl .nil) ?_ <;>(try clear ih0) <;>(try clear ih1)
        all_goals(refine N7 ?_;((have e:a0.all (U4 fs b)=false:=WV hz11 (by(rw [sY (by assumption)];simp_all)));(unfold J5;rw [e];simp;done)))
       ·
        have h16':=(O4 h16)
        refine m9<|i9<|l9<|rB ?_
        refine rM<|c9 ?_
        refine n8 ?_ (ih1 (n + 1) (by(try dsimp only);omega) (by(try dsimp only);exact⟨by omega,LR k2 hz11 rfl (by rw [sY (by assumption)];simp_all)⟩))
        exact⟨⟨rfl,⟨rfl,⟨rfl,⟨rfl,⟨(i6 (s8 (by omega) (by omega))),trivial⟩⟩⟩⟩⟩,⟨rfl,⟨rfl,⟨rfl,trivial⟩⟩⟩,rfl⟩
     ·
      have h9':=l8 h9
      refine R9 rfl<|w9<|rA<|c9 ?_
      refine tk Tryz.func49 (.tmp rfl .nil) ?_ <;>(try clear ih0) <;>(try clear ih1)
      all_goals(refine N7 ?_;(unfold J5;rw [sT i2 (by omega),WO k2 (by omega)];clear hrs hfs ho hs hoa hob g0 v0 v1;grind))
  ·
   have g2':=(P4 g2)
   refine x9 (nc g2) (fun _=>?_)
   refine x9 (nc g2) (fun _=>?_)
   refine d9 (M9 rfl rfl g2 rfl) ?_
   refine c9 ?_
   refine j9 rfl (fun _=>?_) (nc rfl)
   refine w9<|rA<|c9 ?_
   refine tk Tryz.func49 (.tmp rfl .nil) ?_ <;>(try clear ih0) <;>(try clear ih1)
   all_goals(refine N7 ?_;(unfold J5;clear hrs hfs ho hs hoa hob g0 v0 v1;grind))
 ·
  have g1':=(P4 g1)
  refine x9 (nc g1) (fun _=>?_)
  refine x9 (nc g1) (fun _=>?_)
  refine x9 (nc g1) (fun _=>?_)
  refine x9 (nc g1) (fun _=>?_)
  refine d9 (M9 rfl rfl g1 rfl) ?_
  refine rM ?_
  refine x9 (nc rfl) (fun _=>?_)
  refine x9 (nc rfl) (fun _=>?_)
  refine x9 (nc rfl) (fun _=>?_)
  refine d9 (M9 rfl rfl rfl rfl) ?_
  refine c9 ?_
  refine j9 rfl (fun _=>?_) (nc rfl)
  refine w9<|rA<|c9 ?_
  refine tk Tryz.func49 (.tmp rfl .nil) ?_ <;>(try clear ih0) <;>(try clear ih1)
  all_goals(refine N7 ?_;(unfold J5;clear hrs hfs ho hs hoa hob g0 v0 v1;grind))
theorem vX (rs:V9)(fs l:p9)(hrs:rs.length≤4611686018427387904)(hfs:l7 (fun(x:Int ×(List Int))=>x.2.length) fs≤1048576)(hll:l7 (fun(x:Int ×(List Int))=>x.2.length) l≤1048576)(ho:∀z∈fs,∀x∈z.2,s7 x):Pu Tryz.prog 99 [.agg [.t none (.sl 3 (d8 Z9 f9 a8) rs),.t none (.sl 2 (E9 f9 (B9 1 f9)) fs)],.c (.t none (.sl 2 (E9 f9 (B9 1 f9)) l))] [] 0 (.c (.t none (.v (.bool (xX rs fs l))))):=by
 refine u6 Tryz.func99 fun w S=>?_
 have gl:=L8 (f:=(fun(x:Int ×(List Int))=>x.2.length)) (l:=l)
 refine w9 ?_
 refine d9 (X9 0 rfl rfl rfl rfl) ?_
 refine rA<|o7 ?_
 refine rC 2 ?_
 refine d9 (n9 1 1 false (N9 Tryz.func12) (f7 rs fs (by omega) (by omega) (by omega)) rfl (.cons rfl (.agg (.cons .t0 (.cons .t0 .nil))) .nil) rfl rfl rfl) ?_
 refine rM ?_
 refine x9 (fun g1=>?_) (fun g1=>?_)
 ·
  have g1':=g1
  refine rM ?_
  refine x9 (fun _=>?_) (nc g1)
  refine d9 (S9 rfl rfl rfl) ?_
  refine x9 (fun _=>?_) (nc g1)
  refine rB ?_
  refine x9 (fun _=>?_) (nc g1)
  refine rM ?_
  refine x9 (fun g2=>?_) (fun g2=>?_)
  ·
   have g2':=l8 g2
   refine rF 0 ?_
   refine x9 (fun _=>?_) (C9 g2)
   refine rL ?_
   refine x9 (fun _=>?_) (C9 g2)
   refine rM ?_
   refine x9 (fun _=>?_) (C9 g2)
   refine d9 (n9 1 1 false (N9 Tryz.func126) (C1 rs l 3 (by omega) (by omega)) rfl (.cons rfl (.c .t0) (.cons rfl (.c .t0) (.cons rfl (.c .t0) .nil))) rfl rfl rfl) ?_
   refine x9 (fun _=>?_) (nc g1)
   refine d9 (H9 rfl rfl g2 rfl) ?_
   refine d9 (M9 rfl rfl g1 rfl) ?_
   refine rA<|c9 ?_
   refine tk Tryz.func99 (.tmp rfl .nil) ?_
   all_goals(refine N7 ?_;clear hrs hfs hll ho gl;unfold xX;(try unfold I7 at *);grind)
  ·
   have g2':=j8 g2
   refine x9 (nc g2) (fun _=>?_)
   refine x9 (nc g2) (fun _=>?_)
   refine x9 (nc g2) (fun _=>?_)
   refine x9 (fun _=>?_) (nc g1)
   refine d9 (M9 rfl rfl g2 rfl) ?_
   refine d9 (M9 rfl rfl g1 rfl) ?_
   refine rA<|c9 ?_
   refine tk Tryz.func99 (.tmp rfl .nil) ?_
   all_goals(refine N7 ?_;clear hrs hfs hll ho gl;unfold xX;(try unfold I7 at *);grind)
 ·
  have g1':=g1
  refine x9 (C9 g1) (fun _=>?_)
  refine x9 (C9 g1) (fun _=>?_)
  refine x9 (C9 g1) (fun _=>?_)
  refine n4 rfl rfl rfl ?_
  refine n4 rfl rfl rfl ?_
  refine n4 rfl rfl rfl ?_
  refine n4 rfl rfl rfl ?_
  refine x9 (C9 g1) (fun _=>?_)
  refine d9 (H9 rfl rfl g1 rfl) ?_
  refine rA<|c9 ?_
  refine tk Tryz.func99 (.tmp rfl .nil) ?_
  all_goals(refine N7 ?_;clear hrs hfs hll ho gl;unfold xX;(try unfold I7 at *);grind)
theorem a6 (l:List Int)(hl:l.length≤1099511627776):Pu Tryz.prog 23 [.c (.t none (.sl 1 f9 l))] [(0,some (.row none 3 true 1 f9 l))] 1 (.c (.own 0)):=by
 refine u6 Tryz.func23 fun w S=>?_
 refine w9<|rA<|c9<|k9<|w9 ?_
 refine rM ?_
 refine nN rfl rfl rfl (fun en1=>?_) ?_
 ·
  refine c9 ?_
  refine j9 rfl (fun _=>?_) (nc rfl)
  refine w9<|rA<|c9 ?_
  refine vU 0 (t:=2) (et:=3) (sz:=1) true f9 rfl rfl ?_
  refine tk Tryz.func23 (.tmp rfl .nil) ?_ (hL:=⟨E7 ?_,trivial⟩)
  all_goals first | rfl | ((exact en1.symm))
 ·
  refine c9 ?_
  refine j9 rfl (C9 rfl) (fun _=>?_)
  refine m9<|w9 ?_
  refine d9 (C7 0 (e:=3) (sz:=1) (zs:=[.int .i64 0]) f9 rfl rfl (by kernel_rfl) rfl) ?_
  refine rM ?_
  refine d9 (a7 0 (e:=3) (sz:=1) (by':=8) rfl (by kernel_rfl) rfl rfl rfl rfl (fun _ _=>⟨_,rfl⟩) (by(simp;omega)) (by(simp;omega))) ?_
  refine rA<|c9 ?_
  refine tk Tryz.func23 (.tmp rfl .nil) ?_ (hL:=⟨E7 ?_,trivial⟩)
  all_goals rfl
theorem JR (b:List Int)(r:Int)(ts:List Int)(r2:Int)(vs:List Int)(hb:b.length=5)(ha:ts.length≤4611686018427387904)(ht:∀t∈ts, -10≤t∧t≤4)(hv:r=r2→ts.length=vs.length):Pu Tryz.prog 130 [.c (.t none (.sl 1 f9 b)),.agg [.t none (.v (.int .i64 r)),.t none (.sl 1 f9 ts)],.agg [.t none (.v (.int .i64 r2)),.t none (.sl 1 f9 vs)]] [(0,some (.row none 3 true 1 f9 (if (w5 (r,ts) (r2,vs) b).2=true then(w5 (r,ts) (r2,vs) b).1 else [])))] 1 (.tup [(false,[.own 0]),(false,[.t none (.v (.bool ((w5 (r,ts) (r2,vs) b).2)))])]):=by
 refine u6 Tryz.func130 fun w S=>?_
 refine w9 ?_
 refine d9 (X9 0 rfl rfl rfl rfl) ?_
 refine d9 (X9 1 rfl rfl rfl rfl) ?_
 refine rA ?_
 refine rA<|c9<|k9<|w9 ?_
 refine rF 0 ?_
 refine rL ?_
 refine rF 0 ?_
 refine rL ?_
 refine rB<|c9 ?_
 refine j9 rfl (fun h1=>?_) (fun h1=>?_)
 ·
  have h1':=j8 h1
  refine w9<|rA ?_
  refine rA<|c9 ?_
  refine vU 2 (t:=6) (et:=3) (sz:=1) true f9 rfl rfl ?_
  refine Q1 6 2 7 rfl rfl rfl rfl ?_
  refine tk Tryz.func130 (.tmp rfl (.tmp rfl .nil)) ?_ (hL:=⟨E7 ?_,trivial⟩) <;>(try clear ih0)
  all_goals((have e:w5 (r,ts) (r2,vs) b=_:=(by exact sO (by omega)));first | (rw [e];done) | (rw [e];rfl))
 ·
  have h1':=l8 h1
  refine m9<|w9<|rM ?_
  refine d9 (n9 2 3 false (N9 Tryz.func23) (a6 b (by omega)) rfl (.cons rfl (.c .t0) .nil) rfl rfl rfl) ?_
  refine rA<|c9<|k9<|w9 ?_
  refine rF 1 ?_
  refine rL ?_
  refine d9 (S9 rfl rfl rfl) ?_
  refine rM<|c9<|r9 ?_
  refine L9 (fun(m,q)=>⟨[(5,some (.c (.ptr 1 0))),(8,some (.c (.own 2))),(20,some (.c (.t none (.sl 1 f9 ts)))),(21,some (.c (.t none (.v (.int .i64 ((ts.length:Int))))))),(22,some (.c (.t none (.v (.int .i64 ((m:Int)))))))],[(0,some (.box [.t none (.v (.int .i64 r)),.t none (.sl 1 f9 ts)])),(1,some (.box [.t none (.v (.int .i64 r2)),.t none (.sl 1 f9 vs)])),(2,some (.row none 3 true 1 f9 q))],3⟩:Nat × List Int→St) (fun(m,q)=>m≤ts.length∧q.length=5∧B1 b ((ts.zip vs).take m)=(q,true)) (fun(m,q)=>ts.length - m) (0,b) ⟨⟨rfl,⟨rfl,⟨rfl,⟨rfl,⟨rfl,trivial⟩⟩⟩⟩⟩,⟨rfl,⟨rfl,⟨rfl,trivial⟩⟩⟩,rfl⟩ (by exact⟨Nat.zero_le _,hb,rfl⟩) ?_
  rintro⟨m,q⟩ hI ih0
  try dsimp only at hI ih0
  obtain⟨i1,i2,i3⟩:=hI
  refine w9<|rB<|c9<|k9 ?_
  refine j9 rfl (fun h2=>?_) (fun h2=>?_)
  ·
   have h2':=j8 h2
   refine m9<|k9<|r9<|w9<|rM ?_
   obtain⟨z3,hz4,b5⟩:=t9 (xs:=ts) (n:=(m:Int)) (by omega) (by omega)
   refine d9 (P9 rfl (by kernel_rfl) rfl rfl b5 hz4) ?_
   refine d9 (c8 rfl (by kernel_rfl) rfl rfl) ?_
   refine rA ?_
   refine rA<|o7 ?_
   refine rF 1 ?_
   refine rL ?_
   refine rM ?_
   obtain⟨z6,hz7,b8⟩:=t9 (xs:=vs) (n:=(m:Int)) (by omega) (by omega)
   refine d9 (P9 rfl (by kernel_rfl) rfl rfl b8 hz7) ?_
   refine d9 (c8 rfl (by kernel_rfl) rfl rfl) ?_
   refine rA<|c9<|r9<|w9 ?_
   refine rM ?_
   refine rB ?_
   refine rA<|c9 ?_
   refine j9 rfl (fun h9=>?_) (fun h9=>?_)
   ·
    have h9':=j8 h9
    refine w9<|rM ?_
    refine rM ?_
    refine rB ?_
    refine rB<|c9 ?_
    refine j9 rfl (fun h10=>?_) (fun h10=>?_)
    ·
     have h10':=j8 h10
     refine w9<|rA ?_
     refine rA<|c9 ?_
     refine vU 3 (t:=6) (et:=3) (sz:=1) true f9 rfl rfl ?_
     refine Q1 6 3 7 rfl rfl rfl rfl ?_
     refine tk Tryz.func130 (.tmp rfl (.tmp rfl .nil)) ?_ (hL:=⟨E7 ?_,trivial⟩) <;>(try clear ih0)
     all_goals((have e:w5 (r,ts) (r2,vs) b=_:=(by exact vZ (by omega) (mU i3 (hZ hz4 hz7 rfl rfl) (BU (by omega) (by(have o1:=ht _ (J8 hz4);have o2:IntKind.i64.wrap (-1 - z3)= -1 - z3:=s8 (by omega) (by omega);omega))))));first | (rw [e];done) | (rw [e];rfl))
    ·
     have h10':=l8 h10
     refine m9<|i9<|i9<|l9<|rB ?_
     refine rM<|c9 ?_
     refine n8 ?_ (ih0 (m + 1,q) (by(try dsimp only);omega) (by(try dsimp only);exact⟨by omega,(by exact i2),by(exact AZ i3 (hZ hz4 hz7 rfl rfl) (LP (by omega) (by(have o1:=ht _ (J8 hz4);have o2:IntKind.i64.wrap (-1 - z3)= -1 - z3:=s8 (by omega) (by omega);omega))))⟩))
     exact⟨⟨rfl,⟨rfl,⟨rfl,⟨rfl,⟨(i6 (s8 (by omega) (by omega))),trivial⟩⟩⟩⟩⟩,⟨rfl,⟨rfl,⟨rfl,trivial⟩⟩⟩,rfl⟩
   ·
    have h9':=l8 h9
    refine w9<|rM ?_
    refine rM ?_
    obtain⟨z11,hz12,b13⟩:=t9 (xs:=q) (n:=z3) (by omega) (by(have o1:=ht _ (J8 (by assumption));omega))
    refine d9 (t8 rfl (by kernel_rfl) rfl rfl rfl b13 (f8 b13 hz12)) ?_
    refine d9 (p8 rfl (by kernel_rfl) rfl rfl rfl hz12) ?_
    refine rB ?_
    refine rA<|c9 ?_
    refine j9 rfl (fun h14=>?_) (fun h14=>?_)
    ·
     have h14':=j8 h14
     refine l9<|rM ?_
     refine rM ?_
     refine rM ?_
     refine d9 (t8 rfl (by kernel_rfl) rfl rfl rfl b13 (f8 b13 hz12)) ?_
     refine d9 (D8 z6 (n:=1) (by kernel_rfl) rfl rfl hz12 rfl rfl rfl rfl (.cons .sc .nil) rfl (fun j h1 h2=>by(simp at h1 h2;omega))) ?_
     refine c9<|i9<|i9<|l9<|rB ?_
     refine rM<|c9 ?_
     refine n8 ?_ (ih0 (m + 1,q.set z3.toNat z6) (by(try dsimp only);omega) (by(try dsimp only);exact⟨by omega,(by(rw [List.length_set];exact i2)),by(exact AZ i3 (hZ hz4 hz7 rfl rfl) (yR (by omega) hz12 (by omega)))⟩))
     exact⟨⟨rfl,⟨rfl,⟨rfl,⟨rfl,⟨(i6 (s8 (by omega) (by omega))),trivial⟩⟩⟩⟩⟩,⟨rfl,⟨rfl,⟨rfl,trivial⟩⟩⟩,rfl⟩
    ·
     have h14':=l8 h14
     refine w9<|rM ?_
     refine rM ?_
     refine d9 (t8 rfl (by kernel_rfl) rfl rfl rfl b13 (f8 b13 hz12)) ?_
     refine d9 (p8 rfl (by kernel_rfl) rfl rfl rfl hz12) ?_
     refine rM ?_
     refine rB ?_
     refine rA<|c9 ?_
     refine j9 rfl (fun h15=>?_) (fun h15=>?_)
     ·
      have h15':=j8 h15
      refine w9<|rA ?_
      refine rA<|c9 ?_
      refine vU 3 (t:=6) (et:=3) (sz:=1) true f9 rfl rfl ?_
      refine Q1 6 3 7 rfl rfl rfl rfl ?_
      refine tk Tryz.func130 (.tmp rfl (.tmp rfl .nil)) ?_ (hL:=⟨E7 ?_,trivial⟩) <;>(try clear ih0)
      all_goals((have e:w5 (r,ts) (r2,vs) b=_:=(by exact vZ (by omega) (mU i3 (hZ hz4 hz7 rfl rfl) (xK (by omega) hz12 (by omega) (by omega)))));first | (rw [e];done) | (rw [e];rfl))
     ·
      have h15':=l8 h15
      refine m9<|i9<|i9<|l9<|rB ?_
      refine rM<|c9 ?_
      refine n8 ?_ (ih0 (m + 1,q) (by(try dsimp only);omega) (by(try dsimp only);exact⟨by omega,(by exact i2),by(exact AZ i3 (hZ hz4 hz7 rfl rfl) (gI (by omega) hz12 (by omega)))⟩))
      exact⟨⟨rfl,⟨rfl,⟨rfl,⟨rfl,⟨(i6 (s8 (by omega) (by omega))),trivial⟩⟩⟩⟩⟩,⟨rfl,⟨rfl,⟨rfl,trivial⟩⟩⟩,rfl⟩
  ·
   have h2':=l8 h2
   refine R9 rfl<|w9<|rM ?_
   refine rA ?_
   refine rA<|c9 ?_
   refine Q1 6 2 7 rfl rfl rfl rfl ?_
   refine tk Tryz.func130 (.tmp rfl (.tmp rfl .nil)) ?_ (hL:=⟨E7 ?_,trivial⟩) <;>(try clear ih0)
   all_goals((have e:w5 (r,ts) (r2,vs) b=_:=(by exact vZ (by omega) (AO i3 (by omega))));first | (rw [e];done) | (rw [e];rfl))
theorem QW:∀(n:Nat) (U:Nat→Value) (fs l:p9) (b:List Int) (hf:fs.length≤30) (hl:l.length≤3) (hb:b.length=5) (hv:∀a∈l,∀f∈fs,a.1=f.1→a.2.length=f.2.length) (ht:∀a∈l,(∀t∈a.2, -10≤t∧t≤4)∧a.2.length≤4611686018427387904) (hn:l.length=n),Mu Tryz.prog 100 [.c (.t none (.sl 2 (E9 f9 (B9 1 f9)) fs)),.c (.t none (.sl 2 (E9 f9 (B9 1 f9)) l)),.c (.own 0)] [(0,some (.row (some (U 0)) 3 true 1 f9 b))] 1 [(0,some (.row none 31 true 1 (B9 1 f9) (v8 fs l b)))] 1 (.c (.own 0)):=by
 refine bO fun n ih=>?_
 intro U fs l b hf hl hb hv ht hn
 have rec_:∀(U:Nat→Value) (fs l:p9) (b:List Int) (hdec:l.length < n) (hf:fs.length≤30) (hl:l.length≤3) (hb:b.length=5) (hv:∀a∈l,∀f∈fs,a.1=f.1→a.2.length=f.2.length) (ht:∀a∈l,(∀t∈a.2, -10≤t∧t≤4)∧a.2.length≤4611686018427387904),Mu Tryz.prog 100 [.c (.t none (.sl 2 (E9 f9 (B9 1 f9)) fs)),.c (.t none (.sl 2 (E9 f9 (B9 1 f9)) l)),.c (.own 0)] [(0,some (.row (some (U 0)) 3 true 1 f9 b))] 1 [(0,some (.row none 31 true 1 (B9 1 f9) (v8 fs l b)))] 1 (.c (.own 0)):=fun U fs l b hdec hf hl hb hv ht=>ih _ hdec U fs l b hf hl hb hv ht rfl
 refine AY Tryz.func100 rfl (Nat.le_of_ble_eq_true rfl) fun w S M=>?_
 refine w9<|rA<|c9<|k9<|w9 ?_
 refine rM ?_
 refine d9 (S9 rfl rfl rfl) ?_
 refine rB<|c9 ?_
 refine j9 rfl (fun h1=>?_) (fun h1=>?_)
 ·
  have h1':=j8 h1
  refine w9<|rM ?_
  refine d9 (wK 1 (e:=31) (sz:=1) (zs:=[.slice none 0 0]) (enc:=(B9 1 f9)) b rfl rfl (by kernel_rfl) rfl rfl rfl rfl rfl rfl (.take (.own rfl) rfl .nil) rfl) ?_
  refine rA<|c9 ?_
  refine UY 6 1 rfl rfl ?_
  refine ER Tryz.func100 (.tmp rfl .nil) ?_ (hL:=⟨E7 ?_,trivial⟩) <;>(try clear ih0)
  all_goals first | rfl | ((exact(FP (by assumption)).symm))
 ·
  have h1':=l8 h1
  refine m9<|w9 ?_
  refine d9 (C7 1 (e:=31) (sz:=1) (zs:=[.slice none 0 0]) (B9 1 f9) rfl rfl (by kernel_rfl) rfl) ?_
  refine rA<|c9<|k9<|w9 ?_
  refine rM ?_
  refine d9 (S9 rfl rfl rfl) ?_
  refine rM<|c9<|r9 ?_
  refine L9 (fun m=>⟨[(0,some (.c (.t none (.sl 2 (E9 f9 (B9 1 f9)) fs)))),(1,some (.c (.t none (.sl 2 (E9 f9 (B9 1 f9)) l)))),(2,some (.c (.own 0))),(6,some (.c (.t none (.v (.slice none 0 0))))),(7,some (.c (.own 1))),(18,some (.c (.t none (.sl 2 (E9 f9 (B9 1 f9)) fs)))),(19,some (.c (.t none (.v (.int .i64 ((fs.length:Int))))))),(20,some (.c (.t none (.v (.int .i64 ((m:Int)))))))],[(0,some (.row (some (U 0)) 3 true 1 f9 b)),(1,some (.row none 31 true 1 (B9 1 f9) (P6 fs l b m)))],2⟩:Nat→St) (fun m=>m≤fs.length) (fun m=>fs.length - m) 0 ⟨⟨rfl,⟨rfl,⟨rfl,⟨rfl,⟨rfl,⟨rfl,⟨rfl,⟨rfl,trivial⟩⟩⟩⟩⟩⟩⟩⟩,⟨rfl,⟨(E7 (yL (by assumption)).symm),trivial⟩⟩,rfl⟩ (by exact Nat.zero_le _) ?_
  rintro m hI ih0
  try dsimp only at hI ih0
  have i1:=hI
  refine w9<|rB<|c9<|k9 ?_
  refine j9 rfl (fun h2=>?_) (fun h2=>?_)
  ·
   have h2':=j8 h2
   refine m9<|k9<|r9<|w9 ?_
   obtain⟨z3,hz4,b5⟩:=t9 (xs:=fs) (n:=(m:Int)) (by omega) (by omega)
   refine d9 (P9 rfl (by kernel_rfl) rfl rfl b5 hz4) ?_
   refine d9 (A6 rfl (n:=2) (by kernel_rfl) (by kernel_rfl) rfl rfl) ?_
   refine d9 (I9 2 (zs:=[.int .i64 0,.slice none 0 0]) rfl rfl (by kernel_rfl) rfl) ?_
   refine rS 2<|c9<|k9 ?_
   refine tY ?_
   refine dT 0 rfl pM ?_
   refine dT 1 rfl pM ?_
   obtain⟨z6,hz7,b8⟩:=t9 (xs:=l) (n:=0) (by omega) (by omega)
   refine dT 2 rfl (w8 (by kernel_rfl) rfl rfl b8 hz7) ?_
   refine dT 3 rfl (p6 (n:=2) (by kernel_rfl) (by kernel_rfl) rfl rfl) ?_
   refine dT 4 rfl (pC 2) ?_
   refine dO 5 rfl (n9 3 4 false (N9 Tryz.func130) (JR b z6.1 z6.2 z3.1 z3.2 (by omega) (by exact(ht _ (J8 (by assumption))).2) (by exact(ht _ (J8 (by assumption))).1) (by exact hv _ (J8 (by assumption)) _ (J8 (by assumption)))) rfl (.cons rfl (.c (.own rfl)) (.cons rfl (.agg (.cons .t0 (.cons .t0 .nil))) (.cons rfl (.agg (.cons .t0 (.cons .t0 .nil))) .nil))) rfl rfl rfl) ?_
   refine dT 6 rfl pM ?_
   refine dT 7 rfl (G4 rfl rfl rfl) ?_
   refine dT 8 rfl (G4 rfl rfl rfl) ?_
   refine dT 9 rfl pA ?_
   refine dT 10 rfl pA ?_
   refine dE ?_
   refine w9<|rM<|c9 ?_
   refine j9 rfl (fun h9=>?_) (fun h9=>?_)
   ·
    have h9':=h9
    refine l9<|rM ?_
    refine rM ?_
    refine rM ?_
    refine d9 (AI rfl (by kernel_rfl) rfl (.l rfl (by omega) (by omega))) ?_
    refine rM ?_
    refine d9 (tO 3 (v8 fs ((l.take l.length).drop ((1:Int)).toNat) (if (w5 (z6.1,z6.2) (z3.1,z3.2) b).2=true then(w5 (z6.1,z6.2) (z3.1,z3.2) b).1 else [])) (N9 Tryz.func100) (fun U=>rec_ U  fs ((l.take l.length).drop ((1:Int)).toNat) (if (w5 (z6.1,z6.2) (z3.1,z3.2) b).2=true then(w5 (z6.1,z6.2) (z3.1,z3.2) b).1 else []) (by(simp only [List.length_drop,List.length_take];omega)) (by omega) (by(simp only [List.length_drop,List.length_take];omega)) (by(rw [if_pos (by assumption)];exact(AU _ _ _).trans hb)) (by exact fun a ha=>hv a (oQ ha)) (by exact fun a ha=>ht a (oQ ha))) rfl rfl (.cons rfl .t0 (.cons rfl .t0 (.cons rfl (.own rfl) .nil)))) ?_
    refine d9 (HS 1 (e:=31) (sz:=1) (by':=24) rfl (by kernel_rfl) rfl rfl rfl rfl rfl rfl (by(refine Nat.le_trans (Nat.mul_le_mul_right _ (VP hf hl (dV (by assumption)) (by simp only [List.length_drop,List.length_take];omega))) (by decide))) (by exact Nat.le_trans (VP hf hl (dV (by assumption)) (by simp only [List.length_drop,List.length_take];omega)) (by decide))) ?_
    refine rA<|c9<|i9<|l9 ?_
    refine rB ?_
    refine rM<|c9 ?_
    refine n8 ?_ (ih0 (m + 1) (by(try dsimp only);omega) (by(try dsimp only);omega))
    exact⟨⟨rfl,⟨rfl,⟨rfl,⟨rfl,⟨rfl,⟨rfl,⟨rfl,⟨(i6 (s8 (by omega) (by omega))),trivial⟩⟩⟩⟩⟩⟩⟩⟩,⟨rfl,⟨(E7 (by(have e:=RU (fs:=fs) (l:=l) (b:=b) (m:=m) hz7 rfl hz4 rfl (by assumption);rw [e,if_pos (by assumption),List.take_length];rfl))),trivial⟩⟩,rfl⟩
   ·
    have h9':=h9
    refine m9<|i9<|l9<|rB ?_
    refine rM<|c9 ?_
    refine n8 ?_ (ih0 (m + 1) (by(try dsimp only);omega) (by(try dsimp only);omega))
    exact⟨⟨rfl,⟨rfl,⟨rfl,⟨rfl,⟨rfl,⟨rfl,⟨rfl,⟨(i6 (s8 (by omega) (by omega))),trivial⟩⟩⟩⟩⟩⟩⟩⟩,⟨rfl,⟨(E7 (by exact(DS hz7 rfl hz4 rfl (by assumption)).symm)),trivial⟩⟩,rfl⟩
  ·
   have h2':=l8 h2
   refine R9 rfl<|w9<|rM ?_
   refine rA<|c9 ?_
   refine UY 6 1 rfl rfl ?_
   refine ER Tryz.func100 (.tmp rfl .nil) ?_ (hL:=⟨E7 ?_,trivial⟩) <;>(try clear ih0)
   all_goals first | rfl | ((exact pT (dV (by assumption)) (by omega)))
theorem jT (U:Nat→Value)(fs l:p9)(b:List Int)(hf:fs.length≤30)(hl:l.length≤3)(hb:b.length=5)(hv:∀a∈l,∀f∈fs,a.1=f.1→a.2.length=f.2.length)(ht:∀a∈l,(∀t∈a.2, -10≤t∧t≤4)∧a.2.length≤4611686018427387904):Mu Tryz.prog 100 [.c (.t none (.sl 2 (E9 f9 (B9 1 f9)) fs)),.c (.t none (.sl 2 (E9 f9 (B9 1 f9)) l)),.c (.own 0)] [(0,some (.row (some (U 0)) 3 true 1 f9 b))] 1 [(0,some (.row none 31 true 1 (B9 1 f9) (v8 fs l b)))] 1 (.c (.own 0)):=QW _ U fs l b hf hl hb hv ht rfl
theorem wX (rs:V9)(fs l:p9)(b:List Int)(hrs:rs.length≤4611686018427387904)(hfs:l7 (fun(x:Int ×(List Int))=>x.2.length) fs≤1048576)(hll:l7 (fun(x:Int ×(List Int))=>x.2.length) l≤1048576)(ho:∀z∈fs,∀x∈z.2,s7 x)(hbl:b.length≤1048576):Pu Tryz.prog 50 [.agg [.t none (.sl 3 (d8 Z9 f9 a8) rs),.t none (.sl 2 (E9 f9 (B9 1 f9)) fs)],.c (.t none (.sl 2 (E9 f9 (B9 1 f9)) l)),.c (.t none (.sl 1 f9 b))] [] 0 (.c (.t none (.v (.bool (wU rs fs l b))))):=by
 refine u6 Tryz.func50 fun w S=>?_
 have gl:=L8 (f:=(fun(x:Int ×(List Int))=>x.2.length)) (l:=l)
 refine w9 ?_
 refine d9 (X9 0 rfl rfl rfl rfl) ?_
 refine rA<|c9<|k9 ?_
 refine tD (fun i=>!(Nat.beq i 14)) ?_
 refine dT 0 rfl (pC 2) ?_
 refine dT 1 rfl pM ?_
 refine dO 2 rfl (n9 1 1 false (N9 Tryz.func99) (vX rs fs l (by omega) (by omega) (by omega) (by omega)) rfl (.cons rfl (.agg (.cons .t0 (.cons .t0 .nil))) (.cons rfl (.c .t0) .nil)) rfl rfl rfl) ?_
 refine dT 3 rfl pM ?_
 refine dH 4 rfl (fun _=>pM) (fun g1=>?_) (fun g1=>?_)
 ·
  have g1':=g1
  refine dH 5 rfl (fun _=>BZ rfl rfl) (fun _=>?_) (nc g1)
  refine dH 6 rfl (fun _=>pB) (fun _=>?_) (nc g1)
  refine dT 7 rfl (H8 rfl g1 rfl) ?_
  refine dT 8 rfl pM ?_
  refine dH 9 rfl (fun _=>pF 1) (fun g2=>?_) (fun g2=>?_)
  ·
   have g2':=j8 g2
   refine dH 10 rfl (fun _=>pL) (fun _=>?_) (nc g2)
   refine dH 11 rfl (fun _=>pM) (fun _=>?_) (nc g2)
   refine dH 12 rfl (fun _=>pM) (fun _=>?_) (nc g2)
   refine s6 13 rfl rfl (by kernel_rfl) rfl rfl rfl (fun _=>(n9 1 2 false (N9 Tryz.func23) (a6 b (by omega)) rfl (.cons rfl (.c .t0) .nil) rfl rfl rfl)) (fun _=>?_) (nc g2)
   refine s6 14 rfl rfl (by kernel_rfl) rfl rfl rfl (fun _=>(tO 1 (v8 fs l b) (N9 Tryz.func100) (fun U=>jT U  fs l b (by exact(M3 (by assumption)).1) (by exact(M3 (by assumption)).2.1) (by omega) (by exact(M3 (by assumption)).2.2.1) (by exact(M3 (by assumption)).2.2.2)) rfl rfl (.cons rfl .t0 (.cons rfl .t0 (.cons rfl (.own rfl) .nil))))) (fun _=>?_) (nc g2)
   refine dH 15 rfl (fun _=>J2 rfl rfl rfl) (fun _=>?_) (nc g2)
   refine dH 16 rfl (fun _=>pB) (fun _=>?_) (nc g2)
   refine dT 17 rfl (H8 rfl g2 rfl) ?_
   refine dT 18 rfl pA ?_
   refine dE ?_
   refine tk Tryz.func50 (.tmp rfl .nil) ?_
   all_goals(refine N7 ?_;(try simp only [show(0:Int).toNat=0 from rfl,List.drop_zero] at *);clear hrs hfs hll ho gl;unfold wU;grind)
  ·
   have g2':=l8 g2
   refine dG 10 (C9 g2) (fun _=>?_)
   refine dG 11 (C9 g2) (fun _=>?_)
   refine dG 12 (C9 g2) (fun _=>?_)
   refine dG 13 (C9 g2) (fun _=>?_)
   refine dG 14 (C9 g2) (fun _=>?_)
   refine dG 15 (C9 g2) (fun _=>?_)
   refine dG 16 (C9 g2) (fun _=>?_)
   refine dT 17 rfl (o8 rfl g2 rfl) ?_
   refine dT 18 rfl pA ?_
   refine dE ?_
   refine tk Tryz.func50 (.tmp rfl .nil) ?_
   all_goals(refine N7 ?_;(try simp only [show(0:Int).toNat=0 from rfl,List.drop_zero] at *);clear hrs hfs hll ho gl;unfold wU;grind)
 ·
  have g1':=g1
  refine dG 5 (C9 g1) (fun _=>?_)
  refine dG 6 (C9 g1) (fun _=>?_)
  refine dT 7 rfl (o8 rfl g1 rfl) ?_
  refine dT 8 rfl pM ?_
  refine dG 9 (C9 rfl) (fun _=>?_)
  refine dG 10 (C9 rfl) (fun _=>?_)
  refine dG 11 (C9 rfl) (fun _=>?_)
  refine dG 12 (C9 rfl) (fun _=>?_)
  refine dG 13 (C9 rfl) (fun _=>?_)
  refine dG 14 (C9 rfl) (fun _=>?_)
  refine dG 15 (C9 rfl) (fun _=>?_)
  refine dG 16 (C9 rfl) (fun _=>?_)
  refine dT 17 rfl (o8 rfl rfl rfl) ?_
  refine dT 18 rfl pA ?_
  refine dE ?_
  refine tk Tryz.func50 (.tmp rfl .nil) ?_
  all_goals(refine N7 ?_;(try simp only [show(0:Int).toNat=0 from rfl,List.drop_zero] at *);clear hrs hfs hll ho gl;unfold wU;grind)
theorem Q3 (rs:V9)(fs:p9)(a0:List (Int ×(List Int)))(a1:List (Int ×(List Int)))(a2:Bool)(a3:Int)(a4:Int)(b:List Int)(hrs:rs.length≤4611686018427387904)(hfs:l7 (fun(x:Int ×(List Int))=>x.2.length) fs≤1048576)(ho:∀z∈fs,∀x∈z.2,s7 x)(hs:l7 (fun(x:Int ×(List Int))=>x.2.length) a0 + l7 (fun(x:Int ×(List Int))=>x.2.length) a1≤1048576)(hoa:∀z∈a0,∀x∈z.2,s7 x)(hob:∀x∈b,s7 x)(hbl:b.length≤1048576):Pu Tryz.prog 14 [.agg [.t none (.sl 3 (d8 Z9 f9 a8) rs),.t none (.sl 2 (E9 f9 (B9 1 f9)) fs)],.agg [.t none (.sl 2 (E9 f9 (B9 1 f9)) a0),.t none (.sl 2 (E9 f9 (B9 1 f9)) a1),.t none (.v (.bool a2)),.t none (.v (.int .i64 a3)),.t none (.v (.int .i64 a4))],.c (.t none (.sl 1 f9 b))] [] 0 (.c (.t none (.v (.bool (R8 rs fs a0 a1 a2 a3 a4 b))))):=by
 refine u6 Tryz.func14 fun w S=>?_
 have g0:=L8 (f:=(fun(x:Int ×(List Int))=>x.2.length)) (l:=a0);have v0:=F7 (F9 a0);have v1:=H7 a0
 refine w9 ?_
 refine d9 (X9 0 rfl rfl rfl rfl) ?_
 refine d9 (X9 1 rfl rfl rfl rfl) ?_
 refine rA<|c9<|k9<|w9 ?_
 refine rC 2 ?_
 refine rC 5 ?_
 refine rM ?_
 refine d9 (n9 2 2 false (N9 Tryz.func49) (kV rs fs a0 a1 a2 a3 a4 b (by omega) (by omega) (by omega) (by omega) (by omega) (by omega) (by omega)) rfl (.cons rfl (.agg (.cons .t0 (.cons .t0 .nil))) (.cons rfl (.agg (.cons .t0 (.cons .t0 (.cons .t0 (.cons .t0 (.cons .t0 .nil)))))) (.cons rfl (.c .t0) .nil))) rfl rfl rfl) ?_
 refine d9 (Q8 rfl rfl) ?_
 refine c9 ?_
 refine j9 rfl (fun h1=>?_) (fun h1=>?_)
 ·
  have h1':=(P4 h1)
  refine w9<|rA<|c9 ?_
  refine tk Tryz.func14 (.tmp rfl .nil) ?_
  all_goals(refine N7 ?_;unfold R8;clear hrs hfs ho hs hoa hob g0 v0 v1;grind)
 ·
  have h1':=(O4 h1)
  refine m9<|k9<|w9<|rF 2 ?_
  refine rL<|c9 ?_
  refine j9 rfl (fun h2=>?_) (fun h2=>?_)
  ·
   have h2':=h2
   refine k9 ?_
   refine tY ?_
   refine dT 0 rfl pM ?_
   refine dT 1 rfl (pF 3) ?_
   refine dT 2 rfl pL ?_
   obtain⟨z3,hz4,b5⟩:=t9 (xs:=b) (n:=a3) (by exact(B5 (by assumption) (by assumption)).1.1) (by exact(B5 (by assumption) (by assumption)).1.2)
   refine dT 3 rfl (w8 (by kernel_rfl) rfl rfl b5 hz4) ?_
   refine dT 4 rfl (t7 (by kernel_rfl) rfl rfl) ?_
   refine dT 5 rfl pM ?_
   refine dT 6 rfl (pF 4) ?_
   refine dT 7 rfl pL ?_
   obtain⟨z6,hz7,b8⟩:=t9 (xs:=b) (n:=a4) (by exact(B5 (by assumption) (by assumption)).2.1) (by exact(B5 (by assumption) (by assumption)).2.2)
   refine dT 8 rfl (w8 (by kernel_rfl) rfl rfl b8 hz7) ?_
   refine dT 9 rfl (t7 (by kernel_rfl) rfl rfl) ?_
   refine dT 10 rfl pB ?_
   refine dT 11 rfl pA ?_
   refine dE ?_
   refine tk Tryz.func14 (.tmp rfl .nil) ?_
   all_goals(refine N7 ?_;unfold R8;clear hrs hfs ho hs hoa hob g0 v0 v1;(have e1:=gX hz4;have e2:=gX hz7;rw [e1,e2];grind))
  ·
   have h2':=h2
   refine m9<|w9<|rC 2 ?_
   refine rF 1 ?_
   refine rL ?_
   refine rM ?_
   refine d9 (n9 2 2 false (N9 Tryz.func50) (wX rs fs a1 b (by omega) (by omega) (by omega) (by omega) (by omega)) rfl (.cons rfl (.agg (.cons .t0 (.cons .t0 .nil))) (.cons rfl (.c .t0) (.cons rfl (.c .t0) .nil))) rfl rfl rfl) ?_
   refine d9 (Q8 rfl rfl) ?_
   refine rA<|c9 ?_
   refine tk Tryz.func14 (.tmp rfl .nil) ?_
   all_goals(refine N7 ?_;unfold R8;clear hrs hfs ho hs hoa hob g0 v0 v1;grind)
theorem y5 (l:V9)(hl:l.length≤1048576):Pu Tryz.prog 61 [.c (.t none (.sl 3 (d8 Z9 f9 a8) l))] [(0,some (.row none 76 true 3 (d8 Z9 f9 a8) l))] 1 (.c (.own 0)):=by
 refine u6 Tryz.func61 fun w S=>?_
 refine w9<|rA<|c9<|k9<|w9 ?_
 refine rM ?_
 refine nN rfl rfl rfl (fun en1=>?_) ?_
 ·
  refine c9 ?_
  refine j9 rfl (fun _=>?_) (nc rfl)
  refine w9<|rA<|c9 ?_
  refine vU 0 (t:=2) (et:=76) (sz:=3) true (d8 Z9 f9 a8) rfl rfl ?_
  refine tk Tryz.func61 (.tmp rfl .nil) ?_ (hL:=⟨E7 ?_,trivial⟩)
  all_goals first | rfl | ((exact en1.symm))
 ·
  refine c9 ?_
  refine j9 rfl (C9 rfl) (fun _=>?_)
  refine m9<|w9 ?_
  refine d9 (C7 0 (e:=76) (sz:=3) (zs:=[.string (JY ([])),.int .i64 0,.bool false]) (d8 Z9 f9 a8) rfl rfl (by kernel_rfl) rfl) ?_
  refine rM ?_
  refine d9 (a7 0 (e:=76) (sz:=3) (by':=32) rfl (by kernel_rfl) rfl rfl rfl rfl (fun _ j=>by rcases j with _ | _ | j <;> exact⟨_,rfl⟩) (by(simp;omega)) (by(simp;omega))) ?_
  refine rA<|c9 ?_
  refine tk Tryz.func61 (.tmp rfl .nil) ?_ (hL:=⟨E7 ?_,trivial⟩)
  all_goals rfl
theorem aY (r:Int)(ts:List Int)(hl:ts.length≤1048576):Pu Tryz.prog 109 [.agg [.t none (.v (.int .i64 r)),.t none (.sl 1 f9 ts)]] [(2,some (.row none 3 true 1 f9 ts))] 3 (.agg [.t none (.v (.int .i64 r)),.own 2]):=by
 refine u6 Tryz.func109 fun w S=>?_
 refine w9 ?_
 refine d9 (X9 0 rfl rfl rfl rfl) ?_
 refine d9 (I9 1 (zs:=[.int .i64 0,.slice none 0 0]) rfl rfl (by kernel_rfl) rfl) ?_
 refine c9<|k9 ?_
 refine tD (fun i=>!(Nat.beq i 6)) ?_
 refine dT 0 rfl (pF 0) ?_
 refine dT 1 rfl pL ?_
 refine dT 2 rfl (pF 1) ?_
 refine dT 3 rfl pL ?_
 refine dO 4 rfl (n9 2 3 false (N9 Tryz.func23) (a6 ts (by omega)) rfl (.cons rfl (.c .t0) .nil) rfl rfl rfl) ?_
 refine dT 5 rfl (pX [(0,1),(1,1)] [.int .i64 0,.slice none 0 0]) ?_
 refine dO 6 rfl (oS 2) ?_
 refine dE ?_
 refine tk Tryz.func109 (r8 2 .nil) ?_ (hL:=⟨E7 ?_,trivial⟩)
 all_goals rfl
theorem zZ (fs:p9)(hfs:l7 (fun(x:Int ×(List Int))=>x.2.length) fs≤1048576):Pu Tryz.prog 62 [.c (.t none (.sl 2 (E9 f9 (B9 1 f9)) fs))] [(0,some (.row none 57 true 2 (E9 f9 (B9 1 f9)) fs))] 1 (.c (.own 0)):=by
 refine u6 Tryz.func62 fun w S=>?_
 have gl:=L8 (f:=(fun(x:Int ×(List Int))=>x.2.length)) (l:=fs)
 refine w9<|rA<|o7 ?_
 refine d9 (C7 0 (e:=57) (sz:=2) (zs:=[.int .i64 0,.slice none 0 0]) (E9 f9 (B9 1 f9)) rfl rfl (by kernel_rfl) rfl) ?_
 refine rA<|c9<|k9<|w9 ?_
 refine rM ?_
 refine d9 (S9 rfl rfl rfl) ?_
 refine rM<|c9<|r9 ?_
 refine L9 (fun m=>⟨[(2,some (.c (.t none (.v (.slice none 0 0))))),(3,some (.c (.own 0))),(7,some (.c (.t none (.sl 2 (E9 f9 (B9 1 f9)) fs)))),(8,some (.c (.t none (.v (.int .i64 ((fs.length:Int))))))),(9,some (.c (.t none (.v (.int .i64 ((m:Int)))))))],[(0,some (.row none 57 true 2 (E9 f9 (B9 1 f9)) (fs.take m)))],1⟩:Nat→St) (fun m=>m≤fs.length) (fun m=>fs.length - m) 0 ⟨⟨rfl,⟨rfl,⟨rfl,⟨rfl,⟨rfl,trivial⟩⟩⟩⟩⟩,⟨rfl,trivial⟩,rfl⟩ (by exact Nat.zero_le _) ?_
 rintro m hI ih0
 try dsimp only at hI ih0
 have i1:=hI
 refine w9<|rB<|c9<|k9 ?_
 refine j9 rfl (fun h1=>?_) (fun h1=>?_)
 ·
  have h1':=j8 h1
  refine m9<|k9<|r9<|w9 ?_
  obtain⟨z2,hz3,b4⟩:=t9 (xs:=fs) (n:=(m:Int)) (by omega) (by omega)
  refine d9 (P9 rfl (by kernel_rfl) rfl rfl b4 hz3) ?_
  refine d9 (A6 rfl (n:=2) (by kernel_rfl) (by kernel_rfl) rfl rfl) ?_
  refine d9 (I9 1 (zs:=[.int .i64 0,.slice none 0 0]) rfl rfl (by kernel_rfl) rfl) ?_
  refine rS 2<|dJ ?_
  refine rM ?_
  refine rC 2 ?_
  refine d9 (n9 2 5 false (N9 Tryz.func109) (aY z2.1 z2.2 (by(have e1:=j6 (f:=(fun(x:Int ×(List Int))=>x.2.length)) (l:=fs) (m:=m) (by assumption);(try dsimp only at e1);omega))) rfl (.cons rfl (.agg (.cons .t0 (.cons .t0 .nil))) .nil) rfl rfl rfl) ?_
  refine d9 (G8 5 (e:=57) (sz:=2) (zs:=[.int .i64 0,.slice none 0 0]) rfl rfl (by kernel_rfl) rfl rfl rfl rfl rfl) ?_
  refine d9 (i8 0 (e:=57) (sz:=2) (by':=32) ((z2.1,z2.2)) rfl (by kernel_rfl) rfl rfl rfl rfl rfl rfl (.cons .sc (.take (.own rfl) rfl .nil)) rfl (by(simp;omega)) (by(simp;omega))) ?_
  refine rA<|c9<|i9<|l9 ?_
  refine rB ?_
  refine rM<|c9 ?_
  refine n8 ?_ (ih0 (m + 1) (by(try dsimp only);omega) (by(try dsimp only);omega))
  exact⟨⟨rfl,⟨rfl,⟨rfl,⟨rfl,⟨(i6 (s8 (by omega) (by omega))),trivial⟩⟩⟩⟩⟩,⟨(E7 (jS hz3)),trivial⟩,rfl⟩
 ·
  have h1':=l8 h1
  refine R9 rfl<|w9<|rM ?_
  refine rA<|c9 ?_
  refine tk Tryz.func62 (.tmp rfl .nil) ?_ (hL:=⟨E7 ?_,trivial⟩) <;>(try clear ih0)
  all_goals first | rfl | ((rw [List.take_of_length_le (by omega)]))
theorem Y7 (rs:V9)(fs:p9)(hrs:rs.length≤1048576)(hfs:l7 (fun(x:Int ×(List Int))=>x.2.length) fs≤1048576):Pu Tryz.prog 21 [.agg [.t none (.sl 3 (d8 Z9 f9 a8) rs),.t none (.sl 2 (E9 f9 (B9 1 f9)) fs)]] [(2,some (.row none 76 true 3 (d8 Z9 f9 a8) rs)),(3,some (.row none 57 true 2 (E9 f9 (B9 1 f9)) fs))] 4 (.agg [.own 2,.own 3]):=by
 refine u6 Tryz.func21 fun w S=>?_
 refine w9 ?_
 refine d9 (X9 0 rfl rfl rfl rfl) ?_
 refine d9 (I9 1 (zs:=[.slice none 0 0,.slice none 0 0]) rfl rfl (by kernel_rfl) rfl) ?_
 refine c9<|k9 ?_
 refine tD (fun i=>!(Nat.beq i 7)) ?_
 refine dT 0 rfl (pF 0) ?_
 refine dT 1 rfl pL ?_
 refine dT 3 rfl (pF 1) ?_
 refine dT 4 rfl pL ?_
 refine dO 2 rfl (n9 2 3 false (N9 Tryz.func61) (y5 rs (by omega)) rfl (.cons rfl (.c .t0) .nil) rfl rfl rfl) ?_
 refine dO 5 rfl (n9 3 4 false (N9 Tryz.func62) (zZ fs (by omega)) rfl (.cons rfl (.c .t0) .nil) rfl rfl rfl) ?_
 refine dT 6 rfl (pX [(0,1),(1,1)] [.slice none 0 0,.slice none 0 0]) ?_
 refine dO 7 rfl (oS 2) ?_
 refine dE ?_
 refine tk Tryz.func21 (r8 2 .nil) ?_ (hL:=⟨E7 ?_,⟨E7 ?_,trivial⟩⟩)
 all_goals rfl
theorem BX (v:Int):Pu Tryz.prog 63 [.c (.t none (.v (.int .i64 v)))] [] 0 (.c (.t none (.v (.bool (decide (v < 0)))))):=by
 refine u6 Tryz.func63 fun w S=>?_
 refine w9<|rA<|o7 ?_
 refine rM ?_
 refine rB ?_
 refine rA<|c9 ?_
 refine tk Tryz.func63 (.tmp rfl .nil) ?_
 all_goals rfl
theorem E4 (ns vs:List Int)(hn:ns.length≤4611686018427387904)(hv:vs.length≤4611686018427387904)(on:∀x∈ns,s7 x)(ov:∀x∈vs,s7 x):Pu Tryz.prog 110 [.agg [.t none (.sl 1 f9 ns),.t none (.sl 1 f9 vs)]] [] 0 (.c (.t none (.v (.bool (D5 ns vs))))):=by
 refine u6 Tryz.func110 fun w S=>?_
 refine w9 ?_
 refine d9 (X9 0 rfl rfl rfl rfl) ?_
 refine rA<|c9<|k9<|w9 ?_
 refine rF 0 ?_
 refine rL ?_
 refine d9 (S9 rfl rfl rfl) ?_
 refine rF 1 ?_
 refine rL ?_
 refine d9 (S9 rfl rfl rfl) ?_
 refine rB<|c9 ?_
 refine j9 rfl (fun h1=>?_) (fun h1=>?_)
 ·
  have h1':=j8 h1
  refine w9<|rA<|c9 ?_
  refine tk Tryz.func110 (.tmp rfl .nil) ?_ <;>(try clear ih0)
  all_goals(refine N7 ?_;(rw [vS (by omega)];done))
 ·
  have h1':=l8 h1
  refine m9<|k9<|w9<|rF 0 ?_
  refine rL ?_
  refine d9 (S9 rfl rfl rfl) ?_
  refine rM<|c9<|r9 ?_
  refine L9 (fun m=>⟨[(1,some (.c (.ptr 0 0))),(13,some (.c (.t none (.sl 1 f9 ns)))),(14,some (.c (.t none (.v (.int .i64 ((ns.length:Int))))))),(15,some (.c (.t none (.v (.int .i64 ((m:Int)))))))],[(0,some (.box [.t none (.sl 1 f9 ns),.t none (.sl 1 f9 vs)]))],1⟩:Nat→St) (fun m=>m≤ns.length∧ns.length=vs.length∧∀j,j < m→H6 ns vs j=true) (fun m=>ns.length - m) 0 ⟨⟨rfl,⟨rfl,⟨rfl,⟨rfl,trivial⟩⟩⟩⟩,⟨rfl,trivial⟩,rfl⟩ (by exact⟨Nat.zero_le _,by omega,fun j h=>by omega⟩) ?_
  rintro m hI ih0
  try dsimp only at hI ih0
  obtain⟨i1,i2,i3⟩:=hI
  refine w9<|rB<|c9<|k9 ?_
  refine j9 rfl (fun h2=>?_) (fun h2=>?_)
  ·
   have h2':=j8 h2
   refine m9<|k9<|r9<|w9<|rM ?_
   obtain⟨z3,hz4,b5⟩:=t9 (xs:=ns) (n:=(m:Int)) (by omega) (by omega)
   refine d9 (P9 rfl (by kernel_rfl) rfl rfl b5 hz4) ?_
   refine d9 (c8 rfl (by kernel_rfl) rfl rfl) ?_
   refine rA ?_
   refine rA<|o7 ?_
   refine rM ?_
   refine d9 (n9 1 1 false (N9 Tryz.func88) (L6 z3 0 39) rfl (.cons rfl (.c .t0) (.cons rfl (.c .t0) (.cons rfl (.c .t0) .nil))) rfl rfl rfl) ?_
   refine d9 (Q8 rfl rfl) ?_
   refine rM ?_
   refine x9 (fun g6=>?_) (fun g6=>?_)
   ·
    have g6':=j8 (O4 g6)
    refine rM ?_
    refine x9 (fun _=>?_) (C9 g6)
    refine rB ?_
    refine x9 (fun _=>?_) (C9 g6)
    refine rM ?_
    refine x9 (fun g7=>?_) (fun g7=>?_)
    ·
     have g7':=j8 g7
     refine rM ?_
     refine x9 (fun _=>?_) (nc g7)
     refine rF 0 ?_
     refine x9 (fun _=>?_) (nc g7)
     refine rL ?_
     refine x9 (fun _=>?_) (nc g7)
     refine rM ?_
     refine x9 (fun _=>?_) (nc g7)
     refine rB ?_
     refine x9 (fun _=>?_) (nc g7)
     obtain⟨z8,hz9,b10⟩:=t9 (xs:=ns) (n:=IntKind.i64.wrap ((m:Int) - 1)) (by(simp only [IntKind.wrap_i64] at *;omega)) (by(simp only [IntKind.wrap_i64] at *;omega))
     refine d9 (P9 rfl (by kernel_rfl) rfl rfl b10 hz9) ?_
     refine x9 (fun _=>?_) (nc g7)
     refine d9 (c8 rfl (by kernel_rfl) rfl rfl) ?_
     refine x9 (fun _=>?_) (nc g7)
     refine rB ?_
     refine x9 (fun _=>?_) (C9 g6)
     refine d9 (M9 rfl rfl g7 rfl) ?_
     refine d9 (H9 rfl rfl g6 rfl) ?_
     refine rM ?_
     refine x9 (fun g11=>?_) (fun g11=>?_)
     ·
      have g11':=l8 g11
      refine rF 1 ?_
      refine x9 (fun _=>?_) (C9 g11)
      refine rL ?_
      refine x9 (fun _=>?_) (C9 g11)
      refine rM ?_
      refine x9 (fun _=>?_) (C9 g11)
      obtain⟨z12,hz13,b14⟩:=t9 (xs:=vs) (n:=(m:Int)) (by omega) (by omega)
      refine d9 (P9 rfl (by kernel_rfl) rfl rfl b14 hz13) ?_
      refine x9 (fun _=>?_) (C9 g11)
      refine d9 (c8 rfl (by kernel_rfl) rfl rfl) ?_
      refine x9 (fun _=>?_) (C9 g11)
      refine d9 (n9 1 1 false (N9 Tryz.func66) (E6 z12) rfl (.cons rfl (.c .t0) .nil) rfl rfl rfl) ?_
      refine x9 (fun _=>?_) (C9 g11)
      refine d9 (Q8 rfl rfl) ?_
      refine d9 (H9 rfl rfl g11 rfl) ?_
      refine c9 ?_
      refine j9 rfl (fun h15=>?_) (fun h15=>?_)
      ·
       have h15':=l8 (P4 h15)
       refine w9<|rA<|c9 ?_
       refine tk Tryz.func110 (.tmp rfl .nil) ?_ <;>(try clear ih0)
       all_goals(refine N7 ?_;(rw [D3 (m:=m) (by omega) (by exact dX (by assumption) (by omega))];done))
      ·
       have h15':=j8 (O4 h15)
       refine m9<|i9<|l9<|rB ?_
       refine rM<|c9 ?_
       refine n8 ?_ (ih0 (m + 1) (by(try dsimp only);omega) (by(try dsimp only);exact⟨by omega,i2,d6 i3 (by(rw [JS (m:=m) (by assumption) (by assumption) (by omega) (by assumption) (by(try simp only [IntKind.wrap_i64]);omega),decide_eq_true (by omega),decide_eq_true (by omega),decide_eq_true (by omega)];rfl))⟩))
       exact⟨⟨rfl,⟨rfl,⟨rfl,⟨(i6 (s8 (by omega) (by omega))),trivial⟩⟩⟩⟩,⟨rfl,trivial⟩,rfl⟩
     ·
      have g11':=j8 g11
      refine x9 (nc g11) (fun _=>?_)
      refine x9 (nc g11) (fun _=>?_)
      refine x9 (nc g11) (fun _=>?_)
      refine x9 (nc g11) (fun _=>?_)
      refine x9 (nc g11) (fun _=>?_)
      refine x9 (nc g11) (fun _=>?_)
      refine d9 (M9 rfl rfl g11 rfl) ?_
      refine c9 ?_
      refine j9 rfl (fun _=>?_) (nc rfl)
      refine w9<|rA<|c9 ?_
      refine tk Tryz.func110 (.tmp rfl .nil) ?_ <;>(try clear ih0)
      all_goals(refine N7 ?_;(rw [D3 (m:=m) (by omega) (by exact uS (m:=m) (by assumption) (by omega) (by assumption) (by(try simp only [IntKind.wrap_i64]);omega) (by omega))];done))
    ·
     have g7':=l8 g7
     refine x9 (C9 g7) (fun _=>?_)
     refine x9 (C9 g7) (fun _=>?_)
     refine x9 (C9 g7) (fun _=>?_)
     refine x9 (C9 g7) (fun _=>?_)
     refine x9 (C9 g7) (fun _=>?_)
     refine x9 (C9 g7) (fun _=>?_)
     refine x9 (C9 g7) (fun _=>?_)
     refine x9 (fun _=>?_) (C9 g6)
     refine d9 (H9 rfl rfl g7 rfl) ?_
     refine d9 (H9 rfl rfl g6 rfl) ?_
     refine rM ?_
     refine x9 (fun _=>?_) (C9 rfl)
     refine rF 1 ?_
     refine x9 (fun _=>?_) (C9 rfl)
     refine rL ?_
     refine x9 (fun _=>?_) (C9 rfl)
     refine rM ?_
     refine x9 (fun _=>?_) (C9 rfl)
     obtain⟨z16,hz17,b18⟩:=t9 (xs:=vs) (n:=(m:Int)) (by omega) (by omega)
     refine d9 (P9 rfl (by kernel_rfl) rfl rfl b18 hz17) ?_
     refine x9 (fun _=>?_) (C9 rfl)
     refine d9 (c8 rfl (by kernel_rfl) rfl rfl) ?_
     refine x9 (fun _=>?_) (C9 rfl)
     refine d9 (n9 1 1 false (N9 Tryz.func66) (E6 z16) rfl (.cons rfl (.c .t0) .nil) rfl rfl rfl) ?_
     refine x9 (fun _=>?_) (C9 rfl)
     refine d9 (Q8 rfl rfl) ?_
     refine d9 (H9 rfl rfl rfl rfl) ?_
     refine c9 ?_
     refine j9 rfl (fun h19=>?_) (fun h19=>?_)
     ·
      have h19':=l8 (P4 h19)
      refine w9<|rA<|c9 ?_
      refine tk Tryz.func110 (.tmp rfl .nil) ?_ <;>(try clear ih0)
      all_goals(refine N7 ?_;(rw [D3 (m:=m) (by omega) (by exact dX (by assumption) (by omega))];done))
     ·
      have h19':=j8 (O4 h19)
      refine m9<|i9<|l9<|rB ?_
      refine rM<|c9 ?_
      refine n8 ?_ (ih0 (m + 1) (by(try dsimp only);omega) (by(try dsimp only);exact⟨by omega,i2,d6 i3 (by(rw [NW (m:=m) (by assumption) (by assumption) (by omega),decide_eq_true (by omega),decide_eq_true (by omega)];rfl))⟩))
      exact⟨⟨rfl,⟨rfl,⟨rfl,⟨(i6 (s8 (by omega) (by omega))),trivial⟩⟩⟩⟩,⟨rfl,trivial⟩,rfl⟩
   ·
    have g6':=l8 (P4 g6)
    refine x9 (nc g6) (fun _=>?_)
    refine x9 (nc g6) (fun _=>?_)
    refine n4 rfl rfl rfl ?_
    refine n4 rfl rfl rfl ?_
    refine n4 rfl rfl rfl ?_
    refine n4 rfl rfl rfl ?_
    refine n4 rfl rfl rfl ?_
    refine n4 rfl rfl rfl ?_
    refine n4 rfl rfl rfl ?_
    refine n4 rfl rfl rfl ?_
    refine x9 (nc g6) (fun _=>?_)
    refine d9 (M9 rfl rfl g6 rfl) ?_
    refine rM ?_
    refine x9 (nc rfl) (fun _=>?_)
    refine x9 (nc rfl) (fun _=>?_)
    refine x9 (nc rfl) (fun _=>?_)
    refine x9 (nc rfl) (fun _=>?_)
    refine x9 (nc rfl) (fun _=>?_)
    refine x9 (nc rfl) (fun _=>?_)
    refine x9 (nc rfl) (fun _=>?_)
    refine d9 (M9 rfl rfl rfl rfl) ?_
    refine c9 ?_
    refine j9 rfl (fun _=>?_) (nc rfl)
    refine w9<|rA<|c9 ?_
    refine tk Tryz.func110 (.tmp rfl .nil) ?_ <;>(try clear ih0)
    all_goals(refine N7 ?_;(rw [D3 (m:=m) (by omega) (by exact xS (by assumption) (by omega))];done))
  ·
   have h2':=l8 h2
   refine R9 rfl<|w9<|rA<|c9 ?_
   refine tk Tryz.func110 (.tmp rfl .nil) ?_ <;>(try clear ih0)
   all_goals(refine N7 ?_;(rw [ZW i2 i3 (by omega)];done))
theorem yX (ns vs:List Int)(v:Int)(hn:ns.length≤4611686018427387904)(hv:vs.length≤4611686018427387904)(on:∀x∈ns,s7 x)(ov:∀x∈vs,s7 x)(hv1: -9223372036854775808≤v)(hv2:v≤9223372036854775807):Pu Tryz.prog 134 [.agg [.t none (.sl 1 f9 ns),.t none (.sl 1 f9 vs)],.c (.t none (.v (.int .i64 v)))] [] 0 (.c (.t none (.v (.int .i64 (W0 ns vs v))))):=by
 refine u6 Tryz.func134 fun w S=>?_
 have nn:(-40≤v∧v≤ -1)→V1 (CS (if -40≤v∧v≤ -1 then -1 - v else 0)) ns=V1 (CS (-1 - v)) ns:=fun e=>by rw [if_pos e]
 refine w9 ?_
 refine d9 (X9 0 rfl rfl rfl rfl) ?_
 refine rA<|o7 ?_
 refine rM ?_
 refine d9 (n9 1 1 false (N9 Tryz.func64) (f5 v (by omega) (by omega)) rfl (.cons rfl (.c .t0) .nil) rfl rfl rfl) ?_
 refine rM ?_
 refine d9 (O9 rfl rfl rfl rfl) ?_
 refine d9 (O9 rfl rfl rfl rfl) ?_
 refine rA ?_
 refine rA<|o7 ?_
 refine rF 0 ?_
 refine rL ?_
 refine rM ?_
 refine d9 (n9 1 1 false (N9 Tryz.func129) (J4 ns (if -40≤v∧v≤ -1 then -1 - v else 0) (by omega)) rfl (.cons rfl (.c .t0) (.cons rfl (.c .t0) .nil)) rfl rfl rfl) ?_
 refine rA<|c9<|k9<|w9 ?_
 refine rM ?_
 refine d9 (Q8 rfl rfl) ?_
 refine rM ?_
 refine x9 (fun g1=>?_) (fun g1=>?_)
 ·
  have g1':=j8 (O4 g1)
  refine rM ?_
  refine x9 (fun _=>?_) (C9 g1)
  refine rB ?_
  refine d9 (H9 rfl rfl g1 rfl) ?_
  refine rM ?_
  refine x9 (fun g2=>?_) (fun g2=>?_)
  ·
   have g2':=l8 g2
   refine rC 2 ?_
   refine x9 (fun _=>?_) (C9 g2)
   refine d9 (n9 1 1 false (N9 Tryz.func110) (E4 ns vs (by omega) (by omega) (by omega) (by omega)) rfl (.cons rfl (.agg (.cons .t0 (.cons .t0 .nil))) .nil) rfl rfl rfl) ?_
   refine x9 (fun _=>?_) (C9 g2)
   refine d9 (Q8 rfl rfl) ?_
   refine d9 (H9 rfl rfl g2 rfl) ?_
   refine c9 ?_
   refine j9 rfl (fun h3=>?_) (fun h3=>?_)
   ·
    have h3':=(P4 h3)
    refine w9<|rM ?_
    refine rA<|c9 ?_
    refine tk Tryz.func134 (.tmp rfl .nil) ?_
    all_goals(refine qX ?_;(exact LW (fun q=>by have q1:=q.2.2;clear nn;simp_all;done)))
   ·
    have h3':=(O4 h3)
    refine m9<|w9<|rF 1 ?_
    refine rL ?_
    refine rM ?_
    obtain⟨z4,hz5,b6⟩:=t9 (xs:=vs) (n:=V1 (CS (if -40≤v∧v≤ -1 then -1 - v else 0)) ns) (by omega) (by(have q:=nn (by assumption);have q2:=eK (ns:=ns) (vs:=vs) (v:=v) (by assumption) rfl (by omega) (by assumption);omega))
    refine d9 (P9 rfl (by kernel_rfl) rfl rfl b6 hz5) ?_
    refine d9 (c8 rfl (by kernel_rfl) rfl rfl) ?_
    refine rA<|c9 ?_
    refine tk Tryz.func134 (.tmp rfl .nil) ?_
    all_goals(refine qX ?_;(have q:=nn (by assumption);exact zQ (by assumption) (by omega) q (by assumption) (by assumption)))
  ·
   have g2':=j8 g2
   refine x9 (nc g2) (fun _=>?_)
   refine x9 (nc g2) (fun _=>?_)
   refine d9 (M9 rfl rfl g2 rfl) ?_
   refine c9 ?_
   refine j9 rfl (fun _=>?_) (nc rfl)
   refine w9<|rM ?_
   refine rA<|c9 ?_
   refine tk Tryz.func134 (.tmp rfl .nil) ?_
   all_goals(refine qX ?_;(exact LW (fun q=>by have q1:=nn q.1;omega)))
 ·
  have g1':=l8 (P4 g1)
  refine x9 (nc g1) (fun _=>?_)
  refine d9 (M9 rfl rfl g1 rfl) ?_
  refine rM ?_
  refine x9 (nc rfl) (fun _=>?_)
  refine x9 (nc rfl) (fun _=>?_)
  refine x9 (nc rfl) (fun _=>?_)
  refine d9 (M9 rfl rfl rfl rfl) ?_
  refine c9 ?_
  refine j9 rfl (fun _=>?_) (nc rfl)
  refine w9<|rM ?_
  refine rA<|c9 ?_
  refine tk Tryz.func134 (.tmp rfl .nil) ?_
  all_goals(refine qX ?_;(exact LW (fun q=>by have q1:=nn q.1;omega)))
theorem cW (ns vs:List Int)(r:Int)(ts:List Int)(hn:ns.length≤4611686018427387904)(hv:vs.length≤4611686018427387904)(on:∀x∈ns,s7 x)(ov:∀x∈vs,s7 x)(hts:ts.length≤1048576)(ot:∀x∈ts,s7 x):Pu Tryz.prog 111 [.agg [.t none (.sl 1 f9 ns),.t none (.sl 1 f9 vs)],.agg [.t none (.v (.int .i64 r)),.t none (.sl 1 f9 ts)]] [(5,some (.row none 3 true 1 f9 (ts.map (W0 ns vs))))] 6 (.agg [.t none (.v (.int .i64 r)),.own 5]):=by
 refine u6 Tryz.func111 fun w S=>?_
 refine w9 ?_
 refine d9 (X9 0 rfl rfl rfl rfl) ?_
 refine d9 (X9 1 rfl rfl rfl rfl) ?_
 refine d9 (I9 2 (zs:=[.int .i64 0,.slice none 0 0]) rfl rfl (by kernel_rfl) rfl) ?_
 refine o7<|rC 2 ?_
 refine d9 (n9 3 6 false (N9 Tryz.func109) (aY r ts (by omega)) rfl (.cons rfl (.agg (.cons .t0 (.cons .t0 .nil))) .nil) rfl rfl rfl) ?_
 refine d9 (I9 6 (zs:=[.int .i64 0,.slice none 0 0]) rfl rfl (by kernel_rfl) rfl) ?_
 refine rS 2<|c9<|k9<|w9 ?_
 refine rF 1 ?_
 refine rL ?_
 refine d9 (S9 rfl rfl rfl) ?_
 refine rM<|c9<|r9 ?_
 refine L9 (fun m=>⟨[(2,some (.c (.ptr 0 0))),(4,some (.c (.ptr 2 0))),(5,some (.c (.ptr 6 0))),(11,some (.c (.t none (.sl 1 f9 ts)))),(12,some (.c (.t none (.v (.int .i64 ((ts.length:Int))))))),(13,some (.c (.t none (.v (.int .i64 ((m:Int)))))))],[(0,some (.box [.t none (.sl 1 f9 ns),.t none (.sl 1 f9 vs)])),(1,some (.box [.t none (.v (.int .i64 r)),.t none (.sl 1 f9 ts)])),(2,some (.box [.t none (.v (.int .i64 0)),.t none (.v (.slice none 0 0))])),(5,some (.row none 3 true 1 f9 ((ts.take m).map (W0 ns vs)++ts.drop m))),(6,some (.box [.t none (.v (.int .i64 r)),.own 5]))],7⟩:Nat→St) (fun m=>m≤ts.length) (fun m=>ts.length - m) 0 ⟨⟨rfl,⟨rfl,⟨rfl,⟨rfl,⟨rfl,⟨rfl,trivial⟩⟩⟩⟩⟩⟩,⟨rfl,⟨rfl,⟨rfl,⟨(E7 (by simp)),⟨rfl,trivial⟩⟩⟩⟩⟩,rfl⟩ (by exact Nat.zero_le _) ?_
 rintro m hI ih0
 try dsimp only at hI ih0
 have i1:=hI
 refine w9<|rB<|c9<|k9 ?_
 refine j9 rfl (fun h1=>?_) (fun h1=>?_)
 ·
  have h1':=j8 h1
  refine m9<|k9<|r9<|w9<|rM ?_
  obtain⟨z2,hz3,b4⟩:=t9 (xs:=ts) (n:=(m:Int)) (by omega) (by omega)
  refine d9 (P9 rfl (by kernel_rfl) rfl rfl b4 hz3) ?_
  refine d9 (c8 rfl (by kernel_rfl) rfl rfl) ?_
  refine rA ?_
  refine rA<|c9 ?_
  refine tD (fun i=>!(Nat.beq i 7)) ?_
  refine dT 0 rfl (pF 1) ?_
  refine dT 1 rfl pL ?_
  refine dT 2 rfl pM ?_
  refine dT 3 rfl (pC 2) ?_
  refine dT 4 rfl pM ?_
  refine dO 5 rfl (n9 7 7 false (N9 Tryz.func134) (yX ns vs z2 (by omega) (by omega) (by omega) (by omega) (by exact(ot _ (J8 (by assumption))).1) (by exact(ot _ (J8 (by assumption))).2)) rfl (.cons rfl (.agg (.cons .t0 (.cons .t0 .nil))) (.cons rfl (.c .t0) .nil)) rfl rfl rfl) ?_
  obtain⟨z5,hz6,b7⟩:=t9 (xs:=(ts.take m).map (W0 ns vs)++ts.drop m) (n:=(m:Int)) (by omega) (by(simp;omega))
  refine dT 6 rfl (T9 (by kernel_rfl) rfl rfl rfl b7 (f8 b7 hz6)) ?_
  refine dO 7 rfl (D8 (W0 ns vs z2) (n:=1) (by kernel_rfl) rfl rfl hz6 rfl rfl rfl rfl (.cons .sc .nil) rfl (fun j h1 h2=>by(simp at h1 h2;omega))) ?_
  refine dE ?_
  refine i9<|l9<|rB ?_
  refine rM<|c9 ?_
  refine n8 ?_ (ih0 (m + 1) (by(try dsimp only);omega) (by(try dsimp only);omega))
  exact⟨⟨rfl,⟨rfl,⟨rfl,⟨rfl,⟨rfl,⟨(i6 (s8 (by omega) (by omega))),trivial⟩⟩⟩⟩⟩⟩,⟨rfl,⟨rfl,⟨rfl,⟨(E7 (GO hz3 rfl)),⟨rfl,trivial⟩⟩⟩⟩⟩,rfl⟩
 ·
  have h1':=l8 h1
  refine R9 rfl<|w9<|rC 2 ?_
  refine rS 2<|c9 ?_
  refine tk Tryz.func111 (r8 2 .nil) ?_ (hL:=⟨E7 ?_,trivial⟩) <;>(try clear ih0)
  all_goals first | rfl | ((rw [List.take_of_length_le (by omega),List.drop_of_length_le (by omega),List.append_nil]))
def Tryz.sortF_ren : Go.Shelf.Ren := ⟨fun | 6 => 67 | 15 => 113 | 14 => 112 | 28 => 143 | 29 => 144 | 20 => 135 | 21 => 136 | 22 => 137 | 23 => 138 | 24 => 139 | 25 => 140 | 26 => 141 | 27 => 142 | 46 => 163 | 47 => 164 | 48 => 165 | 49 => 166 | 50 => 167 | 57 => 175 | n => n, fun | 22 => 25 | 24 => 57 | 25 => 69 | 3 => 3 | 39 => 123 | 0 => 0 | 53 => 151 | 55 => 153 | 4 => 4 | 46 => 145 | 45 => 144 | 50 => 61 | 5 => 5 | 9 => 9 | 66 => 167 | 70 => 171 | 76 => 176 | 77 => 177 | n => n, fun | n => n⟩
theorem Tryz.sortF : Go.Proofs.SlLaysF0.n6 Tryz.prog Tryz.sortF_ren := {
 mixed := by kernel_rfl
 f6 := ⟨Tryz.f67.name, by decide, Tryz.func67.trans (congrArg some (by kernel_rfl))⟩
 f14 := ⟨Tryz.f112.name, by decide, Tryz.func112.trans (congrArg some (by kernel_rfl))⟩
 f15 := Tryz.func113.trans (congrArg some (by kernel_rfl))
 f20 := ⟨Tryz.f135.name, by decide, Tryz.func135.trans (congrArg some (by kernel_rfl))⟩
 f21 := ⟨Tryz.f136.name, by decide, Tryz.func136.trans (congrArg some (by kernel_rfl))⟩
 f22 := ⟨Tryz.f137.name, by decide, Tryz.func137.trans (congrArg some (by kernel_rfl))⟩
 f23 := ⟨Tryz.f138.name, by decide, Tryz.func138.trans (congrArg some (by kernel_rfl))⟩
 f24 := ⟨Tryz.f139.name, by decide, Tryz.func139.trans (congrArg some (by kernel_rfl))⟩
 f25 := ⟨Tryz.f140.name, by decide, Tryz.func140.trans (congrArg some (by kernel_rfl))⟩
 f26 := ⟨Tryz.f141.name, by decide, Tryz.func141.trans (congrArg some (by kernel_rfl))⟩
 f27 := ⟨Tryz.f142.name, by decide, Tryz.func142.trans (congrArg some (by kernel_rfl))⟩
 f28 := Tryz.func143.trans (congrArg some (by kernel_rfl))
 f29 := Tryz.func144.trans (congrArg some (by kernel_rfl))
 f46 := ⟨Tryz.f163.name, by decide, Tryz.func163.trans (congrArg some (by kernel_rfl))⟩
 f47 := Tryz.func164.trans (congrArg some (by kernel_rfl))
 f48 := Tryz.func165.trans (congrArg some (by kernel_rfl))
 f49 := ⟨Tryz.f166.name, by decide, Tryz.func166.trans (congrArg some (by kernel_rfl))⟩
 f50 := ⟨Tryz.f167.name, by decide, Tryz.func167.trans (congrArg some (by kernel_rfl))⟩
 f57 := ⟨Tryz.f175.name, by decide, Tryz.func175.trans (congrArg some (by kernel_rfl))⟩
 t0 := Tryz.underlying0
 a0 := Tryz.isAgg0
 z0 := Tryz.sizeOf0
 v0 := Tryz.zeroValue0
 t3 := Tryz.underlying3
 a3 := Tryz.isAgg3
 z3 := Tryz.sizeOf3
 v3 := Tryz.zeroValue3
 t4 := Tryz.underlying4
 a4 := Tryz.isAgg4
 z4 := Tryz.sizeOf4
 v4 := Tryz.zeroValue4
 t5 := Tryz.underlying5
 a5 := Tryz.isAgg5
 z5 := Tryz.sizeOf5
 v5 := Tryz.zeroValue5
 t9 := Tryz.underlying9
 a9 := Tryz.isAgg9
 z9 := Tryz.sizeOf9
 v9 := Tryz.zeroValue9
 t22 := Tryz.underlying25
 a22 := Tryz.isAgg25
 z22 := Tryz.sizeOf25
 v22 := Tryz.zeroValue25
 t25 := Tryz.underlying69
 a25 := Tryz.isAgg69
 z25 := Tryz.sizeOf69
 v25 := Tryz.zeroValue69
 t39 := Tryz.underlying123
 a39 := Tryz.isAgg123
 z39 := Tryz.sizeOf123
 v39 := Tryz.zeroValue123
 t45 := Tryz.underlying144
 a45 := Tryz.isAgg144
 z45 := Tryz.sizeOf144
 v45 := Tryz.zeroValue144
 t46 := Tryz.underlying145
 a46 := Tryz.isAgg145
 z46 := Tryz.sizeOf145
 v46 := Tryz.zeroValue145
 t50 := Tryz.underlying61
 a50 := Tryz.isAgg61
 z50 := Tryz.sizeOf61
 v50 := Tryz.zeroValue61
 t53 := Tryz.underlying151
 a53 := Tryz.isAgg151
 z53 := Tryz.sizeOf151
 v53 := Tryz.zeroValue151
 t55 := Tryz.underlying153
 a55 := Tryz.isAgg153
 z55 := Tryz.sizeOf153
 v55 := Tryz.zeroValue153
 t66 := Tryz.underlying167
 a66 := Tryz.isAgg167
 z66 := Tryz.sizeOf167
 v66 := Tryz.zeroValue167
 t70 := Tryz.underlying171
 a70 := Tryz.isAgg171
 z70 := Tryz.sizeOf171
 v70 := Tryz.zeroValue171
 t76 := Tryz.underlying176
 a76 := Tryz.isAgg176
 z76 := Tryz.sizeOf176
 v76 := Tryz.zeroValue176
 t77 := Tryz.underlying177
 a77 := Tryz.isAgg177
 z77 := Tryz.sizeOf177
 v77 := Tryz.zeroValue177 }
theorem Tryz.isNaN_x (x:Int)(w:World):Calls Tryz.prog 125 #[.int .i64 x] w fun e w'=>e= .returned (.bool false)∧w'=w:=by
 go_enter Tryz.func125,Tryz.ntmps125
 go_wp2
 go_ret
 exact⟨by simp,rfl⟩
theorem Tryz.cmp_x (x y:Int)(w:World):Calls Tryz.prog 92 #[.int .i64 x,.int .i64 y] w fun e w'=>e= .returned (.int .i64 (Lib.compareInt x y))∧w'=w:=by
 go_enter Tryz.func92,Tryz.ntmps92
 go_wp2_with (go_at_call 125;refine(Tryz.isNaN_x _ _).mono ?_;rintro e w' ⟨rfl,hw⟩;rw [hw])
 all_goals(go_ret;refine⟨?_,rfl⟩;unfold Lib.compareInt;(repeat' split) <;> first | rfl | (exfalso;omega))

set_option maxHeartbeats 2000000 in
set_option maxRecDepth 100000 in
theorem Tryz.cmpS_x (A1 A2:Option Addr)(n m c d:Nat)(xs ys:List Int)(w:World)(hn:xs.length=n)(hm:ys.length=m)(hbig:n≤4611686018427387904)(hbig2:m≤4611686018427387904)(h1:BK w A1 xs)(h2:BK w A2 ys):Calls Tryz.prog 93 #[.slice A1 n c,.slice A2 m d] w fun e w'=>e= .returned (.int .i64 (T6 xs ys))∧w'=w:=by
 have hcon:=fun x y W=>Tryz.cmp_x x y W
 have T1:Aside (BK w A1 xs∧BK w A2 ys∧xs.length=n∧ys.length=m):=⟨h1,h2,hn,hm⟩
 clear h1 h2 hn hm
 go_enter Tryz.func93,Tryz.ntmps93
 go_wp2
 go_loopg [11] n (fun g s11 wr=>∃k:Nat,k≤n∧k≤m∧n - k≤g∧s11= .int .i64 k∧wr=w∧Aside (xs.take k=ys.take k))
 case atStart=>exact⟨0,Nat.zero_le _,Nat.zero_le _,by omega,rfl,rfl,rfl⟩
 case round=>
  obtain⟨k,hk,hk2,hg,rfl,rfl,A⟩:=hrel
  by_cases hlt:k < n
  ·obtain⟨t1,t2,t3,t4⟩:=T1.out
   have ex:xs[k]? =some (xs[k]'(by omega)):=List.getElem?_eq_getElem (by omega)
   obtain⟨b1,eA1,g1⟩:=t1 k _ ex
   generalize hx:xs[k]'(by omega)=x at ex g1
   by_cases hlt2:k < m
   ·have ey:ys[k]? =some (ys[k]'(by omega)):=List.getElem?_eq_getElem (by omega)
    obtain⟨b2,eA2,g2⟩:=t2 k _ ey
    generalize hy:ys[k]'(by omega)=y at ey g2
    have B:Aside (xs[k]? =some x∧ys[k]? =some y):=⟨ex,ey⟩
    clear ex ey hx hy t1 t2 t3 t4
    subst eA1 eA2
    by_cases hxy:x=y
    ·subst hxy
     have hc0:Lib.compareInt x x=0:=by simp [Lib.compareInt]
     go_wp2_with (go_at_call 92;refine(hcon _ _ _).mono ?_;rintro e w' ⟨rfl,rfl⟩;rw [hc0])
     go_roundg (n - (k + 1))
     case measure=>omega
     case rel=>
      refine⟨k + 1,by omega,by omega,by omega,by go_num,rfl,(show Aside _ from ?_)⟩
      rw [Aside,List.take_add_one,List.take_add_one,B.out.1,B.out.2,A.out]
    ·obtain⟨r,hr⟩:∃r,r=Lib.compareInt x y:=⟨_,rfl⟩
     have hr0:¬r=0:=by rw [hr];unfold Lib.compareInt;(repeat' split) <;> omega
     have hr1:T6 xs ys=r:=by
      obtain⟨q1,q2⟩:=XV A.out B.out.1 B.out.2
      rw [hr];unfold Lib.compareInt
      by_cases h1:x < y
      ·rw [if_pos h1,q1 h1]
      ·rw [if_neg h1,if_pos (by omega),q2 (by omega)]
     have HR:Aside (T6 xs ys=r):=hr1
     clear hr1
     go_wp2_with (go_at_call 92;refine(hcon _ _ _).mono ?_;rintro e w' ⟨rfl,rfl⟩;rw [← hr])
     go_ret
     exact⟨by rw [HR.out,hr];rfl,rfl⟩
   ·have hkm:m=k:=by omega
    subst hkm
    have hr1:T6 xs ys=1:=(f4 A.out (by omega) (by omega)).2.1 (by omega) (by omega)
    have HR:Aside (T6 xs ys=1):=hr1
    clear hr1 t1 t2 t3 t4 hx ex
    subst eA1
    go_wp2
    go_ret
    exact⟨by rw [HR.out];rfl,rfl⟩
  ·have hkn:n=k:=by omega
   subst hkn
   by_cases hnm:n < m
   ·have hr1:T6 xs ys= -1:=by
     obtain⟨t1,t2,t3,t4⟩:=T1.out
     exact(f4 A.out (by omega) (by omega)).1 (by omega) (by omega)
    have HR:Aside (T6 xs ys= -1):=hr1
    clear hr1
    go_wp2
    go_ret
    exact⟨by rw [HR.out];rfl,rfl⟩
   ·have hr1:T6 xs ys=0:=by
     obtain⟨t1,t2,t3,t4⟩:=T1.out
     exact(f4 A.out (by omega) (by omega)).2.2 (by omega) (by omega)
    have HR:Aside (T6 xs ys=0):=hr1
    clear hr1
    go_wp2
    go_ret
    exact⟨by rw [HR.out];rfl,rfl⟩

/-- cmp.Or of two numbers that a literal holds. -/
theorem Tryz.or_x (b c:Nat)(x y:Int)(w:World)(h1:w.cell? ⟨b,0,none⟩=some (.int .i64 x))(h2:w.cell? ⟨b,1,none⟩=some (.int .i64 y)):Calls Tryz.prog 91 #[.slice (some ⟨b,0,none⟩) 2 c] w fun e w'=>e= .returned (.int .i64 (if x=0 then y else x))∧w'=w:=by
 by_cases hx:x=0
 ·subst hx
  by_cases hy:y=0
  ·subst hy
   go_enter Tryz.func91,Tryz.ntmps91
   go_wp2
   refine wp_loop_rounds 3 ?_
   rw [rounds_succ]
   go_wp2
   rw [rounds_succ]
   go_wp2
   rw [rounds_succ]
   go_wp2
   go_ret
   exact⟨rfl,rfl⟩
  ·go_enter Tryz.func91,Tryz.ntmps91
   go_wp2
   refine wp_loop_rounds 3 ?_
   rw [rounds_succ]
   go_wp2
   rw [rounds_succ]
   go_wp2
   go_ret
   exact⟨rfl,rfl⟩
 ·go_enter Tryz.func91,Tryz.ntmps91
  go_wp2
  refine wp_loop_rounds 3 ?_
  rw [rounds_succ]
  go_wp2
  go_ret
  exact⟨rfl,rfl⟩

theorem Tryz.or_z (b c:Nat)(x y z:Int)(hz:(if x=0 then y else x)=z)(w:World)(h1:w.cell? ⟨b,0,none⟩=some (.int .i64 x))(h2:w.cell? ⟨b,1,none⟩=some (.int .i64 y)):Calls Tryz.prog 91 #[.slice (some ⟨b,0,none⟩) 2 c] w fun e w'=>e= .returned (.int .i64 z)∧w'=w:=by
 subst hz;exact Tryz.or_x b c x y w h1 h2
set_option maxHeartbeats 2000000 in
set_option maxRecDepth 100000 in
theorem Tryz.cmpF_x (r1 r2:Int)(A1 A2:Option Addr)(n m c d:Nat)(xs ys:List Int)(w:World)(hn:xs.length=n)(hm:ys.length=m)(hbig:n≤4611686018427387904)(hbig2:m≤4611686018427387904)(h1:BK w A1 xs)(h2:BK w A2 ys):Calls Tryz.prog 44 #[.agg #[.int .i64 r1,.slice A1 n c],.agg #[.int .i64 r2,.slice A2 m d]] w fun e w'=>e= .returned (.int .i64 (S8 (r1,xs) (r2,ys)))∧∃q os,w'=Go.Sort.grow (w.drewN q) os:=by
 have hv:(if Lib.compareInt r1 r2=0 then T6 xs ys else Lib.compareInt r1 r2)=S8 (r1,xs) (r2,ys):=by
  unfold Lib.compareInt S8
  (repeat' split) <;> first | rfl | omega
 rw [← hv]
 clear hv
 have hc1:∀W,Calls Tryz.prog 92 #[.int .i64 r1,.int .i64 r2] W fun e w'=>e= .returned (.int .i64 (Lib.compareInt r1 r2))∧w'=W:=fun W=>Tryz.cmp_x r1 r2 W
 have hc2:∀q os,Calls Tryz.prog 93 #[.slice A1 n c,.slice A2 m d] (Go.Sort.grow (w.drewN q) os) fun e w'=>e= .returned (.int .i64 (T6 xs ys))∧w'=Go.Sort.grow (w.drewN q) os:=fun q os=>by
  have mv:∀A xs,BK w A xs→BK (Go.Sort.grow (w.drewN q) os) A xs:=fun A xs h j x hx=>by
   obtain⟨b,e,hc⟩:=h j x hx
   refine⟨b,e,?_⟩
   rw [Go.Sort.cell?_grow _ _ _ (by have:=World.block_lt_of_cell? w _ hc;simpa using this)]
   exact hc
  exact Tryz.cmpS_x A1 A2 n m c d xs ys _ hn hm hbig hbig2 (mv _ _ h1) (mv _ _ h2)
 generalize Lib.compareInt r1 r2=x at hc1 ⊢
 generalize T6 xs ys=y at hc2 ⊢
 clear h1 h2 hn hm
 obtain⟨z,hz⟩:∃z,(if x=0 then y else x)=z:=⟨_,rfl⟩
 rw [hz]
 go_enter Tryz.func44,Tryz.ntmps44
 go_wp2
 obtain⟨o1,ho1⟩:∃o:Obj,o= .cells #[.int .i64 r1,.slice A1 n c] 57:=⟨_,rfl⟩
 obtain⟨o2,ho2⟩:∃o:Obj,o= .cells #[.int .i64 r2,.slice A2 m d] 57:=⟨_,rfl⟩
 rw [← ho1,← ho2]
 have hW0:((w.alloc o1).alloc o2).drew=Go.Sort.grow (w.drewN 1) #[o1,o2]:=by
  rw [Go.Sort.alloc_eq_grow,Go.Sort.alloc_eq_grow,Go.Sort.grow_grow];rfl
 refine wp_region_still_tail 10 (by kernel_rfl) (by kernel_rfl) ?_
 change wpStill _ _ ((w.alloc o1).alloc o2).drew (fun a'=>wpList _ _ _ _ a' ((w.alloc o1).alloc o2).drew) _ _
 have hcell:∀k v,(match o1 with | .cells cs _ _=>cs[k]? | _=>none)=some v→((w.alloc o1).alloc o2).drew.cell? ⟨w.heap.size,k,none⟩=some v:=fun k v h=>by
  rw [ho1] at h ⊢
  unfold World.cell?
  rw [show(((w.alloc (.cells #[.int .i64 r1,.slice A1 n c] 57)).alloc o2).drew).heap=(w.heap.push (.cells #[.int .i64 r1,.slice A1 n c] 57)).push o2 from rfl]
  simpa [Array.getElem?_push] using h
 have hcell2:∀k v,(match o2 with | .cells cs _ _=>cs[k]? | _=>none)=some v→((w.alloc o1).alloc o2).drew.cell? ⟨w.heap.size + 1,k,none⟩=some v:=fun k v h=>by
  rw [ho2] at h ⊢
  unfold World.cell?
  have e:((w.heap.push o1).push (.cells #[.int .i64 r2,.slice A2 m d] 57))[w.heap.size + 1]? =some (.cells #[.int .i64 r2,.slice A2 m d] 57):=by
   rw [show w.heap.size + 1=(w.heap.push o1).size by simp]
   exact Array.getElem?_push_size
  rw [show(((w.alloc o1).alloc (.cells #[.int .i64 r2,.slice A2 m d] 57)).drew).heap=(w.heap.push o1).push (.cells #[.int .i64 r2,.slice A2 m d] 57) from rfl,e]
  exact h
 have q1:=hcell 0 (.int .i64 r1) (by rw [ho1];rfl)
 have q2:=hcell 1 (.slice A1 n c) (by rw [ho1];rfl)
 have q3:=hcell2 0 (.int .i64 r2) (by rw [ho2];rfl)
 have q4:=hcell2 1 (.slice A2 m d) (by rw [ho2];rfl)
 clear hcell hcell2
 have hc2':=hc2 1 #[o1,o2]
 rw [← hW0] at hc2'
 clear hc2
 have HW:Aside (((w.alloc o1).alloc o2).drew=Go.Sort.grow (w.drewN 1) #[o1,o2]):=hW0
 clear hW0 ho1 ho2
 generalize ((w.alloc o1).alloc o2).drew=W at q1 q2 q3 q4 hc2' HW ⊢
 simp only [List.take_succ_cons,List.take_zero,List.drop_succ_cons,List.drop_zero]
 iterate 4 still_step
 still_call (hc1 _)
 iterate 4 still_step
 still_call hc2'
 refine wpStill_nil ?_
 clear q1 q2 q3 q4 hc1 hc2'
 go_wp2_with (go_at_call 91;refine(Tryz.or_z _ _ x y z hz _ (by exact(cT _ _ _ _ _ _ (by simp)).trans rfl) (by exact(cT _ _ _ _ _ _ (by simp)).trans rfl)).mono ?_;rintro e w' ⟨rfl,rfl⟩)
 go_ret
 exact⟨rfl,1,#[o1,o2]++#[_],by rw [Go.Sort.alloc_eq_grow,HW.out,Go.Sort.grow_grow]⟩

theorem p4 (U:Nat→Value)(e0:Nat)(l:p9)(hl:l7 (fun(x:Int ×(List Int))=>x.2.length) l≤1048576):Mu Tryz.prog 67 [.c (.own 0),.c (.clo 44 [])] [(0,some (.row (some (U 0)) e0 true 2 (E9 f9 (B9 1 f9)) l))] 1 [(0,some (.row (some (U 0)) e0 true 2 (E9 f9 (B9 1 f9)) (sortF l)))] 1 (.tup []):=by
 have gl:=L8 (f:=(fun(x:Int ×(List Int))=>x.2.length)) (l:=l)
 exact tK Tryz.sortF Tryz.isAgg57 Tryz.sizeOf57 (N9 Tryz.func44) Tryz.cmpF_x U e0 l (by omega) (fun x hx=>by have e1:=PX (f:=(fun(x:Int ×(List Int))=>x.2.length)) (l:=l) hx;(try dsimp only at e1);omega)
theorem u5 (S0:Nat→Prop)(Dm:Value→Prop)(D:Value→List Int)(U:Nat→Value)(e0:Nat)(l:List (Int × Value))(hl:l.length≤1048576)(hD:∀p∈l,Dm p.2):xG S0 (IN S0 Dm D) Tryz.prog 68 [.c (.own 0),.c (.clo 69 [])] [(0,some (.row (some (U 0)) e0 false 2 (E9 f9 vQ) l))] 1 [(0,some (.row none e0 false 2 (E9 f9 vQ) (v5 (JT D) l l.length)))] 1 (.c (.own 0)):=by
 refine xN Tryz.func68 rfl (Nat.le_of_ble_eq_true rfl) fun w S M hX hM=>?_
 refine w9<|rA<|c9<|k9<|w9 ?_
 refine rM ?_
 refine d9 (M7 rfl rfl rfl rfl) ?_
 refine rB<|c9 ?_
 refine j9 rfl (fun h1=>?_) (fun h1=>?_)
 ·
  have h1':=j8 h1
  refine w9<|rM ?_
  refine rA<|c9 ?_
  refine mZ 0 rfl ?_
  refine ER Tryz.func68 (.tmp rfl .nil) ?_ (hL:=⟨E7 ?_,trivial⟩) <;>(try clear ih0) <;>(try clear ih1)
  all_goals first | rfl | (exact JM (by omega))
 ·
  have h1':=l8 h1
  refine m9<|k9<|w9<|rA<|c9<|r9 ?_
  refine L9 (fun m=>⟨[(0,some (.c (.own 0))),(1,some (.c (.clo 69 []))),(5,some (.c (.t none (.v (.int .i64 ((m:Int)))))))],[(0,some (.row (some (U 0)) e0 false 2 (E9 f9 vQ) l))],1⟩:Nat→St) (fun m=>MH (JT D) l m) (fun m=>l.length - m) 1 ⟨⟨rfl,⟨rfl,⟨rfl,trivial⟩⟩⟩,⟨rfl,trivial⟩,rfl⟩ (by exact JN (by omega)) ?_
  rintro m hI ih0
  try dsimp only at hI ih0
  have i1:=hI.1;have i2:=hI.2.1
  refine k9<|w9<|rM ?_
  refine rM ?_
  refine d9 (M7 rfl rfl rfl rfl) ?_
  refine rB<|c9 ?_
  refine j9 rfl (fun h2=>?_) (fun h2=>?_)
  ·
   have h2':=j8 h2
   refine m9<|k9<|r9<|k9 ?_
   refine tY ?_
   refine dT 0 rfl pM ?_
   refine dT 1 rfl pM ?_
   refine dT 2 rfl pM ?_
   obtain⟨z3,hz4,b5⟩:=t9 (xs:=l) (n:=(m:Int)) (by omega) (by omega)
   refine dT 3 rfl (T9 (by kernel_rfl) rfl rfl rfl b5 (f8 b5 hz4)) ?_
   refine dT 4 rfl (RY (by kernel_rfl) (by kernel_rfl) rfl rfl hz4) ?_
   refine dT 5 rfl pM ?_
   refine dT 6 rfl pM ?_
   refine dT 7 rfl pB ?_
   obtain⟨z6,hz7,b8⟩:=t9 (xs:=l) (n:=IntKind.i64.wrap ((m:Int) - 1)) (by(simp only [IntKind.wrap_i64];omega)) (by(simp only [IntKind.wrap_i64];omega))
   refine dT 8 rfl (T9 (by kernel_rfl) rfl rfl rfl b8 (f8 b8 hz7)) ?_
   refine dT 9 rfl (RY (by kernel_rfl) (by kernel_rfl) rfl rfl hz7) ?_
   refine dO 10 rfl (UR (fun _ hk=>nP hk hM hX) 1 1 false (N9 Tryz.func69) (vL (fun a b c d e f=>D1 a b c d (by assumption) (by assumption)) S0 Dm D z3.1 z6.1 z3.2 z6.2 (by exact hD _ (J8 (by assumption))) (by exact hD _ (J8 (by assumption)))) rfl rfl (.cons rfl (.agg (.cons .t0 (.cons .t0 .nil))) (.cons rfl (.agg (.cons .t0 (.cons .t0 .nil))) .nil)) rfl rfl rfl) ?_
   refine dE ?_
   refine j9 rfl (fun h9=>?_) (fun h9=>?_)
   ·
    have h9':=j8 h9
    refine w9<|rM ?_
    refine rM ?_
    refine d9 (iU rfl (by kernel_rfl) rfl rfl rfl (by omega) (by omega)) ?_
    refine rA<|c9<|k9<|w9 ?_
    refine rA<|c9<|r9 ?_
    refine L9 (fun(k,i,q)=>⟨[(0,some (.c (.own 0))),(1,some (.c (.clo 69 []))),(5,some (.c (.t none (.v (.int .i64 ((k:Int))))))),(6,some (.c (.vw 0 (((m:Int)).toNat) ((l.length - ((m:Int)).toNat)) 2))),(7,some (.c (.t none (.v (.int .i64 ((i:Int)))))))],[(0,some (.row (some (U 0)) e0 false 2 (E9 f9 vQ) q))],1⟩:Nat × Nat × List (Int × Value)→St) (fun(k,i,q)=>GI (JT D) l q k (m + i)∧1≤i) (fun(k,i,q)=>l.length - (m + i)) (m,1,l) ⟨⟨rfl,⟨rfl,⟨rfl,⟨rfl,⟨rfl,trivial⟩⟩⟩⟩⟩,⟨rfl,trivial⟩,rfl⟩ (by exact⟨TN hI hz4 hz7 (by simp only [IntKind.wrap_i64];omega) (decide_eq_true (by assumption)),Nat.le_refl _⟩) ?_
    rintro⟨k,i,q⟩ hI ih1
    try dsimp only at hI ih1
    obtain⟨hI,j7⟩:=hI;have j1:=hI.1;have j2:=hI.2.1;have j3:=hI.2.2.1;have j4:=hI.2.2.2.1
    refine k9<|w9<|rM ?_
    refine rM ?_
    refine d9 (XK rfl rfl rfl) ?_
    refine rB<|c9 ?_
    refine j9 rfl (fun h10=>?_) (fun h10=>?_)
    ·
     have h10':=j8 h10
     refine m9<|k9<|r9<|k9 ?_
     refine tY ?_
     refine dT 0 rfl pM ?_
     refine dT 1 rfl pM ?_
     refine dT 2 rfl pM ?_
     obtain⟨z11,hz12⟩:=CR (xs:=q) (n:=(((m:Int)).toNat +((i:Int)).toNat)) (by omega)
     refine dT 3 rfl (DY (by kernel_rfl) rfl rfl (by omega) (by omega)) ?_
     refine dT 4 rfl (RY (by kernel_rfl) (by kernel_rfl) rfl rfl hz12) ?_
     refine dT 5 rfl pM ?_
     refine dT 6 rfl pM ?_
     refine dT 7 rfl pB ?_
     obtain⟨z14,hz15⟩:=CR (xs:=q) (n:=(((m:Int)).toNat +(IntKind.i64.wrap ((i:Int) - 1)).toNat)) (by(simp only [IntKind.wrap_i64];omega))
     refine dT 8 rfl (DY (by kernel_rfl) rfl rfl (by(simp only [IntKind.wrap_i64];omega)) (by(simp only [IntKind.wrap_i64];omega))) ?_
     refine dT 9 rfl (RY (by kernel_rfl) (by kernel_rfl) rfl rfl hz15) ?_
     refine dO 10 rfl (UR (fun _ hk=>nP hk hM hX) 1 1 false (N9 Tryz.func69) (vL (fun a b c d e f=>D1 a b c d (by assumption) (by assumption)) S0 Dm D z11.1 z14.1 z11.2 z14.2 (by exact hD _ (List.mem_of_getElem? (PM hI (by assumption) (by(try simp only [IntKind.wrap_i64]);omega)))) (by exact hD _ (List.mem_of_getElem? (PM hI (by assumption) (by(try simp only [IntKind.wrap_i64]);omega))))) rfl rfl (.cons rfl (.agg (.cons .t0 (.cons .t0 .nil))) (.cons rfl (.agg (.cons .t0 (.cons .t0 .nil))) .nil)) rfl rfl rfl) ?_
     refine dT 11 rfl (T3 rfl) ?_
     refine dE ?_
     refine j9 rfl (fun h17=>?_) (fun h17=>?_)
     ·
      have h17':=l8 (P4 h17)
      refine w9<|rM ?_
      refine rM ?_
      refine rM ?_
      refine rM ?_
      refine d9 (eQ rfl (by kernel_rfl) rfl rfl (by omega) (by omega)) ?_
      refine d9 (AK rfl (by kernel_rfl) (by kernel_rfl) rfl rfl hz12) ?_
      obtain⟨z18,hz19,b20⟩:=t9 (xs:=q) (n:=(k:Int)) (by omega) (by omega)
      refine d9 (t8 rfl (by kernel_rfl) rfl rfl rfl b20 (f8 b20 hz19)) ?_
      refine d9 (D8 z11 (n:=2) (by kernel_rfl) rfl rfl hz19 rfl rfl rfl rfl (.cons .sc (.cons .sc .nil)) rfl (fun j h1 h2=>by(exact h2.elim (fun h=>by omega) (fun h=>absurd (show 2≤j from h) (by omega))))) ?_
      refine dJ<|rM ?_
      refine rB ?_
      refine rA<|c9<|i9<|l9 ?_
      refine rM ?_
      refine rB ?_
      refine rA<|c9 ?_
      refine n8 ?_ (ih1 (k + 1,i + 1,q.set ((k:Int)).toNat z11) (by(try dsimp only);omega) (by(try dsimp only);exact⟨iK hI hz12 hz15 (show _ + 1=m + i by simp only [IntKind.wrap_i64];omega) (decide_eq_false (by assumption)),by omega⟩))
      exact⟨⟨rfl,⟨rfl,⟨(i6 (s8 (by omega) (by omega))),⟨rfl,⟨(i6 (s8 (by omega) (by omega))),trivial⟩⟩⟩⟩⟩,⟨rfl,trivial⟩,rfl⟩
     ·
      have h17':=j8 (O4 h17)
      refine m9<|i9<|l9<|rM ?_
      refine rB ?_
      refine rA<|c9 ?_
      refine n8 ?_ (ih1 (k,i + 1,q) (by(try dsimp only);omega) (by(try dsimp only);exact⟨EL hI hz12 hz15 (show _ + 1=m + i by simp only [IntKind.wrap_i64];omega) (decide_eq_true (by assumption)),by omega⟩))
      exact⟨⟨rfl,⟨rfl,⟨rfl,⟨rfl,⟨(i6 (s8 (by omega) (by omega))),trivial⟩⟩⟩⟩⟩,⟨rfl,trivial⟩,rfl⟩
    ·
     have h10':=l8 h10
     refine R9 rfl<|w9<|rM ?_
     refine rM ?_
     refine d9 (iU rfl (by kernel_rfl) rfl rfl rfl (by omega) (by omega)) ?_
     refine d9 (AM ((0,Value.slice none 0 0)) rfl rfl Tryz.underlying25 (by kernel_rfl) rfl rfl (.cons (.v rfl) (.cons (.v rfl) .nil)) (by omega) (by omega)) ?_
     refine o7<|rM ?_
     refine rM ?_
     refine d9 (rO rfl (by kernel_rfl) rfl rfl rfl (by omega) (by(simp only [List.length_append,List.length_take,List.length_replicate,List.length_drop];omega)) (by(simp only [List.length_append,List.length_take,List.length_replicate,List.length_drop];omega))) ?_
     refine rA<|c9 ?_
     refine eO 4 0 rfl rfl (by(simp only [List.length_append,List.length_take,List.length_replicate,List.length_drop];omega)) (by(simp only [List.length_append,List.length_take,List.length_replicate,List.length_drop];omega)) ?_
     refine ER Tryz.func68 (.tmp rfl .nil) ?_ (hL:=⟨E7 ?_,trivial⟩) <;>(try clear ih0) <;>(try clear ih1)
     all_goals first | rfl | ((rw [List.append_assoc];exact vJ hI (by omega) _))
   ·
    have h9':=l8 h9
    refine m9<|i9<|l9<|rM ?_
    refine rB ?_
    refine rA<|c9 ?_
    refine n8 ?_ (ih0 (m + 1) (by(try dsimp only);omega) (by(try dsimp only);exact NK hI hz4 hz7 (by simp only [IntKind.wrap_i64];omega) (decide_eq_false (by assumption))))
    exact⟨⟨rfl,⟨rfl,⟨(i6 (s8 (by omega) (by omega))),trivial⟩⟩⟩,⟨rfl,trivial⟩,rfl⟩
  ·
   have h2':=l8 h2
   refine R9 rfl<|w9<|rM ?_
   refine rA<|c9 ?_
   refine mZ 0 rfl ?_
   refine ER Tryz.func68 (.tmp rfl .nil) ?_ (hL:=⟨E7 ?_,trivial⟩) <;>(try clear ih0) <;>(try clear ih1)
   all_goals first | rfl | (exact zJ hI (by omega))
theorem M5 (U:Nat→Value)(e0:Nat)(l:p9)(hl:l7 (fun(x:Int ×(List Int))=>x.2.length) l≤1048576):Mu Tryz.prog 68 [.c (.own 0),.c (.clo 69 [])] [(0,some (.row (some (U 0)) e0 true 2 (E9 f9 (B9 1 f9)) l))] 1 [(0,some (.row none e0 true 2 (E9 f9 (B9 1 f9)) (v5 aR l l.length)))] 1 (.c (.own 0)):=by
 have gl:=L8 (f:=(fun(x:Int ×(List Int))=>x.2.length)) (l:=l)
 exact SL (fun S0 Dm D U e0 l hl hD=>u5 S0 Dm D U e0 l hl hD) U e0 l (by omega) (fun x hx=>by have e1:=PX (f:=(fun(x:Int ×(List Int))=>x.2.length)) (l:=l) hx;(try dsimp only at e1);omega)
theorem cY (fs:p9)(hfs:l7 (fun(x:Int ×(List Int))=>x.2.length) fs≤1048576):Pu Tryz.prog 27 [.c (.t none (.sl 2 (E9 f9 (B9 1 f9)) fs))] [(0,some (.row none 57 true 2 (E9 f9 (B9 1 f9)) (nZ fs)))] 1 (.c (.own 0)):=by
 refine u6 Tryz.func27 fun w S=>?_
 refine w9<|rA<|o7 ?_
 refine rM ?_
 refine d9 (n9 0 1 false (N9 Tryz.func62) (zZ fs (by omega)) rfl (.cons rfl (.c .t0) .nil) rfl rfl rfl) ?_
 refine rA<|o7 ?_
 refine rM ?_
 refine d9 (jR [⟨0,none,57,2,_,(E9 f9 (B9 1 f9)),fs,sortF fs⟩] (N9 Tryz.func67) (fun U=>p4 U 57 fs (by omega)) rfl ⟨rfl,trivial⟩ rfl rfl (.cons rfl (.own rfl) (.cons rfl .clo .nil)) rfl) ?_
 refine o7<|rM ?_
 refine d9 (kX 0 (l':=v5 aR (sortF fs) (sortF fs).length) (N9 Tryz.func68) (fun U=>M5 U 57 (sortF fs) (by(rw [eP (I0 fs)];assumption))) rfl rfl (.cons rfl (.own rfl) (.cons rfl .clo .nil))) ?_
 refine rA<|c9 ?_
 refine tk Tryz.func27 (.tmp rfl .nil) ?_ (hL:=⟨E7 ?_,trivial⟩)
 all_goals first | rfl | (exact LS fs)
end Go.Eng
