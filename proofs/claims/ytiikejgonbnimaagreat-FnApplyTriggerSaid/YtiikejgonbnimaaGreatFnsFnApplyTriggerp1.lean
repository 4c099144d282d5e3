/- What the functions that FnApplyTrigger reaches answer. -/
import Derived.Test.YtiikejgonbnimaaGreatFnsFnApplyTriggerp0
import Derived.Test.YtiikejgonbnimaaGreatEngZU
import Derived.Test.YtiikejgonbnimaaGreatChecked
set_option linter.unusedVariables false
set_option linter.unusedSimpArgs false
namespace Go.Eng
open Go Go.RowKit Go.Proofs
set_option maxHeartbeats 1000000
set_option maxRecDepth 10000
theorem TS (code:List Int)(i h:Int)(hc:code.length≤1048576)(hi0:0≤i)(hi1:i≤code.length):MS Tryz.prog 56 [.c (.ptr 0 0)] [.t none (.sl 1 f6 code),.t none (.v (.int .i64 i)),.t none (.v (.int .i64 h))] (fun(⟨b,hs,e,lv,rv,i2,h2⟩:p9 × p9 × Bool × Int × Int × Int × Int)=>yY (b,hs,e,lv,rv)∧0≤i2∧i2≤code.length) (fun(⟨b,hs,e,lv,rv,i2,h2⟩:p9 × p9 × Bool × Int × Int × Int × Int)=>[.t none (.sl 1 f6 code),.t none (.v (.int .i64 i2)),.t none (.v (.int .i64 h2))]) (fun(⟨b,hs,e,lv,rv,i2,h2⟩:p9 × p9 × Bool × Int × Int × Int × Int)=>[(7,some (.row none 55 true 2 (E9 f9 (B9 1 f9)) b)),(8,some (.row none 55 true 2 (E9 f9 (B9 1 f9)) hs))]) 9 (fun(⟨b,hs,e,lv,rv,i2,h2⟩:p9 × p9 × Bool × Int × Int × Int × Int)=> .agg [.own 7,.own 8,.t none (.v (.bool e)),.t none (.v (.int .i64 lv)),.t none (.v (.int .i64 rv))]):=by
 refine J7 Tryz.func56 rfl (Nat.le_of_ble_eq_true rfl) fun v0 w S M hM=>?_
 refine w9 ?_
 refine d9 (I9 1 (zs:=[.slice none 0 0,.slice none 0 0,.bool false,.int .i64 0,.int .i64 0]) rfl rfl (by kernel_rfl) rfl) ?_
 refine o7<|rM ?_
 refine p7 (s9 0 2 9 (pv:=some v0) (N9 Tryz.func54) (IX code i h (by omega) (by omega) (by omega)) rfl rfl (.cur rfl .nil) rfl (fun⟨_,_,_,_,_,_,_⟩=>rfl) (fun _=>rfl) (fun⟨_,_,_,_,_,_,_⟩=>rfl) rfl rfl) ?_
 rintro⟨⟨b1,hs2,e3,lv4,rv5,i26,h27⟩,hq8⟩
 try dsimp only at hq8
 try dsimp only
 obtain⟨q9,q10,q11⟩:=hq8
 have kd:yY (b1,hs2,e3,lv4,rv5):=(by assumption);obtain⟨k1,k2,k3,k4,k5,k6⟩:=kd;(try dsimp only at k1 k2 k3 k4 k5 k6);have sa:=BV k3;have sb:=BV k4;have k7:∀z,b1[(0:Int).toNat]? =some z→1≤z.2.length:=fun z hz=>(k3 z (J8 hz)).2.1.1;have k8:hs2.length≤2:=(by assumption)
 refine d9 (I9 9 (zs:=[.slice none 0 0,.slice none 0 0,.bool false,.int .i64 0,.int .i64 0]) rfl rfl (by kernel_rfl) rfl) ?_
 refine rS 5<|c9<|k9<|w9 ?_
 refine rM ?_
 refine p7 (s9 0 10 11 (pv:=some v0) (N9 Tryz.func19) (A9 code i26 h27 12 (by omega) (by omega) (by omega) (by omega) (by omega)) rfl rfl (.cur rfl (.cons rfl .nil)) rfl (fun⟨_,_,_⟩=>rfl) (fun _=>rfl) (fun⟨_,_,_⟩=>rfl) rfl rfl) ?_
 rintro⟨⟨x12,i213,h214⟩,hq15⟩
 try dsimp only at hq15
 try dsimp only
 obtain⟨q16,q17⟩:=hq15
 refine c9<|r9<|w9<|rB ?_
 refine rA<|c9 ?_
 refine j9 rfl (fun h18=>?_) (fun h18=>?_)
 ·
  have h18':=j8 h18
  refine tD (fun i=>!(Nat.beq i 3||Nat.beq i 7)) ?_
  refine y7 0 rfl rfl (by kernel_rfl) (by kernel_rfl) (by kernel_rfl) (W7 (off:=0) (by kernel_rfl) rfl) ?_
  refine dT 2 rfl pM ?_
  refine d7 1 3 rfl rfl (by kernel_rfl) rfl rfl (V0 oL) (s9 0 11 12 (pv:=some v0) (N9 Tryz.func19) (A9 code i213 h214 7 (by omega) (by omega) (by omega) (by omega) (by omega)) rfl rfl (.cur rfl (.cons rfl .nil)) rfl (fun⟨_,_,_⟩=>rfl) (fun _=>rfl) (fun⟨_,_,_⟩=>rfl) rfl rfl) ?_ ?_
  ·
   rintro⟨⟩
   refine lZ 3 rfl (s9 0 11 12 (pv:=some v0) (N9 Tryz.func19) (A9 code i213 h214 7 (by omega) (by omega) (by omega) (by omega) (by omega)) rfl rfl (.cur rfl (.cons rfl .nil)) rfl (fun⟨_,_,_⟩=>rfl) (fun _=>rfl) (fun⟨_,_,_⟩=>rfl) rfl rfl) ?_
   rintro⟨⟨x25,i226,h227⟩,hq28⟩
   try dsimp only at hq28
   try dsimp only
   obtain⟨q29,q30⟩:=hq28
   refine dT 4 rfl pB ?_
   obtain⟨z31,hz32,b33⟩:=t9 (xs:=b1) (n:=0) (by omega) (by omega)
   refine dT 5 rfl (T9 (by kernel_rfl) rfl rfl rfl b33 (f8 b33 hz32)) ?_
   refine dT 6 rfl (C4 (off:=0) (by kernel_rfl) rfl) ?_
   refine dO 7 rfl (D8 ((IntKind.i64.wrap (x25 - 1),z31.2)) (n:=1) (by kernel_rfl) rfl rfl hz32 rfl rfl rfl rfl (.cons .sc .nil) rfl (fun j h1 h2=>by(have:j=0∨j=1∨j=2∨j=3∨j=4:=by omega);rcases this with rfl | rfl | rfl | rfl | rfl <;> first | rfl | (simp at h2;done))) ?_
   refine dE ?_
   refine i9<|w9<|rC 5 ?_
   refine rS 5<|c9 ?_
   refine w7 Tryz.func56 (r8 5 .nil) (⟨b1.set ((0:Int)).toNat ((IntKind.i64.wrap (x25 - 1),z31.2)),hs2,e3,lv4,rv5,i226,h227⟩) ?_ ?_ (hL:=⟨rfl,⟨rfl,⟨rfl,trivial⟩⟩⟩)
   ·(try dsimp only) <;>((refine⟨⟨by(simp only [List.length_set];omega),k2,F8 k3 (by have e8:=k3 _ (J8 hz32);exact⟨by(try dsimp only);(try simp only [IntKind.wrap_i64] at *);omega,e8.2.1,e8.2.2⟩),k4,k5,k6⟩,by omega⟩;done))
   ·rfl
  ·
   rintro⟨⟨x19,i220,h221⟩,hq22⟩
   try dsimp only at hq22
   try dsimp only
   obtain⟨q23,q24⟩:=hq22
   refine dT 1 rfl pL ?_
   refine dT 4 rfl pB ?_
   obtain⟨z34,hz35,b36⟩:=t9 (xs:=b1) (n:=0) (by omega) (by omega)
   refine dT 5 rfl (T9 (by kernel_rfl) rfl rfl rfl b36 (f8 b36 hz35)) ?_
   refine dT 6 rfl (C4 (off:=0) (by kernel_rfl) rfl) ?_
   refine dO 7 rfl (D8 ((IntKind.i64.wrap (x19 - 1),z34.2)) (n:=1) (by kernel_rfl) rfl rfl hz35 rfl rfl rfl rfl (.cons .sc .nil) rfl (fun j h1 h2=>by(have:j=0∨j=1∨j=2∨j=3∨j=4:=by omega);rcases this with rfl | rfl | rfl | rfl | rfl <;> first | rfl | (simp at h2;done))) ?_
   refine dE ?_
   refine i9<|w9<|rC 5 ?_
   refine rS 5<|c9 ?_
   refine w7 Tryz.func56 (r8 5 .nil) (⟨b1.set ((0:Int)).toNat ((IntKind.i64.wrap (x19 - 1),z34.2)),hs2,e3,lv4,rv5,i220,h221⟩) ?_ ?_ (hL:=⟨rfl,⟨rfl,⟨rfl,trivial⟩⟩⟩)
   ·(try dsimp only) <;>((refine⟨⟨by(simp only [List.length_set];omega),k2,F8 k3 (by have e8:=k3 _ (J8 hz35);exact⟨by(try dsimp only);(try simp only [IntKind.wrap_i64] at *);omega,e8.2.1,e8.2.2⟩),k4,k5,k6⟩,by omega⟩;done))
   ·rfl
 ·
  have h18':=l8 h18
  refine w9<|rB ?_
  refine rA<|c9 ?_
  refine j9 rfl (fun h37=>?_) (fun h37=>?_)
  ·
   have h37':=j8 h37
   obtain⟨z38,hz39,b40⟩:=t9 (xs:=b1) (n:=(0:Int)) (by omega) (by omega)
   refine XM 11 7 ((0:Int)).toNat 1 rfl rfl hz39 rfl rfl fun e41 v42=>?_
   refine tD (fun i=>!(Nat.beq i 7||Nat.beq i 9)) ?_
   refine y7 0 rfl rfl (by kernel_rfl) (by kernel_rfl) (by kernel_rfl) (W7 (off:=0) (by kernel_rfl) rfl) ?_
   refine dT 5 rfl pM ?_
   refine O8 1 6 rfl rfl (by kernel_rfl) rfl rfl oL (i7 12 (e:=3) (sz:=1) (zs:=[.int .i64 0]) (enc:=f9) [5, -11,4] rfl rfl (by kernel_rfl) rfl rfl rfl rfl rfl rfl rfl rfl (.cons .sc (.cons .sc (.cons .sc .nil))) rfl) ?_ ?_
   ·
    obtain⟨z43,hz44,b45⟩:=t9 (xs:=H1 b1 (((0:Int)).toNat) z38 1 v42) (n:=0) (by omega) (by(rw [C3];omega))
    refine O8 2 6 rfl rfl (by kernel_rfl) rfl rfl (t8 rfl (by kernel_rfl) rfl rfl rfl b45 (f8 b45 hz44)) (i7 12 (e:=3) (sz:=1) (zs:=[.int .i64 0]) (enc:=f9) [5, -11,4] rfl rfl (by kernel_rfl) rfl rfl rfl rfl rfl rfl rfl rfl (.cons .sc (.cons .sc (.cons .sc .nil))) rfl) ?_ ?_
    ·
     refine O8 3 6 rfl rfl (by kernel_rfl) rfl rfl (DW rfl (off:=1) (by kernel_rfl) rfl) (i7 12 (e:=3) (sz:=1) (zs:=[.int .i64 0]) (enc:=f9) [5, -11,4] rfl rfl (by kernel_rfl) rfl rfl rfl rfl rfl rfl rfl rfl (.cons .sc (.cons .sc (.cons .sc .nil))) rfl) ?_ ?_
     ·
      refine O8 4 6 rfl rfl (by kernel_rfl) rfl rfl (uW rfl (k:=11) (by kernel_rfl) rfl rfl rfl (by omega) rfl) (i7 12 (e:=3) (sz:=1) (zs:=[.int .i64 0]) (enc:=f9) [5, -11,4] rfl rfl (by kernel_rfl) rfl rfl rfl rfl rfl rfl rfl rfl (.cons .sc (.cons .sc (.cons .sc .nil))) rfl) ?_ ?_
      ·
       refine dO 6 rfl (i7 12 (e:=3) (sz:=1) (zs:=[.int .i64 0]) (enc:=f9) [5, -11,4] rfl rfl (by kernel_rfl) rfl rfl rfl rfl rfl rfl rfl rfl (.cons .sc (.cons .sc (.cons .sc .nil))) rfl) ?_
       refine c6 12 rfl (W9 (i:=12) hM rfl rfl rfl) ?_
       refine lZ 7 rfl (s9 0 13 14 (pv:=some v0) (N9 Tryz.func60) (Y9 code i213 h214 ([5, -11,4]) (by omega) (by omega) (by omega) (by(simp only [List.length_cons,List.length_nil];omega)) (by(simp only [List.length_cons,List.length_nil];omega))) rfl rfl (.cur rfl (.cons rfl .nil)) rfl (fun⟨_,_,_⟩=>rfl) (fun _=>rfl) (fun⟨_,_,_⟩=>rfl) rfl rfl) ?_
       rintro⟨⟨x46,i247,h248⟩,hq49⟩
       try dsimp only at hq49
       try dsimp only
       obtain⟨q50,q51⟩:=hq49
       obtain⟨z52,hz53,b54⟩:=t9 (xs:=z38.2) (n:=0) (by omega) (by(have e7:=k7 _ (by assumption);omega))
       refine dT 8 rfl (T9 (by kernel_rfl) rfl rfl rfl b54 (f8 b54 hz53)) ?_
       refine dO 9 rfl (D8 x46 (n:=1) (by kernel_rfl) rfl rfl hz53 rfl rfl rfl rfl (.cons .sc .nil) rfl (fun j h1 h2=>by(simp at h1 h2;omega))) ?_
       refine dE ?_
       refine i9<|k9 ?_
       refine P5 11 7 (((0:Int)).toNat) 1 ((z38.1,z38.2.set ((0:Int)).toNat x46)) rfl rfl rfl (List.getElem?_eq_some_iff.1 hz39).1 rfl (fun j hj=>by(have:j=0∨j=1:=by omega);rcases this with rfl | rfl <;> rfl) ?_
       refine l9<|rC 5 ?_
       refine rS 5<|c9 ?_
       refine w7 Tryz.func56 (r8 5 .nil) (⟨b1.set (((0:Int)).toNat) ((z38.1,z38.2.set ((0:Int)).toNat x46)),hs2,e3,lv4,rv5,i247,h248⟩) ?_ ?_ (hL:=⟨rfl,⟨rfl,⟨rfl,trivial⟩⟩⟩)
       ·(try dsimp only) <;>((refine⟨⟨by(simp only [List.length_set];omega),k2,F8 k3 (by have e8:=k3 _ (J8 hz39);exact⟨e8.1,by(simp only [List.length_set];exact e8.2.1),F8 e8.2.2 (by have e9:=N0 (by assumption);omega)⟩),k4,k5,k6⟩,by omega⟩;done))
       ·rfl
      ·
       refine c6 12 rfl (W9 (i:=12) hM rfl rfl rfl) ?_
       refine d7 4 7 rfl rfl (by kernel_rfl) rfl rfl (V0 (uW rfl (k:=11) (by kernel_rfl) rfl rfl rfl (by omega) rfl)) (s9 0 13 14 (pv:=some v0) (N9 Tryz.func60) (Y9 code i213 h214 ([5, -11,4]) (by omega) (by omega) (by omega) (by(simp only [List.length_cons,List.length_nil];omega)) (by(simp only [List.length_cons,List.length_nil];omega))) rfl rfl (.cur rfl (.cons rfl .nil)) rfl (fun⟨_,_,_⟩=>rfl) (fun _=>rfl) (fun⟨_,_,_⟩=>rfl) rfl rfl) ?_ ?_
       ·
        rintro⟨⟩
        refine lZ 7 rfl (s9 0 13 14 (pv:=some v0) (N9 Tryz.func60) (Y9 code i213 h214 ([5, -11,4]) (by omega) (by omega) (by omega) (by(simp only [List.length_cons,List.length_nil];omega)) (by(simp only [List.length_cons,List.length_nil];omega))) rfl rfl (.cur rfl (.cons rfl .nil)) rfl (fun⟨_,_,_⟩=>rfl) (fun _=>rfl) (fun⟨_,_,_⟩=>rfl) rfl rfl) ?_
        rintro⟨⟨x61,i262,h263⟩,hq64⟩
        try dsimp only at hq64
        try dsimp only
        obtain⟨q65,q66⟩:=hq64
        obtain⟨z67,hz68,b69⟩:=t9 (xs:=z38.2) (n:=0) (by omega) (by(have e7:=k7 _ (by assumption);omega))
        refine dT 8 rfl (T9 (by kernel_rfl) rfl rfl rfl b69 (f8 b69 hz68)) ?_
        refine dO 9 rfl (D8 x61 (n:=1) (by kernel_rfl) rfl rfl hz68 rfl rfl rfl rfl (.cons .sc .nil) rfl (fun j h1 h2=>by(simp at h1 h2;omega))) ?_
        refine dE ?_
        refine i9<|k9 ?_
        refine P5 11 7 (((0:Int)).toNat) 1 ((z38.1,z38.2.set ((0:Int)).toNat x61)) rfl rfl rfl (List.getElem?_eq_some_iff.1 hz39).1 rfl (fun j hj=>by(have:j=0∨j=1:=by omega);rcases this with rfl | rfl <;> rfl) ?_
        refine l9<|rC 5 ?_
        refine rS 5<|c9 ?_
        refine w7 Tryz.func56 (r8 5 .nil) (⟨b1.set (((0:Int)).toNat) ((z38.1,z38.2.set ((0:Int)).toNat x61)),hs2,e3,lv4,rv5,i262,h263⟩) ?_ ?_ (hL:=⟨rfl,⟨rfl,⟨rfl,trivial⟩⟩⟩)
        ·(try dsimp only) <;>((refine⟨⟨by(simp only [List.length_set];omega),k2,F8 k3 (by have e8:=k3 _ (J8 hz39);exact⟨e8.1,by(simp only [List.length_set];exact e8.2.1),F8 e8.2.2 (by have e9:=N0 (by assumption);omega)⟩),k4,k5,k6⟩,by omega⟩;done))
        ·rfl
       ·
        rintro⟨⟨x55,i256,h257⟩,hq58⟩
        try dsimp only at hq58
        try dsimp only
        obtain⟨q59,q60⟩:=hq58
        refine dT 4 rfl (J3 (k:=11) (by kernel_rfl) rfl rfl rfl (by omega) rfl) ?_
        obtain⟨z70,hz71,b72⟩:=t9 (xs:=z38.2) (n:=0) (by omega) (by(have e7:=k7 _ (by assumption);omega))
        refine dT 8 rfl (T9 (by kernel_rfl) rfl rfl rfl b72 (f8 b72 hz71)) ?_
        refine dO 9 rfl (D8 x55 (n:=1) (by kernel_rfl) rfl rfl hz71 rfl rfl rfl rfl (.cons .sc .nil) rfl (fun j h1 h2=>by(simp at h1 h2;omega))) ?_
        refine dE ?_
        refine i9<|k9 ?_
        refine P5 11 7 (((0:Int)).toNat) 1 ((z38.1,z38.2.set ((0:Int)).toNat x55)) rfl rfl rfl (List.getElem?_eq_some_iff.1 hz39).1 rfl (fun j hj=>by(have:j=0∨j=1:=by omega);rcases this with rfl | rfl <;> rfl) ?_
        refine l9<|rC 5 ?_
        refine rS 5<|c9 ?_
        refine w7 Tryz.func56 (r8 5 .nil) (⟨b1.set (((0:Int)).toNat) ((z38.1,z38.2.set ((0:Int)).toNat x55)),hs2,e3,lv4,rv5,i256,h257⟩) ?_ ?_ (hL:=⟨rfl,⟨rfl,⟨rfl,trivial⟩⟩⟩)
        ·(try dsimp only) <;>((refine⟨⟨by(simp only [List.length_set];omega),k2,F8 k3 (by have e8:=k3 _ (J8 hz39);exact⟨e8.1,by(simp only [List.length_set];exact e8.2.1),F8 e8.2.2 (by have e9:=N0 (by assumption);omega)⟩),k4,k5,k6⟩,by omega⟩;done))
        ·rfl
     ·
      refine c6 12 rfl (W9 (i:=12) hM rfl rfl rfl) ?_
      refine d7 3 7 rfl rfl (by kernel_rfl) rfl rfl (V0 (DW rfl (off:=1) (by kernel_rfl) rfl)) (s9 0 13 14 (pv:=some v0) (N9 Tryz.func60) (Y9 code i213 h214 ([5, -11,4]) (by omega) (by omega) (by omega) (by(simp only [List.length_cons,List.length_nil];omega)) (by(simp only [List.length_cons,List.length_nil];omega))) rfl rfl (.cur rfl (.cons rfl .nil)) rfl (fun⟨_,_,_⟩=>rfl) (fun _=>rfl) (fun⟨_,_,_⟩=>rfl) rfl rfl) ?_ ?_
      ·
       rintro⟨⟩
       refine d7 4 7 rfl rfl (by kernel_rfl) rfl rfl (V0 (uW rfl (k:=11) (by kernel_rfl) rfl rfl rfl (by omega) rfl)) (s9 0 13 14 (pv:=some v0) (N9 Tryz.func60) (Y9 code i213 h214 ([5, -11,4]) (by omega) (by omega) (by omega) (by(simp only [List.length_cons,List.length_nil];omega)) (by(simp only [List.length_cons,List.length_nil];omega))) rfl rfl (.cur rfl (.cons rfl .nil)) rfl (fun⟨_,_,_⟩=>rfl) (fun _=>rfl) (fun⟨_,_,_⟩=>rfl) rfl rfl) ?_ ?_
       ·
        rintro⟨⟩
        refine lZ 7 rfl (s9 0 13 14 (pv:=some v0) (N9 Tryz.func60) (Y9 code i213 h214 ([5, -11,4]) (by omega) (by omega) (by omega) (by(simp only [List.length_cons,List.length_nil];omega)) (by(simp only [List.length_cons,List.length_nil];omega))) rfl rfl (.cur rfl (.cons rfl .nil)) rfl (fun⟨_,_,_⟩=>rfl) (fun _=>rfl) (fun⟨_,_,_⟩=>rfl) rfl rfl) ?_
        rintro⟨⟨x85,i286,h287⟩,hq88⟩
        try dsimp only at hq88
        try dsimp only
        obtain⟨q89,q90⟩:=hq88
        obtain⟨z91,hz92,b93⟩:=t9 (xs:=z38.2) (n:=0) (by omega) (by(have e7:=k7 _ (by assumption);omega))
        refine dT 8 rfl (T9 (by kernel_rfl) rfl rfl rfl b93 (f8 b93 hz92)) ?_
        refine dO 9 rfl (D8 x85 (n:=1) (by kernel_rfl) rfl rfl hz92 rfl rfl rfl rfl (.cons .sc .nil) rfl (fun j h1 h2=>by(simp at h1 h2;omega))) ?_
        refine dE ?_
        refine i9<|k9 ?_
        refine P5 11 7 (((0:Int)).toNat) 1 ((z38.1,z38.2.set ((0:Int)).toNat x85)) rfl rfl rfl (List.getElem?_eq_some_iff.1 hz39).1 rfl (fun j hj=>by(have:j=0∨j=1:=by omega);rcases this with rfl | rfl <;> rfl) ?_
        refine l9<|rC 5 ?_
        refine rS 5<|c9 ?_
        refine w7 Tryz.func56 (r8 5 .nil) (⟨b1.set (((0:Int)).toNat) ((z38.1,z38.2.set ((0:Int)).toNat x85)),hs2,e3,lv4,rv5,i286,h287⟩) ?_ ?_ (hL:=⟨rfl,⟨rfl,⟨rfl,trivial⟩⟩⟩)
        ·(try dsimp only) <;>((refine⟨⟨by(simp only [List.length_set];omega),k2,F8 k3 (by have e8:=k3 _ (J8 hz39);exact⟨e8.1,by(simp only [List.length_set];exact e8.2.1),F8 e8.2.2 (by have e9:=N0 (by assumption);omega)⟩),k4,k5,k6⟩,by omega⟩;done))
        ·rfl
       ·
        rintro⟨⟨x79,i280,h281⟩,hq82⟩
        try dsimp only at hq82
        try dsimp only
        obtain⟨q83,q84⟩:=hq82
        refine dT 4 rfl (J3 (k:=11) (by kernel_rfl) rfl rfl rfl (by omega) rfl) ?_
        obtain⟨z94,hz95,b96⟩:=t9 (xs:=z38.2) (n:=0) (by omega) (by(have e7:=k7 _ (by assumption);omega))
        refine dT 8 rfl (T9 (by kernel_rfl) rfl rfl rfl b96 (f8 b96 hz95)) ?_
        refine dO 9 rfl (D8 x79 (n:=1) (by kernel_rfl) rfl rfl hz95 rfl rfl rfl rfl (.cons .sc .nil) rfl (fun j h1 h2=>by(simp at h1 h2;omega))) ?_
        refine dE ?_
        refine i9<|k9 ?_
        refine P5 11 7 (((0:Int)).toNat) 1 ((z38.1,z38.2.set ((0:Int)).toNat x79)) rfl rfl rfl (List.getElem?_eq_some_iff.1 hz39).1 rfl (fun j hj=>by(have:j=0∨j=1:=by omega);rcases this with rfl | rfl <;> rfl) ?_
        refine l9<|rC 5 ?_
        refine rS 5<|c9 ?_
        refine w7 Tryz.func56 (r8 5 .nil) (⟨b1.set (((0:Int)).toNat) ((z38.1,z38.2.set ((0:Int)).toNat x79)),hs2,e3,lv4,rv5,i280,h281⟩) ?_ ?_ (hL:=⟨rfl,⟨rfl,⟨rfl,trivial⟩⟩⟩)
        ·(try dsimp only) <;>((refine⟨⟨by(simp only [List.length_set];omega),k2,F8 k3 (by have e8:=k3 _ (J8 hz39);exact⟨e8.1,by(simp only [List.length_set];exact e8.2.1),F8 e8.2.2 (by have e9:=N0 (by assumption);omega)⟩),k4,k5,k6⟩,by omega⟩;done))
        ·rfl
      ·
       rintro⟨⟨x73,i274,h275⟩,hq76⟩
       try dsimp only at hq76
       try dsimp only
       obtain⟨q77,q78⟩:=hq76
       refine dT 3 rfl (C4 (off:=1) (by kernel_rfl) rfl) ?_
       refine dT 4 rfl (J3 (k:=11) (by kernel_rfl) rfl rfl rfl (by omega) rfl) ?_
       obtain⟨z97,hz98,b99⟩:=t9 (xs:=z38.2) (n:=0) (by omega) (by(have e7:=k7 _ (by assumption);omega))
       refine dT 8 rfl (T9 (by kernel_rfl) rfl rfl rfl b99 (f8 b99 hz98)) ?_
       refine dO 9 rfl (D8 x73 (n:=1) (by kernel_rfl) rfl rfl hz98 rfl rfl rfl rfl (.cons .sc .nil) rfl (fun j h1 h2=>by(simp at h1 h2;omega))) ?_
       refine dE ?_
       refine i9<|k9 ?_
       refine P5 11 7 (((0:Int)).toNat) 1 ((z38.1,z38.2.set ((0:Int)).toNat x73)) rfl rfl rfl (List.getElem?_eq_some_iff.1 hz39).1 rfl (fun j hj=>by(have:j=0∨j=1:=by omega);rcases this with rfl | rfl <;> rfl) ?_
       refine l9<|rC 5 ?_
       refine rS 5<|c9 ?_
       refine w7 Tryz.func56 (r8 5 .nil) (⟨b1.set (((0:Int)).toNat) ((z38.1,z38.2.set ((0:Int)).toNat x73)),hs2,e3,lv4,rv5,i274,h275⟩) ?_ ?_ (hL:=⟨rfl,⟨rfl,⟨rfl,trivial⟩⟩⟩)
       ·(try dsimp only) <;>((refine⟨⟨by(simp only [List.length_set];omega),k2,F8 k3 (by have e8:=k3 _ (J8 hz39);exact⟨e8.1,by(simp only [List.length_set];exact e8.2.1),F8 e8.2.2 (by have e9:=N0 (by assumption);omega)⟩),k4,k5,k6⟩,by omega⟩;done))
       ·rfl
    ·
     refine c6 12 rfl (W9 (i:=12) hM rfl rfl rfl) ?_
     obtain⟨z100,hz101,b102⟩:=t9 (xs:=H1 b1 (((0:Int)).toNat) z38 1 v42) (n:=0) (by omega) (by(rw [C3];omega))
     refine d7 2 7 rfl rfl (by kernel_rfl) rfl rfl (V0 (t8 rfl (by kernel_rfl) rfl rfl rfl b102 (f8 b102 hz101))) (s9 0 13 14 (pv:=some v0) (N9 Tryz.func60) (Y9 code i213 h214 ([5, -11,4]) (by omega) (by omega) (by omega) (by(simp only [List.length_cons,List.length_nil];omega)) (by(simp only [List.length_cons,List.length_nil];omega))) rfl rfl (.cur rfl (.cons rfl .nil)) rfl (fun⟨_,_,_⟩=>rfl) (fun _=>rfl) (fun⟨_,_,_⟩=>rfl) rfl rfl) ?_ ?_
     ·
      rintro⟨⟩
      refine d7 3 7 rfl rfl (by kernel_rfl) rfl rfl (V0 (DW rfl (off:=1) (by kernel_rfl) rfl)) (s9 0 13 14 (pv:=some v0) (N9 Tryz.func60) (Y9 code i213 h214 ([5, -11,4]) (by omega) (by omega) (by omega) (by(simp only [List.length_cons,List.length_nil];omega)) (by(simp only [List.length_cons,List.length_nil];omega))) rfl rfl (.cur rfl (.cons rfl .nil)) rfl (fun⟨_,_,_⟩=>rfl) (fun _=>rfl) (fun⟨_,_,_⟩=>rfl) rfl rfl) ?_ ?_
      ·
       rintro⟨⟩
       refine d7 4 7 rfl rfl (by kernel_rfl) rfl rfl (V0 (uW rfl (k:=11) (by kernel_rfl) rfl rfl rfl (by omega) rfl)) (s9 0 13 14 (pv:=some v0) (N9 Tryz.func60) (Y9 code i213 h214 ([5, -11,4]) (by omega) (by omega) (by omega) (by(simp only [List.length_cons,List.length_nil];omega)) (by(simp only [List.length_cons,List.length_nil];omega))) rfl rfl (.cur rfl (.cons rfl .nil)) rfl (fun⟨_,_,_⟩=>rfl) (fun _=>rfl) (fun⟨_,_,_⟩=>rfl) rfl rfl) ?_ ?_
       ·
        rintro⟨⟩
        refine lZ 7 rfl (s9 0 13 14 (pv:=some v0) (N9 Tryz.func60) (Y9 code i213 h214 ([5, -11,4]) (by omega) (by omega) (by omega) (by(simp only [List.length_cons,List.length_nil];omega)) (by(simp only [List.length_cons,List.length_nil];omega))) rfl rfl (.cur rfl (.cons rfl .nil)) rfl (fun⟨_,_,_⟩=>rfl) (fun _=>rfl) (fun⟨_,_,_⟩=>rfl) rfl rfl) ?_
        rintro⟨⟨x121,i2122,h2123⟩,hq124⟩
        try dsimp only at hq124
        try dsimp only
        obtain⟨q125,q126⟩:=hq124
        obtain⟨z127,hz128,b129⟩:=t9 (xs:=z38.2) (n:=0) (by omega) (by(have e7:=k7 _ (by assumption);omega))
        refine dT 8 rfl (T9 (by kernel_rfl) rfl rfl rfl b129 (f8 b129 hz128)) ?_
        refine dO 9 rfl (D8 x121 (n:=1) (by kernel_rfl) rfl rfl hz128 rfl rfl rfl rfl (.cons .sc .nil) rfl (fun j h1 h2=>by(simp at h1 h2;omega))) ?_
        refine dE ?_
        refine i9<|k9 ?_
        refine P5 11 7 (((0:Int)).toNat) 1 ((z38.1,z38.2.set ((0:Int)).toNat x121)) rfl rfl rfl (List.getElem?_eq_some_iff.1 hz39).1 rfl (fun j hj=>by(have:j=0∨j=1:=by omega);rcases this with rfl | rfl <;> rfl) ?_
        refine l9<|rC 5 ?_
        refine rS 5<|c9 ?_
        refine w7 Tryz.func56 (r8 5 .nil) (⟨b1.set (((0:Int)).toNat) ((z38.1,z38.2.set ((0:Int)).toNat x121)),hs2,e3,lv4,rv5,i2122,h2123⟩) ?_ ?_ (hL:=⟨rfl,⟨rfl,⟨rfl,trivial⟩⟩⟩)
        ·(try dsimp only) <;>((refine⟨⟨by(simp only [List.length_set];omega),k2,F8 k3 (by have e8:=k3 _ (J8 hz39);exact⟨e8.1,by(simp only [List.length_set];exact e8.2.1),F8 e8.2.2 (by have e9:=N0 (by assumption);omega)⟩),k4,k5,k6⟩,by omega⟩;done))
        ·rfl
       ·
        rintro⟨⟨x115,i2116,h2117⟩,hq118⟩
        try dsimp only at hq118
        try dsimp only
        obtain⟨q119,q120⟩:=hq118
        refine dT 4 rfl (J3 (k:=11) (by kernel_rfl) rfl rfl rfl (by omega) rfl) ?_
        obtain⟨z130,hz131,b132⟩:=t9 (xs:=z38.2) (n:=0) (by omega) (by(have e7:=k7 _ (by assumption);omega))
        refine dT 8 rfl (T9 (by kernel_rfl) rfl rfl rfl b132 (f8 b132 hz131)) ?_
        refine dO 9 rfl (D8 x115 (n:=1) (by kernel_rfl) rfl rfl hz131 rfl rfl rfl rfl (.cons .sc .nil) rfl (fun j h1 h2=>by(simp at h1 h2;omega))) ?_
        refine dE ?_
        refine i9<|k9 ?_
        refine P5 11 7 (((0:Int)).toNat) 1 ((z38.1,z38.2.set ((0:Int)).toNat x115)) rfl rfl rfl (List.getElem?_eq_some_iff.1 hz39).1 rfl (fun j hj=>by(have:j=0∨j=1:=by omega);rcases this with rfl | rfl <;> rfl) ?_
        refine l9<|rC 5 ?_
        refine rS 5<|c9 ?_
        refine w7 Tryz.func56 (r8 5 .nil) (⟨b1.set (((0:Int)).toNat) ((z38.1,z38.2.set ((0:Int)).toNat x115)),hs2,e3,lv4,rv5,i2116,h2117⟩) ?_ ?_ (hL:=⟨rfl,⟨rfl,⟨rfl,trivial⟩⟩⟩)
        ·(try dsimp only) <;>((refine⟨⟨by(simp only [List.length_set];omega),k2,F8 k3 (by have e8:=k3 _ (J8 hz39);exact⟨e8.1,by(simp only [List.length_set];exact e8.2.1),F8 e8.2.2 (by have e9:=N0 (by assumption);omega)⟩),k4,k5,k6⟩,by omega⟩;done))
        ·rfl
      ·
       rintro⟨⟨x109,i2110,h2111⟩,hq112⟩
       try dsimp only at hq112
       try dsimp only
       obtain⟨q113,q114⟩:=hq112
       refine dT 3 rfl (C4 (off:=1) (by kernel_rfl) rfl) ?_
       refine dT 4 rfl (J3 (k:=11) (by kernel_rfl) rfl rfl rfl (by omega) rfl) ?_
       obtain⟨z133,hz134,b135⟩:=t9 (xs:=z38.2) (n:=0) (by omega) (by(have e7:=k7 _ (by assumption);omega))
       refine dT 8 rfl (T9 (by kernel_rfl) rfl rfl rfl b135 (f8 b135 hz134)) ?_
       refine dO 9 rfl (D8 x109 (n:=1) (by kernel_rfl) rfl rfl hz134 rfl rfl rfl rfl (.cons .sc .nil) rfl (fun j h1 h2=>by(simp at h1 h2;omega))) ?_
       refine dE ?_
       refine i9<|k9 ?_
       refine P5 11 7 (((0:Int)).toNat) 1 ((z38.1,z38.2.set ((0:Int)).toNat x109)) rfl rfl rfl (List.getElem?_eq_some_iff.1 hz39).1 rfl (fun j hj=>by(have:j=0∨j=1:=by omega);rcases this with rfl | rfl <;> rfl) ?_
       refine l9<|rC 5 ?_
       refine rS 5<|c9 ?_
       refine w7 Tryz.func56 (r8 5 .nil) (⟨b1.set (((0:Int)).toNat) ((z38.1,z38.2.set ((0:Int)).toNat x109)),hs2,e3,lv4,rv5,i2110,h2111⟩) ?_ ?_ (hL:=⟨rfl,⟨rfl,⟨rfl,trivial⟩⟩⟩)
       ·(try dsimp only) <;>((refine⟨⟨by(simp only [List.length_set];omega),k2,F8 k3 (by have e8:=k3 _ (J8 hz39);exact⟨e8.1,by(simp only [List.length_set];exact e8.2.1),F8 e8.2.2 (by have e9:=N0 (by assumption);omega)⟩),k4,k5,k6⟩,by omega⟩;done))
       ·rfl
     ·
      rintro⟨⟨x103,i2104,h2105⟩,hq106⟩
      try dsimp only at hq106
      try dsimp only
      obtain⟨q107,q108⟩:=hq106
      obtain⟨z136,hz137,b138⟩:=t9 (xs:=H1 b1 (((0:Int)).toNat) z38 1 v42) (n:=0) (by omega) (by(rw [C3];omega))
      refine dT 2 rfl (T9 (by kernel_rfl) rfl rfl rfl b138 (f8 b138 hz137)) ?_
      refine dT 3 rfl (C4 (off:=1) (by kernel_rfl) rfl) ?_
      refine dT 4 rfl (J3 (k:=11) (by kernel_rfl) rfl rfl rfl (by omega) rfl) ?_
      obtain⟨z139,hz140,b141⟩:=t9 (xs:=z38.2) (n:=0) (by omega) (by(have e7:=k7 _ (by assumption);omega))
      refine dT 8 rfl (T9 (by kernel_rfl) rfl rfl rfl b141 (f8 b141 hz140)) ?_
      refine dO 9 rfl (D8 x103 (n:=1) (by kernel_rfl) rfl rfl hz140 rfl rfl rfl rfl (.cons .sc .nil) rfl (fun j h1 h2=>by(simp at h1 h2;omega))) ?_
      refine dE ?_
      refine i9<|k9 ?_
      refine P5 11 7 (((0:Int)).toNat) 1 ((z38.1,z38.2.set ((0:Int)).toNat x103)) rfl rfl rfl (List.getElem?_eq_some_iff.1 hz39).1 rfl (fun j hj=>by(have:j=0∨j=1:=by omega);rcases this with rfl | rfl <;> rfl) ?_
      refine l9<|rC 5 ?_
      refine rS 5<|c9 ?_
      refine w7 Tryz.func56 (r8 5 .nil) (⟨b1.set (((0:Int)).toNat) ((z38.1,z38.2.set ((0:Int)).toNat x103)),hs2,e3,lv4,rv5,i2104,h2105⟩) ?_ ?_ (hL:=⟨rfl,⟨rfl,⟨rfl,trivial⟩⟩⟩)
      ·(try dsimp only) <;>((refine⟨⟨by(simp only [List.length_set];omega),k2,F8 k3 (by have e8:=k3 _ (J8 hz39);exact⟨e8.1,by(simp only [List.length_set];exact e8.2.1),F8 e8.2.2 (by have e9:=N0 (by assumption);omega)⟩),k4,k5,k6⟩,by omega⟩;done))
      ·rfl
   ·
    refine c6 12 rfl (W9 (i:=12) hM rfl rfl rfl) ?_
    refine d7 1 7 rfl rfl (by kernel_rfl) rfl rfl (V0 oL) (s9 0 13 14 (pv:=some v0) (N9 Tryz.func60) (Y9 code i213 h214 ([5, -11,4]) (by omega) (by omega) (by omega) (by(simp only [List.length_cons,List.length_nil];omega)) (by(simp only [List.length_cons,List.length_nil];omega))) rfl rfl (.cur rfl (.cons rfl .nil)) rfl (fun⟨_,_,_⟩=>rfl) (fun _=>rfl) (fun⟨_,_,_⟩=>rfl) rfl rfl) ?_ ?_
    ·
     rintro⟨⟩
     obtain⟨z148,hz149,b150⟩:=t9 (xs:=H1 b1 (((0:Int)).toNat) z38 1 v42) (n:=0) (by omega) (by(rw [C3];omega))
     refine d7 2 7 rfl rfl (by kernel_rfl) rfl rfl (V0 (t8 rfl (by kernel_rfl) rfl rfl rfl b150 (f8 b150 hz149))) (s9 0 13 14 (pv:=some v0) (N9 Tryz.func60) (Y9 code i213 h214 ([5, -11,4]) (by omega) (by omega) (by omega) (by(simp only [List.length_cons,List.length_nil];omega)) (by(simp only [List.length_cons,List.length_nil];omega))) rfl rfl (.cur rfl (.cons rfl .nil)) rfl (fun⟨_,_,_⟩=>rfl) (fun _=>rfl) (fun⟨_,_,_⟩=>rfl) rfl rfl) ?_ ?_
     ·
      rintro⟨⟩
      refine d7 3 7 rfl rfl (by kernel_rfl) rfl rfl (V0 (DW rfl (off:=1) (by kernel_rfl) rfl)) (s9 0 13 14 (pv:=some v0) (N9 Tryz.func60) (Y9 code i213 h214 ([5, -11,4]) (by omega) (by omega) (by omega) (by(simp only [List.length_cons,List.length_nil];omega)) (by(simp only [List.length_cons,List.length_nil];omega))) rfl rfl (.cur rfl (.cons rfl .nil)) rfl (fun⟨_,_,_⟩=>rfl) (fun _=>rfl) (fun⟨_,_,_⟩=>rfl) rfl rfl) ?_ ?_
      ·
       rintro⟨⟩
       refine d7 4 7 rfl rfl (by kernel_rfl) rfl rfl (V0 (uW rfl (k:=11) (by kernel_rfl) rfl rfl rfl (by omega) rfl)) (s9 0 13 14 (pv:=some v0) (N9 Tryz.func60) (Y9 code i213 h214 ([5, -11,4]) (by omega) (by omega) (by omega) (by(simp only [List.length_cons,List.length_nil];omega)) (by(simp only [List.length_cons,List.length_nil];omega))) rfl rfl (.cur rfl (.cons rfl .nil)) rfl (fun⟨_,_,_⟩=>rfl) (fun _=>rfl) (fun⟨_,_,_⟩=>rfl) rfl rfl) ?_ ?_
       ·
        rintro⟨⟩
        refine lZ 7 rfl (s9 0 13 14 (pv:=some v0) (N9 Tryz.func60) (Y9 code i213 h214 ([5, -11,4]) (by omega) (by omega) (by omega) (by(simp only [List.length_cons,List.length_nil];omega)) (by(simp only [List.length_cons,List.length_nil];omega))) rfl rfl (.cur rfl (.cons rfl .nil)) rfl (fun⟨_,_,_⟩=>rfl) (fun _=>rfl) (fun⟨_,_,_⟩=>rfl) rfl rfl) ?_
        rintro⟨⟨x169,i2170,h2171⟩,hq172⟩
        try dsimp only at hq172
        try dsimp only
        obtain⟨q173,q174⟩:=hq172
        obtain⟨z175,hz176,b177⟩:=t9 (xs:=z38.2) (n:=0) (by omega) (by(have e7:=k7 _ (by assumption);omega))
        refine dT 8 rfl (T9 (by kernel_rfl) rfl rfl rfl b177 (f8 b177 hz176)) ?_
        refine dO 9 rfl (D8 x169 (n:=1) (by kernel_rfl) rfl rfl hz176 rfl rfl rfl rfl (.cons .sc .nil) rfl (fun j h1 h2=>by(simp at h1 h2;omega))) ?_
        refine dE ?_
        refine i9<|k9 ?_
        refine P5 11 7 (((0:Int)).toNat) 1 ((z38.1,z38.2.set ((0:Int)).toNat x169)) rfl rfl rfl (List.getElem?_eq_some_iff.1 hz39).1 rfl (fun j hj=>by(have:j=0∨j=1:=by omega);rcases this with rfl | rfl <;> rfl) ?_
        refine l9<|rC 5 ?_
        refine rS 5<|c9 ?_
        refine w7 Tryz.func56 (r8 5 .nil) (⟨b1.set (((0:Int)).toNat) ((z38.1,z38.2.set ((0:Int)).toNat x169)),hs2,e3,lv4,rv5,i2170,h2171⟩) ?_ ?_ (hL:=⟨rfl,⟨rfl,⟨rfl,trivial⟩⟩⟩)
        ·(try dsimp only) <;>((refine⟨⟨by(simp only [List.length_set];omega),k2,F8 k3 (by have e8:=k3 _ (J8 hz39);exact⟨e8.1,by(simp only [List.length_set];exact e8.2.1),F8 e8.2.2 (by have e9:=N0 (by assumption);omega)⟩),k4,k5,k6⟩,by omega⟩;done))
        ·rfl
       ·
        rintro⟨⟨x163,i2164,h2165⟩,hq166⟩
        try dsimp only at hq166
        try dsimp only
        obtain⟨q167,q168⟩:=hq166
        refine dT 4 rfl (J3 (k:=11) (by kernel_rfl) rfl rfl rfl (by omega) rfl) ?_
        obtain⟨z178,hz179,b180⟩:=t9 (xs:=z38.2) (n:=0) (by omega) (by(have e7:=k7 _ (by assumption);omega))
        refine dT 8 rfl (T9 (by kernel_rfl) rfl rfl rfl b180 (f8 b180 hz179)) ?_
        refine dO 9 rfl (D8 x163 (n:=1) (by kernel_rfl) rfl rfl hz179 rfl rfl rfl rfl (.cons .sc .nil) rfl (fun j h1 h2=>by(simp at h1 h2;omega))) ?_
        refine dE ?_
        refine i9<|k9 ?_
        refine P5 11 7 (((0:Int)).toNat) 1 ((z38.1,z38.2.set ((0:Int)).toNat x163)) rfl rfl rfl (List.getElem?_eq_some_iff.1 hz39).1 rfl (fun j hj=>by(have:j=0∨j=1:=by omega);rcases this with rfl | rfl <;> rfl) ?_
        refine l9<|rC 5 ?_
        refine rS 5<|c9 ?_
        refine w7 Tryz.func56 (r8 5 .nil) (⟨b1.set (((0:Int)).toNat) ((z38.1,z38.2.set ((0:Int)).toNat x163)),hs2,e3,lv4,rv5,i2164,h2165⟩) ?_ ?_ (hL:=⟨rfl,⟨rfl,⟨rfl,trivial⟩⟩⟩)
        ·(try dsimp only) <;>((refine⟨⟨by(simp only [List.length_set];omega),k2,F8 k3 (by have e8:=k3 _ (J8 hz39);exact⟨e8.1,by(simp only [List.length_set];exact e8.2.1),F8 e8.2.2 (by have e9:=N0 (by assumption);omega)⟩),k4,k5,k6⟩,by omega⟩;done))
        ·rfl
      ·
       rintro⟨⟨x157,i2158,h2159⟩,hq160⟩
       try dsimp only at hq160
       try dsimp only
       obtain⟨q161,q162⟩:=hq160
       refine dT 3 rfl (C4 (off:=1) (by kernel_rfl) rfl) ?_
       refine dT 4 rfl (J3 (k:=11) (by kernel_rfl) rfl rfl rfl (by omega) rfl) ?_
       obtain⟨z181,hz182,b183⟩:=t9 (xs:=z38.2) (n:=0) (by omega) (by(have e7:=k7 _ (by assumption);omega))
       refine dT 8 rfl (T9 (by kernel_rfl) rfl rfl rfl b183 (f8 b183 hz182)) ?_
       refine dO 9 rfl (D8 x157 (n:=1) (by kernel_rfl) rfl rfl hz182 rfl rfl rfl rfl (.cons .sc .nil) rfl (fun j h1 h2=>by(simp at h1 h2;omega))) ?_
       refine dE ?_
       refine i9<|k9 ?_
       refine P5 11 7 (((0:Int)).toNat) 1 ((z38.1,z38.2.set ((0:Int)).toNat x157)) rfl rfl rfl (List.getElem?_eq_some_iff.1 hz39).1 rfl (fun j hj=>by(have:j=0∨j=1:=by omega);rcases this with rfl | rfl <;> rfl) ?_
       refine l9<|rC 5 ?_
       refine rS 5<|c9 ?_
       refine w7 Tryz.func56 (r8 5 .nil) (⟨b1.set (((0:Int)).toNat) ((z38.1,z38.2.set ((0:Int)).toNat x157)),hs2,e3,lv4,rv5,i2158,h2159⟩) ?_ ?_ (hL:=⟨rfl,⟨rfl,⟨rfl,trivial⟩⟩⟩)
       ·(try dsimp only) <;>((refine⟨⟨by(simp only [List.length_set];omega),k2,F8 k3 (by have e8:=k3 _ (J8 hz39);exact⟨e8.1,by(simp only [List.length_set];exact e8.2.1),F8 e8.2.2 (by have e9:=N0 (by assumption);omega)⟩),k4,k5,k6⟩,by omega⟩;done))
       ·rfl
     ·
      rintro⟨⟨x151,i2152,h2153⟩,hq154⟩
      try dsimp only at hq154
      try dsimp only
      obtain⟨q155,q156⟩:=hq154
      obtain⟨z184,hz185,b186⟩:=t9 (xs:=H1 b1 (((0:Int)).toNat) z38 1 v42) (n:=0) (by omega) (by(rw [C3];omega))
      refine dT 2 rfl (T9 (by kernel_rfl) rfl rfl rfl b186 (f8 b186 hz185)) ?_
      refine dT 3 rfl (C4 (off:=1) (by kernel_rfl) rfl) ?_
      refine dT 4 rfl (J3 (k:=11) (by kernel_rfl) rfl rfl rfl (by omega) rfl) ?_
      obtain⟨z187,hz188,b189⟩:=t9 (xs:=z38.2) (n:=0) (by omega) (by(have e7:=k7 _ (by assumption);omega))
      refine dT 8 rfl (T9 (by kernel_rfl) rfl rfl rfl b189 (f8 b189 hz188)) ?_
      refine dO 9 rfl (D8 x151 (n:=1) (by kernel_rfl) rfl rfl hz188 rfl rfl rfl rfl (.cons .sc .nil) rfl (fun j h1 h2=>by(simp at h1 h2;omega))) ?_
      refine dE ?_
      refine i9<|k9 ?_
      refine P5 11 7 (((0:Int)).toNat) 1 ((z38.1,z38.2.set ((0:Int)).toNat x151)) rfl rfl rfl (List.getElem?_eq_some_iff.1 hz39).1 rfl (fun j hj=>by(have:j=0∨j=1:=by omega);rcases this with rfl | rfl <;> rfl) ?_
      refine l9<|rC 5 ?_
      refine rS 5<|c9 ?_
      refine w7 Tryz.func56 (r8 5 .nil) (⟨b1.set (((0:Int)).toNat) ((z38.1,z38.2.set ((0:Int)).toNat x151)),hs2,e3,lv4,rv5,i2152,h2153⟩) ?_ ?_ (hL:=⟨rfl,⟨rfl,⟨rfl,trivial⟩⟩⟩)
      ·(try dsimp only) <;>((refine⟨⟨by(simp only [List.length_set];omega),k2,F8 k3 (by have e8:=k3 _ (J8 hz39);exact⟨e8.1,by(simp only [List.length_set];exact e8.2.1),F8 e8.2.2 (by have e9:=N0 (by assumption);omega)⟩),k4,k5,k6⟩,by omega⟩;done))
      ·rfl
    ·
     rintro⟨⟨x142,i2143,h2144⟩,hq145⟩
     try dsimp only at hq145
     try dsimp only
     obtain⟨q146,q147⟩:=hq145
     refine dT 1 rfl pL ?_
     obtain⟨z190,hz191,b192⟩:=t9 (xs:=H1 b1 (((0:Int)).toNat) z38 1 v42) (n:=0) (by omega) (by(rw [C3];omega))
     refine dT 2 rfl (T9 (by kernel_rfl) rfl rfl rfl b192 (f8 b192 hz191)) ?_
     refine dT 3 rfl (C4 (off:=1) (by kernel_rfl) rfl) ?_
     refine dT 4 rfl (J3 (k:=11) (by kernel_rfl) rfl rfl rfl (by omega) rfl) ?_
     obtain⟨z193,hz194,b195⟩:=t9 (xs:=z38.2) (n:=0) (by omega) (by(have e7:=k7 _ (by assumption);omega))
     refine dT 8 rfl (T9 (by kernel_rfl) rfl rfl rfl b195 (f8 b195 hz194)) ?_
     refine dO 9 rfl (D8 x142 (n:=1) (by kernel_rfl) rfl rfl hz194 rfl rfl rfl rfl (.cons .sc .nil) rfl (fun j h1 h2=>by(simp at h1 h2;omega))) ?_
     refine dE ?_
     refine i9<|k9 ?_
     refine P5 11 7 (((0:Int)).toNat) 1 ((z38.1,z38.2.set ((0:Int)).toNat x142)) rfl rfl rfl (List.getElem?_eq_some_iff.1 hz39).1 rfl (fun j hj=>by(have:j=0∨j=1:=by omega);rcases this with rfl | rfl <;> rfl) ?_
     refine l9<|rC 5 ?_
     refine rS 5<|c9 ?_
     refine w7 Tryz.func56 (r8 5 .nil) (⟨b1.set (((0:Int)).toNat) ((z38.1,z38.2.set ((0:Int)).toNat x142)),hs2,e3,lv4,rv5,i2143,h2144⟩) ?_ ?_ (hL:=⟨rfl,⟨rfl,⟨rfl,trivial⟩⟩⟩)
     ·(try dsimp only) <;>((refine⟨⟨by(simp only [List.length_set];omega),k2,F8 k3 (by have e8:=k3 _ (J8 hz39);exact⟨e8.1,by(simp only [List.length_set];exact e8.2.1),F8 e8.2.2 (by have e9:=N0 (by assumption);omega)⟩),k4,k5,k6⟩,by omega⟩;done))
     ·rfl
  ·
   have h37':=l8 h37
   refine w9<|rB ?_
   refine rA<|c9 ?_
   refine j9 rfl (fun h196=>?_) (fun h196=>?_)
   ·
    have h196':=j8 h196
    refine l9<|rM ?_
    refine p7 (s9 0 11 12 (pv:=some v0) (N9 Tryz.func19) (A9 code i213 h214 4 (by omega) (by omega) (by omega) (by omega) (by omega)) rfl rfl (.cur rfl (.cons rfl .nil)) rfl (fun⟨_,_,_⟩=>rfl) (fun _=>rfl) (fun⟨_,_,_⟩=>rfl) rfl rfl) ?_
    rintro⟨⟨x197,i2198,h2199⟩,hq200⟩
    try dsimp only at hq200
    try dsimp only
    obtain⟨q201,q202⟩:=hq200
    refine rF 3 ?_
    refine rS 1<|c9<|i9<|w9 ?_
    refine rC 5 ?_
    refine rS 5<|c9 ?_
    refine w7 Tryz.func56 (r8 5 .nil) (⟨b1,hs2,e3,x197,rv5,i2198,h2199⟩) ?_ ?_ (hL:=⟨rfl,⟨rfl,⟨rfl,trivial⟩⟩⟩)
    ·(try dsimp only) <;>((exact⟨⟨k1,k2,k3,k4,by(try dsimp only);omega,k6⟩,by omega⟩))
    ·rfl
   ·
    have h196':=l8 h196
    refine w9<|rB ?_
    refine rA<|c9 ?_
    refine j9 rfl (fun h203=>?_) (fun h203=>?_)
    ·
     have h203':=j8 h203
     refine l9<|rF 2 ?_
     refine rL ?_
     refine d9 (Q8 rfl rfl) ?_
     refine rF 2 ?_
     refine rS 1<|c9<|i9<|w9 ?_
     refine rC 5 ?_
     refine rS 5<|c9 ?_
     refine w7 Tryz.func56 (r8 5 .nil) (⟨b1,hs2,!(e3),lv4,rv5,i213,h214⟩) ?_ ?_ (hL:=⟨rfl,⟨rfl,⟨rfl,trivial⟩⟩⟩)
     ·(try dsimp only) <;>((exact⟨by assumption,by omega⟩))
     ·rfl
    ·
     have h203':=l8 h203
     refine w9<|rB ?_
     refine rA<|c9 ?_
     refine j9 rfl (fun h204=>?_) (fun h204=>?_)
     ·
      have h204':=j8 h204
      refine tD (fun i=>!(Nat.beq i 4||Nat.beq i 5||Nat.beq i 7||Nat.beq i 9)) ?_
      refine y7 0 rfl rfl (by kernel_rfl) (by kernel_rfl) (by kernel_rfl) (W7 (off:=1) (by kernel_rfl) rfl) ?_
      refine y7 2 rfl rfl (by kernel_rfl) (by kernel_rfl) (by kernel_rfl) (V4 rfl) ?_
      refine dT 3 rfl pM ?_
      refine d7 1 4 rfl rfl (by kernel_rfl) rfl rfl (V0 oL) (s9 0 11 12 (pv:=some v0) (N9 Tryz.func19) (A9 code i213 h214 5 (by omega) (by omega) (by omega) (by omega) (by omega)) rfl rfl (.cur rfl (.cons rfl .nil)) rfl (fun⟨_,_,_⟩=>rfl) (fun _=>rfl) (fun⟨_,_,_⟩=>rfl) rfl rfl) ?_ ?_
      ·
       rintro⟨⟩
       refine lZ 4 rfl (s9 0 11 12 (pv:=some v0) (N9 Tryz.func19) (A9 code i213 h214 5 (by omega) (by omega) (by omega) (by omega) (by omega)) rfl rfl (.cur rfl (.cons rfl .nil)) rfl (fun⟨_,_,_⟩=>rfl) (fun _=>rfl) (fun⟨_,_,_⟩=>rfl) rfl rfl) ?_
       rintro⟨⟨x211,i2212,h2213⟩,hq214⟩
       try dsimp only at hq214
       try dsimp only
       obtain⟨q215,q216⟩:=hq214
       refine lZ 5 rfl (s9 0 12 17 (pv:=some v0) (N9 Tryz.func104) (D7 code i2212 h2213 x211 3 (by omega) (by omega) (by omega) (by omega) (by omega)) rfl rfl (.cur rfl (.cons rfl (.cons rfl .nil))) rfl (fun⟨_,_,_⟩=>rfl) (fun _=>rfl) (fun⟨_,_,_⟩=>rfl) rfl rfl) ?_
       rintro⟨⟨ts217,i2218,h2219⟩,hq220⟩
       try dsimp only at hq220
       try dsimp only
       obtain⟨q221,q222,q223⟩:=hq220
       have hy9:∀x∈ts217, -3≤x∧x≤4:=(by assumption)
       refine dO 6 rfl (G8 17 (e:=55) (sz:=2) (zs:=[.int .i64 0,.slice none 0 0]) rfl rfl (by kernel_rfl) rfl rfl rfl rfl rfl) ?_
       refine dO 7 rfl (i8 8 (e:=55) (sz:=2) (by':=32) ((x211,ts217)) rfl (by kernel_rfl) rfl rfl rfl rfl rfl rfl (.cons .sc (.take (.own rfl) rfl .nil)) rfl (by omega) (by omega)) ?_
       refine dT 8 rfl (pF 1) ?_
       refine dO 9 rfl (oS 1) ?_
       refine dE ?_
       refine i9<|w9<|rC 5 ?_
       refine rS 5<|c9 ?_
       refine w7 Tryz.func56 (r8 5 .nil) (⟨b1,hs2++[(x211,ts217)],e3,lv4,rv5,i2218,h2219⟩) ?_ ?_ (hL:=⟨rfl,⟨rfl,⟨rfl,trivial⟩⟩⟩)
       ·(try dsimp only) <;>((exact⟨⟨k1,by(simp only [List.length_append,List.length_singleton];omega),k3,m7 k4 ⟨by(try dsimp only);omega,by(try dsimp only);omega,fun x hx=>by have e9:=hy9 x hx;omega⟩,k5,k6⟩,by omega⟩))
       ·rfl
      ·
       rintro⟨⟨x205,i2206,h2207⟩,hq208⟩
       try dsimp only at hq208
       try dsimp only
       obtain⟨q209,q210⟩:=hq208
       refine d7 1 5 rfl rfl (by kernel_rfl) rfl rfl (V0 oL) (s9 0 12 17 (pv:=some v0) (N9 Tryz.func104) (D7 code i2206 h2207 x205 3 (by omega) (by omega) (by omega) (by omega) (by omega)) rfl rfl (.cur rfl (.cons rfl (.cons rfl .nil))) rfl (fun⟨_,_,_⟩=>rfl) (fun _=>rfl) (fun⟨_,_,_⟩=>rfl) rfl rfl) ?_ ?_
       ·
        rintro⟨⟩
        refine lZ 5 rfl (s9 0 12 17 (pv:=some v0) (N9 Tryz.func104) (D7 code i2206 h2207 x205 3 (by omega) (by omega) (by omega) (by omega) (by omega)) rfl rfl (.cur rfl (.cons rfl (.cons rfl .nil))) rfl (fun⟨_,_,_⟩=>rfl) (fun _=>rfl) (fun⟨_,_,_⟩=>rfl) rfl rfl) ?_
        rintro⟨⟨ts231,i2232,h2233⟩,hq234⟩
        try dsimp only at hq234
        try dsimp only
        obtain⟨q235,q236,q237⟩:=hq234
        have hy9:∀x∈ts231, -3≤x∧x≤4:=(by assumption)
        refine dO 6 rfl (G8 17 (e:=55) (sz:=2) (zs:=[.int .i64 0,.slice none 0 0]) rfl rfl (by kernel_rfl) rfl rfl rfl rfl rfl) ?_
        refine dO 7 rfl (i8 8 (e:=55) (sz:=2) (by':=32) ((x205,ts231)) rfl (by kernel_rfl) rfl rfl rfl rfl rfl rfl (.cons .sc (.take (.own rfl) rfl .nil)) rfl (by omega) (by omega)) ?_
        refine dT 8 rfl (pF 1) ?_
        refine dO 9 rfl (oS 1) ?_
        refine dE ?_
        refine i9<|w9<|rC 5 ?_
        refine rS 5<|c9 ?_
        refine w7 Tryz.func56 (r8 5 .nil) (⟨b1,hs2++[(x205,ts231)],e3,lv4,rv5,i2232,h2233⟩) ?_ ?_ (hL:=⟨rfl,⟨rfl,⟨rfl,trivial⟩⟩⟩)
        ·(try dsimp only) <;>((exact⟨⟨k1,by(simp only [List.length_append,List.length_singleton];omega),k3,m7 k4 ⟨by(try dsimp only);omega,by(try dsimp only);omega,fun x hx=>by have e9:=hy9 x hx;omega⟩,k5,k6⟩,by omega⟩))
        ·rfl
       ·
        rintro⟨⟨ts224,i2225,h2226⟩,hq227⟩
        try dsimp only at hq227
        try dsimp only
        obtain⟨q228,q229,q230⟩:=hq227
        have hy9:∀x∈ts224, -3≤x∧x≤4:=(by assumption)
        refine dT 1 rfl pL ?_
        refine dO 6 rfl (G8 17 (e:=55) (sz:=2) (zs:=[.int .i64 0,.slice none 0 0]) rfl rfl (by kernel_rfl) rfl rfl rfl rfl rfl) ?_
        refine dO 7 rfl (i8 8 (e:=55) (sz:=2) (by':=32) ((x205,ts224)) rfl (by kernel_rfl) rfl rfl rfl rfl rfl rfl (.cons .sc (.take (.own rfl) rfl .nil)) rfl (by omega) (by omega)) ?_
        refine dT 8 rfl (pF 1) ?_
        refine dO 9 rfl (oS 1) ?_
        refine dE ?_
        refine i9<|w9<|rC 5 ?_
        refine rS 5<|c9 ?_
        refine w7 Tryz.func56 (r8 5 .nil) (⟨b1,hs2++[(x205,ts224)],e3,lv4,rv5,i2225,h2226⟩) ?_ ?_ (hL:=⟨rfl,⟨rfl,⟨rfl,trivial⟩⟩⟩)
        ·(try dsimp only) <;>((exact⟨⟨k1,by(simp only [List.length_append,List.length_singleton];omega),k3,m7 k4 ⟨by(try dsimp only);omega,by(try dsimp only);omega,fun x hx=>by have e9:=hy9 x hx;omega⟩,k5,k6⟩,by omega⟩))
        ·rfl
     ·
      have h204':=l8 h204
      refine m9<|i9<|w9<|rC 5 ?_
      refine rS 5<|c9 ?_
      refine w7 Tryz.func56 (r8 5 .nil) (⟨b1,hs2,e3,lv4,rv5,i213,h214⟩) ?_ ?_ (hL:=⟨rfl,⟨rfl,⟨rfl,trivial⟩⟩⟩)
      ·(try dsimp only) <;>((exact⟨by assumption,by omega⟩))
      ·rfl
theorem nU (code:List Int)(hc:code.length≤1048576):jG Tryz.prog 16 [.c (.t none (.sl 1 f6 code))] (fun(⟨rs,fs,b,hs,e,lv,rv,i2,h2⟩:V9 × p9 × p9 × p9 × Bool × Int × Int × Int × Int)=>oT rs fs∧yY (b,hs,e,lv,rv)∧0≤i2∧i2≤code.length) (fun(⟨rs,fs,b,hs,e,lv,rv,i2,h2⟩:V9 × p9 × p9 × p9 × Bool × Int × Int × Int × Int)=>[(2,some (.box [.t none (.sl 1 f6 code),.t none (.v (.int .i64 i2)),.t none (.v (.int .i64 h2))]))]) 3 (fun(⟨rs,fs,b,hs,e,lv,rv,i2,h2⟩:V9 × p9 × p9 × p9 × Bool × Int × Int × Int × Int)=> .tup [(false,[.ptr 2 0]),(true,[.t none (.sl 3 (d8 Z9 f9 a8) rs),.t none (.sl 2 (E9 f9 (B9 1 f9)) fs)]),(true,[.t none (.sl 2 (E9 f9 (B9 1 f9)) b),.t none (.sl 2 (E9 f9 (B9 1 f9)) hs),.t none (.v (.bool e)),.t none (.v (.int .i64 lv)),.t none (.v (.int .i64 rv))])]):=by
 refine bV Tryz.func16 rfl (Nat.le_of_ble_eq_true rfl) fun w S=>?_
 refine w9<|rA ?_
 refine d9 (I9 0 (zs:=[.slice none 0 0,.slice none 0 0]) rfl rfl (by kernel_rfl) rfl) ?_
 refine d9 (I9 1 (zs:=[.slice none 0 0,.slice none 0 0,.bool false,.int .i64 0,.int .i64 0]) rfl rfl (by kernel_rfl) rfl) ?_
 refine o7<|rM ?_
 refine p7 (US 2 3 (N9 Tryz.func52) (iR code (by omega)) rfl (.cons rfl (.c .t0) .nil) rfl rfl) ?_
 rintro⟨h1,hq2⟩
 try dsimp only at hq2
 try dsimp only
 refine rA<|o7 ?_
 refine rM ?_
 refine p7 (s9 2 3 4 (pv:=none) (N9 Tryz.func53) (MU code 0 h1 (by omega) (by omega) (by omega)) rfl rfl (.cur rfl .nil) rfl (fun⟨_,_,_,_⟩=>rfl) (fun _=>rfl) (fun⟨_,_,_,_⟩=>rfl) rfl rfl) ?_
 rintro⟨⟨rs4,fs5,i26,h27⟩,hq8⟩
 try dsimp only at hq8
 try dsimp only
 obtain⟨q9,q10⟩:=hq8
 refine d9 (I9 4 (zs:=[.slice none 0 0,.slice none 0 0]) rfl rfl (by kernel_rfl) rfl) ?_
 refine rS 2<|o7 ?_
 refine rM ?_
 refine p7 (s9 2 5 12 (pv:=none) (N9 Tryz.func54) (IX code i26 h27 (by omega) (by omega) (by omega)) rfl rfl (.cur rfl .nil) rfl (fun⟨_,_,_,_,_,_,_⟩=>rfl) (fun _=>rfl) (fun⟨_,_,_,_,_,_,_⟩=>rfl) rfl rfl) ?_
 rintro⟨⟨b11,hs12,e13,lv14,rv15,i216,h217⟩,hq18⟩
 try dsimp only at hq18
 try dsimp only
 obtain⟨q19,q20,q21⟩:=hq18
 refine d9 (I9 12 (zs:=[.slice none 0 0,.slice none 0 0,.bool false,.int .i64 0,.int .i64 0]) rfl rfl (by kernel_rfl) rfl) ?_
 refine rS 5<|c9<|k9<|w9 ?_
 refine rM ?_
 refine p7 (s9 2 13 14 (pv:=none) (N9 Tryz.func19) (A9 code i216 h217 16 (by omega) (by omega) (by omega) (by omega) (by omega)) rfl rfl (.cur rfl (.cons rfl .nil)) rfl (fun⟨_,_,_⟩=>rfl) (fun _=>rfl) (fun⟨_,_,_⟩=>rfl) rfl rfl) ?_
 rintro⟨⟨x22,i223,h224⟩,hq25⟩
 try dsimp only at hq25
 try dsimp only
 obtain⟨q26,q27⟩:=hq25
 refine c9<|r9<|w9<|rB ?_
 refine rA<|c9 ?_
 refine j9 rfl (fun h28=>?_) (fun h28=>?_)
 ·
  have h28':=j8 h28
  refine l9<|rM ?_
  refine p7 (s9 2 14 15 (pv:=none) (N9 Tryz.func55) (xR code i223 h224 (by omega) (by omega) (by omega)) rfl rfl (.cur rfl .nil) rfl (fun⟨_,_,_,_⟩=>rfl) (fun _=>rfl) (fun⟨_,_,_,_⟩=>rfl) rfl rfl) ?_
  rintro⟨⟨rs29,fs30,i231,h232⟩,hq33⟩
  try dsimp only at hq33
  try dsimp only
  obtain⟨q34,q35⟩:=hq33
  refine rS 2<|c9<|i9<|k9 ?_
  refine tD (fun i=>!(Nat.beq i 4||Nat.beq i 5)) ?_
  refine dT 0 rfl pM ?_
  refine dT 1 rfl (pC 2) ?_
  refine dT 3 rfl pA ?_
  refine O8 2 4 rfl rfl (by kernel_rfl) rfl rfl (oC 5) (oS 2) ?_ ?_
  ·
   refine dO 4 rfl (oS 2) ?_
   refine dO 5 rfl (oS 5) ?_
   refine dE ?_
   refine o9 10 rfl (K9 rfl) ?_
   refine o9 11 rfl (K9 rfl) ?_
   refine w7 Tryz.func16 (.tmp rfl (r8 2 (r8 5 .nil))) (⟨rs29,fs30,b11,hs12,e13,lv14,rv15,i231,h232⟩) ?_ ?_ (hL:=⟨rfl,trivial⟩)
   ·(try dsimp only) <;>(exact⟨by assumption,by assumption,by omega⟩)
   ·rfl
  ·
   refine dT 2 rfl (pC 5) ?_
   refine dO 5 rfl (oS 5) ?_
   refine dE ?_
   refine o9 10 rfl (K9 rfl) ?_
   refine o9 11 rfl (K9 rfl) ?_
   refine w7 Tryz.func16 (.tmp rfl (r8 2 (r8 5 .nil))) (⟨rs29,fs30,b11,hs12,e13,lv14,rv15,i231,h232⟩) ?_ ?_ (hL:=⟨rfl,trivial⟩)
   ·(try dsimp only) <;>(exact⟨by assumption,by assumption,by omega⟩)
   ·rfl
 ·
  have h28':=l8 h28
  refine w9<|rB ?_
  refine rA<|c9 ?_
  refine j9 rfl (fun h36=>?_) (fun h36=>?_)
  ·
   have h36':=j8 h36
   refine l9<|rM ?_
   refine p7 (s9 2 14 23 (pv:=none) (N9 Tryz.func56) (TS code i223 h224 (by omega) (by omega) (by omega)) rfl rfl (.cur rfl .nil) rfl (fun⟨_,_,_,_,_,_,_⟩=>rfl) (fun _=>rfl) (fun⟨_,_,_,_,_,_,_⟩=>rfl) rfl rfl) ?_
   rintro⟨⟨b37,hs38,e39,lv40,rv41,i242,h243⟩,hq44⟩
   try dsimp only at hq44
   try dsimp only
   obtain⟨q45,q46⟩:=hq44
   refine rS 5<|c9<|i9<|k9 ?_
   refine tD (fun i=>!(Nat.beq i 4||Nat.beq i 5)) ?_
   refine dT 0 rfl pM ?_
   refine dT 1 rfl (pC 2) ?_
   refine dT 3 rfl pA ?_
   refine O8 2 4 rfl rfl (by kernel_rfl) rfl rfl (oC 5) (oS 2) ?_ ?_
   ·
    refine dO 4 rfl (oS 2) ?_
    refine dO 5 rfl (oS 5) ?_
    refine dE ?_
    refine o9 21 rfl (K9 rfl) ?_
    refine o9 22 rfl (K9 rfl) ?_
    refine w7 Tryz.func16 (.tmp rfl (r8 2 (r8 5 .nil))) (⟨rs4,fs5,b37,hs38,e39,lv40,rv41,i242,h243⟩) ?_ ?_ (hL:=⟨rfl,trivial⟩)
    ·(try dsimp only) <;>(exact⟨by assumption,by assumption,by omega⟩)
    ·rfl
   ·
    refine dT 2 rfl (pC 5) ?_
    refine dO 5 rfl (oS 5) ?_
    refine dE ?_
    refine o9 21 rfl (K9 rfl) ?_
    refine o9 22 rfl (K9 rfl) ?_
    refine w7 Tryz.func16 (.tmp rfl (r8 2 (r8 5 .nil))) (⟨rs4,fs5,b37,hs38,e39,lv40,rv41,i242,h243⟩) ?_ ?_ (hL:=⟨rfl,trivial⟩)
    ·(try dsimp only) <;>(exact⟨by assumption,by assumption,by omega⟩)
    ·rfl
  ·
   have h36':=l8 h36
   refine m9<|i9<|k9 ?_
   refine tD (fun i=>!(Nat.beq i 4||Nat.beq i 5)) ?_
   refine dT 0 rfl pM ?_
   refine dT 1 rfl (pC 2) ?_
   refine dT 3 rfl pA ?_
   refine O8 2 4 rfl rfl (by kernel_rfl) rfl rfl (oC 5) (oS 2) ?_ ?_
   ·
    refine dO 4 rfl (oS 2) ?_
    refine dO 5 rfl (oS 5) ?_
    refine dE ?_
    refine o9 10 rfl (K9 rfl) ?_
    refine o9 11 rfl (K9 rfl) ?_
    refine w7 Tryz.func16 (.tmp rfl (r8 2 (r8 5 .nil))) (⟨rs4,fs5,b11,hs12,e13,lv14,rv15,i223,h224⟩) ?_ ?_ (hL:=⟨rfl,trivial⟩)
    ·(try dsimp only) <;>(exact⟨by assumption,by assumption,by omega⟩)
    ·rfl
   ·
    refine dT 2 rfl (pC 5) ?_
    refine dO 5 rfl (oS 5) ?_
    refine dE ?_
    refine o9 10 rfl (K9 rfl) ?_
    refine o9 11 rfl (K9 rfl) ?_
    refine w7 Tryz.func16 (.tmp rfl (r8 2 (r8 5 .nil))) (⟨rs4,fs5,b11,hs12,e13,lv14,rv15,i223,h224⟩) ?_ ?_ (hL:=⟨rfl,trivial⟩)
    ·(try dsimp only) <;>(exact⟨by assumption,by assumption,by omega⟩)
    ·rfl
theorem X6 (a0 a1 a2:Int):Pu Tryz.prog 71 [.c (.t none (.v (.int .i64 a0))),.c (.t none (.v (.int .i64 a1))),.c (.t none (.v (.int .i64 a2)))] [] 0 (.c (.t none (.v (.bool (decide (a1≤a0∧a0≤a2)))))):=by
 refine u6 Tryz.func71 fun w S=>?_
 refine w9<|rA<|o7 ?_
 refine rM ?_
 refine rM ?_
 refine rB ?_
 refine rM ?_
 refine x9 (fun g1=>?_) (fun g1=>?_)
 ·
  have g1':=j8 g1
  refine rM ?_
  refine x9 (fun _=>?_) (nc g1)
  refine rM ?_
  refine x9 (fun _=>?_) (nc g1)
  refine rB ?_
  refine d9 (M9 rfl rfl g1 rfl) ?_
  refine rA<|c9 ?_
  refine tk Tryz.func71 (.tmp rfl .nil) ?_
  all_goals(simp_all <;> omega)
 ·
  have g1':=l8 g1
  refine x9 (C9 g1) (fun _=>?_)
  refine x9 (C9 g1) (fun _=>?_)
  refine d9 (H9 rfl rfl g1 rfl) ?_
  refine rA<|c9 ?_
  refine tk Tryz.func71 (.tmp rfl .nil) ?_
  all_goals(simp_all <;> omega)
theorem YZ (n:List UInt8)(a:Int)(s:Bool):Pu Tryz.prog 145 [.agg [.t none (.v (.string (JY n))),.t none (.v (.int .i64 a)),.t none (.v (.bool s))]] [] 0 (.c (.t none (.v (.bool (I1 (n,a,s)))))):=by
 refine u6 Tryz.func145 fun w S=>?_
 refine w9 ?_
 refine d9 (X9 0 rfl rfl rfl rfl) ?_
 refine rA<|o7 ?_
 refine rF 0 ?_
 refine rL ?_
 refine d9 (DK rfl Tryz.underlying9 rfl) ?_
 refine rB ?_
 refine rM ?_
 refine x9 (fun g1=>?_) (fun g1=>?_)
 ·
  have g1':=j8 g1
  refine rF 0 ?_
  refine x9 (fun _=>?_) (nc g1)
  refine rL ?_
  refine x9 (fun _=>?_) (nc g1)
  obtain⟨z2,hz3,b4⟩:=t9 (xs:=n) (n:=0) (by omega) (by omega)
  refine d9 (mQ rfl Tryz.underlying9 rfl rfl b4 hz3) ?_
  refine x9 (fun _=>?_) (nc g1)
  refine rB ?_
  refine d9 (M9 rfl rfl g1 rfl) ?_
  refine rM ?_
  refine x9 (fun g5=>?_) (fun g5=>?_)
  ·
   have g5':=j8 g5
   refine rF 0 ?_
   refine x9 (fun _=>?_) (nc g5)
   refine rL ?_
   refine x9 (fun _=>?_) (nc g5)
   refine d9 (mQ rfl Tryz.underlying9 rfl rfl b4 hz3) ?_
   refine x9 (fun _=>?_) (nc g5)
   refine rB ?_
   refine d9 (M9 rfl rfl g5 rfl) ?_
   refine rM ?_
   refine x9 (fun g6=>?_) (fun g6=>?_)
   ·
    have g6':=j8 g6
    refine rF 1 ?_
    refine x9 (fun _=>?_) (nc g6)
    refine rL ?_
    refine x9 (fun _=>?_) (nc g6)
    refine d9 (n9 1 1 false (N9 Tryz.func71) (X6 a 1 3) rfl (.cons rfl (.c .t0) (.cons rfl (.c .t0) (.cons rfl (.c .t0) .nil))) rfl rfl rfl) ?_
    refine d9 (M9 rfl rfl g6 rfl) ?_
    refine rA<|c9 ?_
    refine tk Tryz.func145 (.tmp rfl .nil) ?_
    all_goals(refine N7 ?_;(obtain⟨c,rfl⟩:=OW (by assumption);simp at *;subst_vars;simp [I1,OY];omega))
   ·
    have g6':=l8 g6
    refine x9 (C9 g6) (fun _=>?_)
    refine x9 (C9 g6) (fun _=>?_)
    refine d9 (H9 rfl rfl g6 rfl) ?_
    refine rA<|c9 ?_
    refine tk Tryz.func145 (.tmp rfl .nil) ?_
    all_goals(refine N7 ?_;(obtain⟨c,rfl⟩:=OW (by assumption);simp at *;subst_vars;simp [I1,OY];omega))
  ·
   have g5':=l8 g5
   refine x9 (C9 g5) (fun _=>?_)
   refine x9 (C9 g5) (fun _=>?_)
   refine x9 (C9 g5) (fun _=>?_)
   refine d9 (H9 rfl rfl g5 rfl) ?_
   refine rM ?_
   refine x9 (C9 rfl) (fun _=>?_)
   refine x9 (C9 rfl) (fun _=>?_)
   refine x9 (C9 rfl) (fun _=>?_)
   refine d9 (H9 rfl rfl rfl rfl) ?_
   refine rA<|c9 ?_
   refine tk Tryz.func145 (.tmp rfl .nil) ?_
   all_goals(refine N7 ?_;(obtain⟨c,rfl⟩:=OW (by assumption);simp at *;subst_vars;simp [I1,OY];omega))
 ·
  have g1':=l8 g1
  refine x9 (C9 g1) (fun _=>?_)
  refine x9 (C9 g1) (fun _=>?_)
  refine x9 (C9 g1) (fun _=>?_)
  refine d9 (H9 rfl rfl g1 rfl) ?_
  refine rM ?_
  refine x9 (C9 rfl) (fun _=>?_)
  refine x9 (C9 rfl) (fun _=>?_)
  refine x9 (C9 rfl) (fun _=>?_)
  refine x9 (C9 rfl) (fun _=>?_)
  refine d9 (H9 rfl rfl rfl rfl) ?_
  refine rM ?_
  refine x9 (C9 rfl) (fun _=>?_)
  refine x9 (C9 rfl) (fun _=>?_)
  refine x9 (C9 rfl) (fun _=>?_)
  refine d9 (H9 rfl rfl rfl rfl) ?_
  refine rA<|c9 ?_
  refine tk Tryz.func145 (.tmp rfl .nil) ?_
  all_goals(refine N7 ?_;(have e:=mT (by assumption);simp [I1,e];done))
theorem l5 (l:List (List UInt8 × Int × Bool))(hl:l.length≤4611686018427387904):Pu Tryz.prog 116 [.c (.t none (.sl 3 (d8 Z9 f9 a8) l))] [] 0 (.c (.t none (.v (.bool (S5 l))))):=by
 refine u6 Tryz.func116 fun w S=>?_
 refine w9<|rA<|c9<|k9<|w9 ?_
 refine rA<|c9<|r9 ?_
 refine L9 (fun m=>⟨[(0,some (.c (.t none (.sl 3 (d8 Z9 f9 a8) l)))),(3,some (.c (.t none (.v (.int .i64 ((m:Int)))))))],[],0⟩:Nat→St) (fun m=>m≤l.length∧∀j,j < m→R3 l j=true) (fun m=>l.length - m) 0 ⟨⟨rfl,⟨rfl,trivial⟩⟩,trivial,rfl⟩ (by exact⟨Nat.zero_le _,fun j h=>by omega⟩) ?_
 rintro m hI ih0
 try dsimp only at hI ih0
 obtain⟨i1,i2⟩:=hI
 refine k9<|w9<|rM ?_
 refine rM ?_
 refine d9 (S9 rfl rfl rfl) ?_
 refine rB<|c9 ?_
 refine j9 rfl (fun h1=>?_) (fun h1=>?_)
 ·
  have h1':=j8 h1
  refine m9<|k9<|r9<|k9 ?_
  refine tY ?_
  refine dT 0 rfl pM ?_
  refine dT 1 rfl pM ?_
  obtain⟨z2,hz3,b4⟩:=t9 (xs:=l) (n:=(m:Int)) (by omega) (by omega)
  refine dT 2 rfl (w8 (by kernel_rfl) rfl rfl b4 hz3) ?_
  refine dT 3 rfl (p6 (n:=3) (by kernel_rfl) (by kernel_rfl) rfl rfl) ?_
  refine dO 4 rfl (n9 0 0 false (N9 Tryz.func145) (YZ z2.1 z2.2.1 z2.2.2) rfl (.cons rfl (.agg (.cons .t0 (.cons .t0 (.cons .t0 .nil)))) .nil) rfl rfl rfl) ?_
  refine dT 5 rfl (T3 rfl) ?_
  refine dT 6 rfl pM ?_
  refine dH 7 rfl (fun _=>pM) (fun g5=>?_) (fun g5=>?_)
  ·
   have g5':=(O4 g5)
   refine dH 8 rfl (fun _=>pB) (fun _=>?_) (C9 g5)
   refine dH 9 rfl (fun _=>pM) (fun _=>?_) (C9 g5)
   refine dH 10 rfl (fun _=>pM) (fun g6=>?_) (fun g6=>?_)
   ·
    have g6':=j8 g6
    refine dH 11 rfl (fun _=>pM) (fun _=>?_) (nc g6)
    refine dH 12 rfl (fun _=>pB) (fun _=>?_) (nc g6)
    obtain⟨z7,hz8,b9⟩:=t9 (xs:=l) (n:=IntKind.i64.wrap ((m:Int) - 1)) (by(simp only [IntKind.wrap_i64];omega)) (by(simp only [IntKind.wrap_i64];omega))
    refine dH 13 rfl (fun _=>w8 (by kernel_rfl) rfl rfl b9 hz8) (fun _=>?_) (nc g6)
    refine dH 14 rfl (fun _=>N2 (off:=0) (by kernel_rfl) rfl) (fun _=>?_) (nc g6)
    refine dH 15 rfl (fun _=>t7 (by kernel_rfl) rfl rfl) (fun _=>?_) (nc g6)
    refine dH 16 rfl (fun _=>pM) (fun _=>?_) (nc g6)
    refine dH 17 rfl (fun _=>pM) (fun _=>?_) (nc g6)
    refine dH 18 rfl (fun _=>w8 (by kernel_rfl) rfl rfl b4 hz3) (fun _=>?_) (nc g6)
    refine dH 19 rfl (fun _=>N2 (off:=0) (by kernel_rfl) rfl) (fun _=>?_) (nc g6)
    refine dH 20 rfl (fun _=>t7 (by kernel_rfl) rfl rfl) (fun _=>?_) (nc g6)
    refine dH 21 rfl (fun _=>bK rfl rfl rfl) (fun _=>?_) (nc g6)
    refine dH 22 rfl (fun _=>H8 rfl g6 rfl) (fun _=>?_) (C9 g5)
    refine dT 23 rfl (o8 rfl g5 rfl) ?_
    refine dE ?_
    refine j9 rfl (fun h10=>?_) (fun h10=>?_)
    ·
     have h10':=(P4 h10)
     refine w9<|rA<|c9 ?_
     refine tk Tryz.func116 (.tmp rfl .nil) ?_ <;>(try clear ih0)
     all_goals(rw [QZ (m:=m) (by omega) (cZ (n:=(IntKind.i64.wrap ((m:Int) - 1)).toNat) (by assumption) (by assumption) (by omega) (by simp only [IntKind.wrap_i64];omega) (by assumption) (by assumption))])
    ·
     have h10':=(O4 h10)
     refine m9<|i9<|l9<|rM ?_
     refine rB ?_
     refine rA<|c9 ?_
     refine n8 ?_ (ih0 (m + 1) (by(try dsimp only);omega) (by(try dsimp only);exact⟨by omega,d6 i2 (cZ (n:=(IntKind.i64.wrap ((m:Int) - 1)).toNat) (by assumption) (by assumption) (by omega) (by simp only [IntKind.wrap_i64];omega) (by assumption) (by assumption))⟩))
     exact⟨⟨rfl,⟨(i6 (s8 (by omega) (by omega))),trivial⟩⟩,trivial,rfl⟩
   ·
    have g6':=l8 g6
    refine dG 11 (C9 g6) (fun _=>?_)
    refine dG 12 (C9 g6) (fun _=>?_)
    refine dG 13 (C9 g6) (fun _=>?_)
    refine dG 14 (C9 g6) (fun _=>?_)
    refine dG 15 (C9 g6) (fun _=>?_)
    refine dG 16 (C9 g6) (fun _=>?_)
    refine dG 17 (C9 g6) (fun _=>?_)
    refine dG 18 (C9 g6) (fun _=>?_)
    refine dG 19 (C9 g6) (fun _=>?_)
    refine dG 20 (C9 g6) (fun _=>?_)
    refine dG 21 (C9 g6) (fun _=>?_)
    refine dH 22 rfl (fun _=>o8 rfl g6 rfl) (fun _=>?_) (C9 g5)
    refine dT 23 rfl (o8 rfl g5 rfl) ?_
    refine dE ?_
    refine j9 rfl (C9 rfl) (fun _=>?_)
    refine m9<|i9<|l9<|rM ?_
    refine rB ?_
    refine rA<|c9 ?_
    refine n8 ?_ (ih0 (m + 1) (by(try dsimp only);omega) (by(try dsimp only);exact⟨by omega,d6 i2 (zW (by assumption) (by assumption) (by omega))⟩))
    exact⟨⟨rfl,⟨(i6 (s8 (by omega) (by omega))),trivial⟩⟩,trivial,rfl⟩
  ·
   have g5':=(P4 g5)
   refine dG 8 (nc g5) (fun _=>?_)
   refine dG 9 (nc g5) (fun _=>?_)
   refine dK 10 ?_
   refine dK 11 ?_
   refine dK 12 ?_
   refine dK 13 ?_
   refine dK 14 ?_
   refine dK 15 ?_
   refine dK 16 ?_
   refine dK 17 ?_
   refine dK 18 ?_
   refine dK 19 ?_
   refine dK 20 ?_
   refine dK 21 ?_
   refine dG 22 (nc g5) (fun _=>?_)
   refine dT 23 rfl (H8 rfl g5 rfl) ?_
   refine dE ?_
   refine j9 rfl (fun _=>?_) (nc rfl)
   refine w9<|rA<|c9 ?_
   refine tk Tryz.func116 (.tmp rfl .nil) ?_ <;>(try clear ih0)
   all_goals(rw [QZ (m:=m) (by omega) (wV (by assumption) (by assumption))])
 ·
  have h1':=l8 h1
  refine R9 rfl<|w9<|rM ?_
  refine d9 (S9 rfl rfl rfl) ?_
  refine rB ?_
  refine rA<|c9 ?_
  refine tk Tryz.func116 (.tmp rfl .nil) ?_ <;>(try clear ih0)
  all_goals(rw [FU (m:=m) i2 (by omega)];exact rG (by omega))
theorem Y4 (rs:List (List UInt8 × Int × Bool))(r:Int)(ts:List Int)(hrs:rs.length≤4611686018427387904)(hts:ts.length≤4611686018427387904):Pu Tryz.prog 107 [.c (.t none (.sl 3 (d8 Z9 f9 a8) rs)),.agg [.t none (.v (.int .i64 r)),.t none (.sl 1 f9 ts)]] [] 0 (.c (.t none (.v (.bool (F5 rs r ts))))):=by
 refine u6 Tryz.func107 fun w S=>?_
 refine w9 ?_
 refine d9 (X9 0 rfl rfl rfl rfl) ?_
 refine rA<|c9<|k9<|k9 ?_
 refine tY ?_
 refine dT 0 rfl pM ?_
 refine dO 1 rfl (n9 1 1 false (N9 Tryz.func116) (l5 rs (by omega)) rfl (.cons rfl (.c .t0) .nil) rfl rfl rfl) ?_
 refine dT 2 rfl (T3 rfl) ?_
 refine dT 3 rfl pM ?_
 refine dH 4 rfl (fun _=>pF 0) (fun g1=>?_) (fun g1=>?_)
 ·
  have g1':=(O4 g1)
  refine dH 5 rfl (fun _=>pL) (fun _=>?_) (C9 g1)
  refine dH 6 rfl (fun _=>pM) (fun _=>?_) (C9 g1)
  refine dH 7 rfl (fun _=>BZ rfl rfl) (fun _=>?_) (C9 g1)
  refine dH 8 rfl (fun _=>pB) (fun _=>?_) (C9 g1)
  refine s6 9 rfl rfl (by kernel_rfl) rfl rfl rfl (fun _=>(n9 1 1 false (N9 Tryz.func71) (X6 r 0 (IntKind.i64.wrap ((rs.length:Int) - 1))) rfl (.cons rfl (.c .t0) (.cons rfl (.c .t0) (.cons rfl (.c .t0) .nil))) rfl rfl rfl)) (fun _=>?_) (C9 g1)
  refine dH 10 rfl (fun _=>T3 rfl) (fun _=>?_) (C9 g1)
  refine dT 11 rfl (o8 rfl g1 rfl) ?_
  refine dT 12 rfl pM ?_
  refine dH 13 rfl (fun _=>pF 1) (fun g2=>?_) (fun g2=>?_)
  ·
   have g2':=j8 (O4 g2)
   refine dH 14 rfl (fun _=>pL) (fun _=>?_) (C9 g2)
   refine dH 15 rfl (fun _=>BZ rfl rfl) (fun _=>?_) (C9 g2)
   refine dH 16 rfl (fun _=>pM) (fun _=>?_) (C9 g2)
   refine dH 17 rfl (fun _=>pF 0) (fun _=>?_) (C9 g2)
   refine dH 18 rfl (fun _=>pL) (fun _=>?_) (C9 g2)
   obtain⟨z3,hz4,b5⟩:=t9 (xs:=rs) (n:=r) (by omega) (by(simp only [IntKind.wrap_i64] at *;omega))
   refine dH 19 rfl (fun _=>w8 (by kernel_rfl) rfl rfl b5 hz4) (fun _=>?_) (C9 g2)
   refine dH 20 rfl (fun _=>N2 (off:=1) (by kernel_rfl) rfl) (fun _=>?_) (C9 g2)
   refine dH 21 rfl (fun _=>t7 (by kernel_rfl) rfl rfl) (fun _=>?_) (C9 g2)
   refine dH 22 rfl (fun _=>pB) (fun _=>?_) (C9 g2)
   refine dT 23 rfl (o8 rfl g2 rfl) ?_
   refine dE ?_
   refine j9 rfl (fun h6=>?_) (fun h6=>?_)
   ·
    have h6':=j8 h6
    refine w9<|rA<|c9 ?_
    refine tk Tryz.func107 (.tmp rfl .nil) ?_ <;>(try clear ih0)
    all_goals(refine N7 ?_;(rw [hP (by assumption) (by assumption)];done))
   ·
    have h6':=l8 h6
    refine m9<|k9<|w9<|rA<|c9<|r9 ?_
    refine L9 (fun m=>⟨[(3,some (.c (.ptr 0 0))),(5,some (.c (.t none (.v (.int .i64 ((m:Int)))))))],[(0,some (.box [.t none (.v (.int .i64 r)),.t none (.sl 1 f9 ts)]))],1⟩:Nat→St) (fun m=>m≤ts.length∧∀j z,j < m→ts[j]? =some z→(fun t=>!X4 t) z=false) (fun m=>ts.length - m) 0 ⟨⟨rfl,⟨rfl,trivial⟩⟩,⟨rfl,trivial⟩,rfl⟩ (by exact⟨Nat.zero_le _,fun j z h=>by omega⟩) ?_
    rintro m hI ih0
    try dsimp only at hI ih0
    obtain⟨i1,i2⟩:=hI
    refine k9<|w9<|rM ?_
    refine rF 1 ?_
    refine rL ?_
    refine d9 (S9 rfl rfl rfl) ?_
    refine rB<|c9 ?_
    refine j9 rfl (fun h7=>?_) (fun h7=>?_)
    ·
     have h7':=j8 h7
     refine m9<|k9<|r9<|w9<|rF 1 ?_
     refine rL ?_
     refine rM ?_
     obtain⟨z8,hz9,b10⟩:=t9 (xs:=ts) (n:=(m:Int)) (by omega) (by omega)
     refine d9 (P9 rfl (by kernel_rfl) rfl rfl b10 hz9) ?_
     refine d9 (c8 rfl (by kernel_rfl) rfl rfl) ?_
     refine d9 (n9 1 1 false (N9 Tryz.func71) (X6 z8 (-10) 4) rfl (.cons rfl (.c .t0) (.cons rfl (.c .t0) (.cons rfl (.c .t0) .nil))) rfl rfl rfl) ?_
     refine d9 (Q8 rfl rfl) ?_
     refine c9 ?_
     refine j9 rfl (fun h11=>?_) (fun h11=>?_)
     ·
      have h11':=l8 (P4 h11)
      refine w9<|rA<|c9 ?_
      refine tk Tryz.func107 (.tmp rfl .nil) ?_ <;>(try clear ih0)
      all_goals(refine N7 ?_;(rw [xU (by assumption) (by simp only [IntKind.wrap_i64] at *;omega) (by assumption) (by omega),y8 (p:=fun t=>!X4 t) (by assumption) (by simp only [X4,Bool.not_eq_true'];exact decide_eq_false (by assumption))];rfl))
     ·
      have h11':=j8 (O4 h11)
      refine m9<|i9<|l9<|rM ?_
      refine rB ?_
      refine rA<|c9 ?_
      refine n8 ?_ (ih0 (m + 1) (by(try dsimp only);omega) (by(try dsimp only);exact⟨by omega,W4 i2 (by assumption) rfl (by simp only [X4,Bool.not_eq_false'];exact decide_eq_true (by assumption))⟩))
      exact⟨⟨rfl,⟨(i6 (s8 (by omega) (by omega))),trivial⟩⟩,⟨rfl,trivial⟩,rfl⟩
    ·
     have h7':=l8 h7
     refine R9 rfl<|w9<|rA<|c9 ?_
     refine tk Tryz.func107 (.tmp rfl .nil) ?_ <;>(try clear ih0)
     all_goals(refine N7 ?_;(rw [xU (by assumption) (by simp only [IntKind.wrap_i64] at *;omega) (by assumption) (by omega),A3 (p:=fun t=>!X4 t) i2 (by omega)];rfl))
  ·
   have g2':=l8 (P4 g2)
   refine dG 14 (nc g2) (fun _=>?_)
   refine dG 15 (nc g2) (fun _=>?_)
   refine dG 16 (nc g2) (fun _=>?_)
   refine dG 17 (nc g2) (fun _=>?_)
   refine dG 18 (nc g2) (fun _=>?_)
   refine dG 19 (nc g2) (fun _=>?_)
   refine dG 20 (nc g2) (fun _=>?_)
   refine dG 21 (nc g2) (fun _=>?_)
   refine dG 22 (nc g2) (fun _=>?_)
   refine dT 23 rfl (H8 rfl g2 rfl) ?_
   refine dE ?_
   refine j9 rfl (fun _=>?_) (nc rfl)
   refine w9<|rA<|c9 ?_
   refine tk Tryz.func107 (.tmp rfl .nil) ?_ <;>(try clear ih0)
   all_goals(refine N7 ?_;(rw [FQ (by simp only [IntKind.wrap_i64] at *;omega)];done))
 ·
  have g1':=(P4 g1)
  refine dG 5 (nc g1) (fun _=>?_)
  refine dG 6 (nc g1) (fun _=>?_)
  refine dG 7 (nc g1) (fun _=>?_)
  refine dG 8 (nc g1) (fun _=>?_)
  refine dG 9 (nc g1) (fun _=>?_)
  refine dG 10 (nc g1) (fun _=>?_)
  refine dT 11 rfl (H8 rfl g1 rfl) ?_
  refine dT 12 rfl pM ?_
  refine dG 13 (nc rfl) (fun _=>?_)
  refine dG 14 (nc rfl) (fun _=>?_)
  refine dG 15 (nc rfl) (fun _=>?_)
  refine dG 16 (nc rfl) (fun _=>?_)
  refine dG 17 (nc rfl) (fun _=>?_)
  refine dG 18 (nc rfl) (fun _=>?_)
  refine dG 19 (nc rfl) (fun _=>?_)
  refine dG 20 (nc rfl) (fun _=>?_)
  refine dG 21 (nc rfl) (fun _=>?_)
  refine dG 22 (nc rfl) (fun _=>?_)
  refine dT 23 rfl (H8 rfl rfl rfl) ?_
  refine dE ?_
  refine j9 rfl (fun _=>?_) (nc rfl)
  refine w9<|rA<|c9 ?_
  refine tk Tryz.func107 (.tmp rfl .nil) ?_ <;>(try clear ih0)
  all_goals(refine N7 ?_;(rw [IQ (by assumption)];done))
theorem N1 (l:List Int)(v:Int)(hl:l.length≤4611686018427387904):Pu Tryz.prog 76 [.c (.t none (.sl 1 f9 l)),.c (.t none (.v (.int .i64 v)))] [] 0 (.c (.t none (.v (.bool (kZ l v))))):=by
 refine u6 Tryz.func76 fun w S=>?_
 refine w9<|rA<|c9<|k9<|w9 ?_
 refine rA<|c9<|r9 ?_
 refine L9 (fun m=>⟨[(0,some (.c (.t none (.sl 1 f9 l)))),(1,some (.c (.t none (.v (.int .i64 v))))),(5,some (.c (.t none (.v (.int .i64 ((m:Int)))))))],[],0⟩:Nat→St) (fun m=>m≤l.length∧∀j z,j < m→l[j]? =some z→(fun y=>decide (y=v)) z=false) (fun m=>l.length - m) 0 ⟨⟨rfl,⟨rfl,⟨rfl,trivial⟩⟩⟩,trivial,rfl⟩ (by exact⟨Nat.zero_le _,fun j z h=>by omega⟩) ?_
 rintro m hI ih0
 try dsimp only at hI ih0
 obtain⟨i1,i2⟩:=hI
 refine k9<|w9<|rM ?_
 refine rM ?_
 refine d9 (S9 rfl rfl rfl) ?_
 refine rB<|c9 ?_
 refine j9 rfl (fun h1=>?_) (fun h1=>?_)
 ·
  have h1':=j8 h1
  refine m9<|k9<|r9<|w9<|rM ?_
  refine rM ?_
  obtain⟨z2,hz3,b4⟩:=t9 (xs:=l) (n:=(m:Int)) (by omega) (by omega)
  refine d9 (P9 rfl (by kernel_rfl) rfl rfl b4 hz3) ?_
  refine d9 (c8 rfl (by kernel_rfl) rfl rfl) ?_
  refine rM ?_
  refine rB<|c9 ?_
  refine j9 rfl (fun h5=>?_) (fun h5=>?_)
  ·
   have h5':=j8 h5
   refine w9<|rA<|c9 ?_
   refine tk Tryz.func76 (.tmp rfl .nil) ?_ <;>(try clear ih0)
   all_goals(refine N7 ?_;exact(y8 (p:=fun y=>decide (y=v)) (by assumption) (decide_eq_true (by omega))).symm)
  ·
   have h5':=l8 h5
   refine m9<|i9<|l9<|rM ?_
   refine rB ?_
   refine rA<|c9 ?_
   refine n8 ?_ (ih0 (m + 1) (by(try dsimp only);omega) (by(try dsimp only);exact⟨by omega,W4 i2 (by assumption) rfl (decide_eq_false (by omega))⟩))
   exact⟨⟨rfl,⟨rfl,⟨(i6 (s8 (by omega) (by omega))),trivial⟩⟩⟩,trivial,rfl⟩
 ·
  have h1':=l8 h1
  refine R9 rfl<|w9<|rA<|c9 ?_
  refine tk Tryz.func76 (.tmp rfl .nil) ?_ <;>(try clear ih0)
  all_goals(refine N7 ?_;exact(A3 (p:=fun y=>decide (y=v)) i2 (by omega)).symm)
theorem R4 (rs:V9)(a0:List (Int ×(List Int)))(a1:List (Int ×(List Int)))(a2:Bool)(a3:Int)(a4:Int)(hrs:rs.length≤4611686018427387904)(hs:l7 (fun(x:Int ×(List Int))=>x.2.length) a0 + l7 (fun(x:Int ×(List Int))=>x.2.length) a1≤1048576):Pu Tryz.prog 57 [.c (.t none (.sl 3 (d8 Z9 f9 a8) rs)),.agg [.t none (.sl 2 (E9 f9 (B9 1 f9)) a0),.t none (.sl 2 (E9 f9 (B9 1 f9)) a1),.t none (.v (.bool a2)),.t none (.v (.int .i64 a3)),.t none (.v (.int .i64 a4))]] [] 0 (.c (.t none (.v (.bool (D6 rs a0 a1 a2 a3 a4))))):=by
 refine u6 Tryz.func57 fun w S=>?_
 have g0:=L8 (f:=(fun(x:Int ×(List Int))=>x.2.length)) (l:=a0);have g1:=L8 (f:=(fun(x:Int ×(List Int))=>x.2.length)) (l:=a1);have v0:=F7 (F9 a0);have v1:=H7 a0
 refine w9 ?_
 refine d9 (X9 0 rfl rfl rfl rfl) ?_
 refine rA<|c9<|k9<|w9 ?_
 refine rF 0 ?_
 refine rL ?_
 refine d9 (S9 rfl rfl rfl) ?_
 refine d9 (n9 1 1 false (N9 Tryz.func71) (X6 ((a0.length:Int)) 1 2) rfl (.cons rfl (.c .t0) (.cons rfl (.c .t0) (.cons rfl (.c .t0) .nil))) rfl rfl rfl) ?_
 refine d9 (Q8 rfl rfl) ?_
 refine c9 ?_
 refine j9 rfl (fun h1=>?_) (fun h1=>?_)
 ·
  have h1':=l8 (P4 h1)
  refine w9<|rA<|c9 ?_
  refine tk Tryz.func57 (.tmp rfl .nil) ?_ <;>(try clear ih0) <;>(try clear ih1)
  all_goals(refine N7 ?_;(try(have qA:=iA (by omega)));(try(have qK:=kA (by omega)));(try(have qB:=y8 (p:=G7 rs) (l:=a0) (m:=m) (by assumption) (by unfold G7;grind)));(try(have qC:=y8 (p:=G7 rs) (l:=a1) (m:=n) (by assumption) (by unfold G7;grind)));(try(have qS:=B8 (rs:=rs) (r:=(by assumption).1) (ts:=(by assumption).2) (by assumption);have qD:=y8 (p:=I2 rs) (l:=a1) (m:=n) (by assumption) (by grind)));clear hs g0 g1 v0 v1;unfold D6 I7;grind)
 ·
  have h1':=j8 (O4 h1)
  refine m9<|k9<|w9<|rA<|c9<|r9 ?_
  refine L9 (fun m=>⟨[(0,some (.c (.t none (.sl 3 (d8 Z9 f9 a8) rs)))),(3,some (.c (.ptr 0 0))),(5,some (.c (.t none (.v (.int .i64 ((m:Int)))))))],[(0,some (.box [.t none (.sl 2 (E9 f9 (B9 1 f9)) a0),.t none (.sl 2 (E9 f9 (B9 1 f9)) a1),.t none (.v (.bool a2)),.t none (.v (.int .i64 a3)),.t none (.v (.int .i64 a4))]))],1⟩:Nat→St) (fun m=>m≤a0.length∧∀j z,j < m→a0[j]? =some z→G7 rs z=false) (fun m=>a0.length - m) 0 ⟨⟨rfl,⟨rfl,⟨rfl,trivial⟩⟩⟩,⟨rfl,trivial⟩,rfl⟩ (by exact⟨Nat.zero_le _,fun j z h=>by omega⟩) ?_
  rintro m hI ih0
  try dsimp only at hI ih0
  obtain⟨i1,i2⟩:=hI;have iA:a0.length≤m→a0.any (G7 rs)=false:=fun e=>A3 i2 e
  refine k9<|w9<|rM ?_
  refine rF 0 ?_
  refine rL ?_
  refine d9 (S9 rfl rfl rfl) ?_
  refine rB<|c9 ?_
  refine j9 rfl (fun h2=>?_) (fun h2=>?_)
  ·
   have h2':=j8 h2
   refine m9<|k9<|r9<|w9<|rM ?_
   refine rF 0 ?_
   refine rL ?_
   refine rM ?_
   obtain⟨z3,hz4,b5⟩:=t9 (xs:=a0) (n:=(m:Int)) (by omega) (by omega)
   refine d9 (P9 rfl (by kernel_rfl) rfl rfl b5 hz4) ?_
   refine d9 (A6 rfl (n:=2) (by kernel_rfl) (by kernel_rfl) rfl rfl) ?_
   refine d9 (n9 1 1 false (N9 Tryz.func107) (Y4 rs z3.1 z3.2 (by omega) (by(have e1:=j6 (f:=(fun(x:Int ×(List Int))=>x.2.length)) (l:=a0) (m:=m) (by assumption);(try dsimp only at e1);omega))) rfl (.cons rfl (.c .t0) (.cons rfl (.agg (.cons .t0 (.cons .t0 .nil))) .nil)) rfl rfl rfl) ?_
   refine d9 (Q8 rfl rfl) ?_
   refine c9 ?_
   refine j9 rfl (fun h6=>?_) (fun h6=>?_)
   ·
    have h6':=(P4 h6)
    refine w9<|rA<|c9 ?_
    refine tk Tryz.func57 (.tmp rfl .nil) ?_ <;>(try clear ih0) <;>(try clear ih1)
    all_goals(refine N7 ?_;(try(have qA:=iA (by omega)));(try(have qK:=kA (by omega)));(try(have qB:=y8 (p:=G7 rs) (l:=a0) (m:=m) hz4 (by unfold G7;grind)));(try(have qC:=y8 (p:=G7 rs) (l:=a1) (m:=n) hz4 (by unfold G7;grind)));(try(have qS:=B8 (rs:=rs) (r:=z3.1) (ts:=z3.2) (by assumption);have qD:=y8 (p:=I2 rs) (l:=a1) (m:=n) hz4 (by grind)));clear hs g0 g1 v0 v1;unfold D6 I7;grind)
   ·
    have h6':=(O4 h6)
    refine m9<|i9<|l9<|rM ?_
    refine rB ?_
    refine rA<|c9 ?_
    refine n8 ?_ (ih0 (m + 1) (by(try dsimp only);omega) (by(try dsimp only);exact⟨by omega,W4 i2 (by assumption) rfl (by unfold G7;grind)⟩))
    exact⟨⟨rfl,⟨rfl,⟨(i6 (s8 (by omega) (by omega))),trivial⟩⟩⟩,⟨rfl,trivial⟩,rfl⟩
  ·
   have h2':=l8 h2
   refine R9 rfl<|k9<|w9<|rF 2 ?_
   refine rL<|c9 ?_
   refine j9 rfl (fun h7=>?_) (fun h7=>?_)
   ·
    have h7':=h7
    refine w9<|rF 0 ?_
    refine rL ?_
    refine d9 (n9 1 2 false (N9 Tryz.func75) (K5 a0 (by omega)) rfl (.cons rfl (.c .t0) .nil) rfl rfl rfl) ?_
    refine rA<|o7 ?_
    refine rF 1 ?_
    refine rL ?_
    refine d9 (S9 rfl rfl rfl) ?_
    refine rB ?_
    refine rM ?_
    refine x9 (fun g8=>?_) (fun g8=>?_)
    ·
     have g8':=j8 g8
     refine rM ?_
     refine x9 (fun _=>?_) (nc g8)
     refine rF 3 ?_
     refine x9 (fun _=>?_) (nc g8)
     refine rL ?_
     refine x9 (fun _=>?_) (nc g8)
     refine d9 (n9 2 2 false (N9 Tryz.func76) (N1 (G9 (F9 a0)) a3 (by omega)) rfl (.cons rfl (.c (.own rfl)) (.cons rfl (.c .t0) .nil)) rfl rfl rfl) ?_
     refine d9 (M9 rfl rfl g8 rfl) ?_
     refine rM ?_
     refine x9 (fun g9=>?_) (fun g9=>?_)
     ·
      have g9':=g9
      refine rM ?_
      refine x9 (fun _=>?_) (nc g9)
      refine rF 4 ?_
      refine x9 (fun _=>?_) (nc g9)
      refine rL ?_
      refine x9 (fun _=>?_) (nc g9)
      refine d9 (n9 2 2 false (N9 Tryz.func76) (N1 (G9 (F9 a0)) a4 (by omega)) rfl (.cons rfl (.c (.own rfl)) (.cons rfl (.c .t0) .nil)) rfl rfl rfl) ?_
      refine d9 (M9 rfl rfl g9 rfl) ?_
      refine rM ?_
      refine x9 (fun g10=>?_) (fun g10=>?_)
      ·
       have g10':=g10
       refine rF 3 ?_
       refine x9 (fun _=>?_) (nc g10)
       refine rL ?_
       refine x9 (fun _=>?_) (nc g10)
       refine rF 4 ?_
       refine x9 (fun _=>?_) (nc g10)
       refine rL ?_
       refine x9 (fun _=>?_) (nc g10)
       refine rB ?_
       refine d9 (M9 rfl rfl g10 rfl) ?_
       refine rA<|c9 ?_
       refine tk Tryz.func57 (.tmp rfl .nil) ?_ <;>(try clear ih0) <;>(try clear ih1)
       all_goals(refine N7 ?_;(try(have qA:=iA (by omega)));(try(have qK:=kA (by omega)));(try(have qB:=y8 (p:=G7 rs) (l:=a0) (m:=m) (by assumption) (by unfold G7;grind)));(try(have qC:=y8 (p:=G7 rs) (l:=a1) (m:=n) (by assumption) (by unfold G7;grind)));(try(have qS:=B8 (rs:=rs) (r:=(by assumption).1) (ts:=(by assumption).2) (by assumption);have qD:=y8 (p:=I2 rs) (l:=a1) (m:=n) (by assumption) (by grind)));clear hs g0 g1 v0 v1;unfold D6 I7;grind)
      ·
       have g10':=g10
       refine x9 (C9 g10) (fun _=>?_)
       refine x9 (C9 g10) (fun _=>?_)
       refine x9 (C9 g10) (fun _=>?_)
       refine x9 (C9 g10) (fun _=>?_)
       refine d9 (H9 rfl rfl g10 rfl) ?_
       refine rA<|c9 ?_
       refine tk Tryz.func57 (.tmp rfl .nil) ?_ <;>(try clear ih0) <;>(try clear ih1)
       all_goals(refine N7 ?_;(try(have qA:=iA (by omega)));(try(have qK:=kA (by omega)));(try(have qB:=y8 (p:=G7 rs) (l:=a0) (m:=m) (by assumption) (by unfold G7;grind)));(try(have qC:=y8 (p:=G7 rs) (l:=a1) (m:=n) (by assumption) (by unfold G7;grind)));(try(have qS:=B8 (rs:=rs) (r:=(by assumption).1) (ts:=(by assumption).2) (by assumption);have qD:=y8 (p:=I2 rs) (l:=a1) (m:=n) (by assumption) (by grind)));clear hs g0 g1 v0 v1;unfold D6 I7;grind)
     ·
      have g9':=g9
      refine x9 (C9 g9) (fun _=>?_)
      refine x9 (C9 g9) (fun _=>?_)
      refine x9 (C9 g9) (fun _=>?_)
      refine d9 (H9 rfl rfl g9 rfl) ?_
      refine rM ?_
      refine x9 (C9 rfl) (fun _=>?_)
      refine x9 (C9 rfl) (fun _=>?_)
      refine x9 (C9 rfl) (fun _=>?_)
      refine x9 (C9 rfl) (fun _=>?_)
      refine x9 (C9 rfl) (fun _=>?_)
      refine d9 (H9 rfl rfl rfl rfl) ?_
      refine rA<|c9 ?_
      refine tk Tryz.func57 (.tmp rfl .nil) ?_ <;>(try clear ih0) <;>(try clear ih1)
      all_goals(refine N7 ?_;(try(have qA:=iA (by omega)));(try(have qK:=kA (by omega)));(try(have qB:=y8 (p:=G7 rs) (l:=a0) (m:=m) (by assumption) (by unfold G7;grind)));(try(have qC:=y8 (p:=G7 rs) (l:=a1) (m:=n) (by assumption) (by unfold G7;grind)));(try(have qS:=B8 (rs:=rs) (r:=(by assumption).1) (ts:=(by assumption).2) (by assumption);have qD:=y8 (p:=I2 rs) (l:=a1) (m:=n) (by assumption) (by grind)));clear hs g0 g1 v0 v1;unfold D6 I7;grind)
    ·
     have g8':=l8 g8
     refine x9 (C9 g8) (fun _=>?_)
     refine x9 (C9 g8) (fun _=>?_)
     refine x9 (C9 g8) (fun _=>?_)
     refine d9 (H9 rfl rfl g8 rfl) ?_
     refine rM ?_
     refine x9 (C9 rfl) (fun _=>?_)
     refine x9 (C9 rfl) (fun _=>?_)
     refine x9 (C9 rfl) (fun _=>?_)
     refine x9 (C9 rfl) (fun _=>?_)
     refine d9 (H9 rfl rfl rfl rfl) ?_
     refine rM ?_
     refine x9 (C9 rfl) (fun _=>?_)
     refine x9 (C9 rfl) (fun _=>?_)
     refine x9 (C9 rfl) (fun _=>?_)
     refine x9 (C9 rfl) (fun _=>?_)
     refine x9 (C9 rfl) (fun _=>?_)
     refine d9 (H9 rfl rfl rfl rfl) ?_
     refine rA<|c9 ?_
     refine tk Tryz.func57 (.tmp rfl .nil) ?_ <;>(try clear ih0) <;>(try clear ih1)
     all_goals(refine N7 ?_;(try(have qA:=iA (by omega)));(try(have qK:=kA (by omega)));(try(have qB:=y8 (p:=G7 rs) (l:=a0) (m:=m) (by assumption) (by unfold G7;grind)));(try(have qC:=y8 (p:=G7 rs) (l:=a1) (m:=n) (by assumption) (by unfold G7;grind)));(try(have qS:=B8 (rs:=rs) (r:=(by assumption).1) (ts:=(by assumption).2) (by assumption);have qD:=y8 (p:=I2 rs) (l:=a1) (m:=n) (by assumption) (by grind)));clear hs g0 g1 v0 v1;unfold D6 I7;grind)
   ·
    have h7':=h7
    refine m9<|k9<|w9<|rA<|c9<|r9 ?_
    refine L9 (fun n=>⟨[(0,some (.c (.t none (.sl 3 (d8 Z9 f9 a8) rs)))),(3,some (.c (.ptr 0 0))),(7,some (.c (.t none (.v (.int .i64 ((n:Int)))))))],[(0,some (.box [.t none (.sl 2 (E9 f9 (B9 1 f9)) a0),.t none (.sl 2 (E9 f9 (B9 1 f9)) a1),.t none (.v (.bool a2)),.t none (.v (.int .i64 a3)),.t none (.v (.int .i64 a4))]))],1⟩:Nat→St) (fun n=>n≤a1.length∧∀j z,j < n→a1[j]? =some z→(G7 rs z||I2 rs z)=false) (fun n=>a1.length - n) 0 ⟨⟨rfl,⟨rfl,⟨rfl,trivial⟩⟩⟩,⟨rfl,trivial⟩,rfl⟩ (by exact⟨Nat.zero_le _,fun j z h=>by omega⟩) ?_
    rintro n hI ih1
    try dsimp only at hI ih1
    obtain⟨k1,k2⟩:=hI;(have kA:a1.length≤n→a1.any (G7 rs)=false∧a1.any (I2 rs)=false:=fun e=>⟨A3 (fun j z h h2=>by have:=k2 j z h h2;simp_all) e,A3 (fun j z h h2=>by have:=k2 j z h h2;simp_all) e⟩)
    refine k9<|w9<|rM ?_
    refine rF 1 ?_
    refine rL ?_
    refine d9 (S9 rfl rfl rfl) ?_
    refine rB<|c9 ?_
    refine j9 rfl (fun h11=>?_) (fun h11=>?_)
    ·
     have h11':=j8 h11
     refine m9<|k9<|r9<|w9<|rM ?_
     refine rF 1 ?_
     refine rL ?_
     refine rM ?_
     obtain⟨z12,hz13,b14⟩:=t9 (xs:=a1) (n:=(n:Int)) (by omega) (by omega)
     refine d9 (P9 rfl (by kernel_rfl) rfl rfl b14 hz13) ?_
     refine d9 (A6 rfl (n:=2) (by kernel_rfl) (by kernel_rfl) rfl rfl) ?_
     refine d9 (n9 1 1 false (N9 Tryz.func107) (Y4 rs z12.1 z12.2 (by omega) (by(have e1:=j6 (f:=(fun(x:Int ×(List Int))=>x.2.length)) (l:=a1) (m:=n) (by assumption);(try dsimp only at e1);omega))) rfl (.cons rfl (.c .t0) (.cons rfl (.agg (.cons .t0 (.cons .t0 .nil))) .nil)) rfl rfl rfl) ?_
     refine d9 (Q8 rfl rfl) ?_
     refine rM ?_
     refine x9 (fun g15=>?_) (fun g15=>?_)
     ·
      have g15':=(O4 g15)
      refine rM ?_
      refine x9 (fun _=>?_) (C9 g15)
      refine rF 1 ?_
      refine x9 (fun _=>?_) (C9 g15)
      refine rL ?_
      refine x9 (fun _=>?_) (C9 g15)
      refine rM ?_
      refine x9 (fun _=>?_) (C9 g15)
      refine d9 (P9 rfl (by kernel_rfl) rfl rfl b14 hz13) ?_
      refine x9 (fun _=>?_) (C9 g15)
      refine d9 (K1 rfl (off:=0) (by kernel_rfl) rfl) ?_
      refine x9 (fun _=>?_) (C9 g15)
      refine d9 (c8 rfl (by kernel_rfl) rfl rfl) ?_
      refine x9 (fun _=>?_) (C9 g15)
      obtain⟨z16,hz17,b18⟩:=t9 (xs:=rs) (n:=z12.1) (by exact(LQ (by assumption)).1) (by exact(LQ (by assumption)).2)
      refine d9 (P9 rfl (by kernel_rfl) rfl rfl b18 hz17) ?_
      refine x9 (fun _=>?_) (C9 g15)
      refine d9 (K1 rfl (off:=2) (by kernel_rfl) rfl) ?_
      refine x9 (fun _=>?_) (C9 g15)
      refine d9 (c8 rfl (by kernel_rfl) rfl rfl) ?_
      refine d9 (H9 rfl rfl g15 rfl) ?_
      refine c9 ?_
      refine j9 rfl (fun h19=>?_) (fun h19=>?_)
      ·
       have h19':=h19
       refine w9<|rA<|c9 ?_
       refine tk Tryz.func57 (.tmp rfl .nil) ?_ <;>(try clear ih0) <;>(try clear ih1)
       all_goals(refine N7 ?_;(try(have qA:=iA (by omega)));(try(have qK:=kA (by omega)));(try(have qB:=y8 (p:=G7 rs) (l:=a0) (m:=m) hz13 (by unfold G7;grind)));(try(have qC:=y8 (p:=G7 rs) (l:=a1) (m:=n) hz13 (by unfold G7;grind)));(try(have qS:=B8 (rs:=rs) (r:=z12.1) (ts:=z12.2) hz17;have qD:=y8 (p:=I2 rs) (l:=a1) (m:=n) hz13 (by grind)));clear hs g0 g1 v0 v1;unfold D6 I7;grind)
      ·
       have h19':=h19
       refine m9<|i9<|l9<|rM ?_
       refine rB ?_
       refine rA<|c9 ?_
       refine n8 ?_ (ih1 (n + 1) (by(try dsimp only);omega) (by(try dsimp only);exact⟨by omega,W4 (p:=fun z=>G7 rs z||I2 rs z) k2 (by assumption) rfl (by have q1:=B8 (rs:=rs) (r:=z12.1) (ts:=z12.2) hz17;unfold G7;grind)⟩))
       exact⟨⟨rfl,⟨rfl,⟨(i6 (s8 (by omega) (by omega))),trivial⟩⟩⟩,⟨rfl,trivial⟩,rfl⟩
     ·
      have g15':=(P4 g15)
      refine x9 (nc g15) (fun _=>?_)
      refine x9 (nc g15) (fun _=>?_)
      refine x9 (nc g15) (fun _=>?_)
      refine x9 (nc g15) (fun _=>?_)
      refine x9 (nc g15) (fun _=>?_)
      refine x9 (nc g15) (fun _=>?_)
      refine x9 (nc g15) (fun _=>?_)
      refine x9 (nc g15) (fun _=>?_)
      refine x9 (nc g15) (fun _=>?_)
      refine d9 (M9 rfl rfl g15 rfl) ?_
      refine c9 ?_
      refine j9 rfl (fun _=>?_) (nc rfl)
      refine w9<|rA<|c9 ?_
      refine tk Tryz.func57 (.tmp rfl .nil) ?_ <;>(try clear ih0) <;>(try clear ih1)
      all_goals(refine N7 ?_;(try(have qA:=iA (by omega)));(try(have qK:=kA (by omega)));(try(have qB:=y8 (p:=G7 rs) (l:=a0) (m:=m) hz13 (by unfold G7;grind)));(try(have qC:=y8 (p:=G7 rs) (l:=a1) (m:=n) hz13 (by unfold G7;grind)));(try(have qS:=B8 (rs:=rs) (r:=z12.1) (ts:=z12.2) (by assumption);have qD:=y8 (p:=I2 rs) (l:=a1) (m:=n) hz13 (by grind)));clear hs g0 g1 v0 v1;unfold D6 I7;grind)
    ·
     have h11':=l8 h11
     refine R9 rfl<|w9<|rF 1 ?_
     refine rL ?_
     refine d9 (S9 rfl rfl rfl) ?_
     refine d9 (n9 1 1 false (N9 Tryz.func71) (X6 ((a1.length:Int)) 1 2) rfl (.cons rfl (.c .t0) (.cons rfl (.c .t0) (.cons rfl (.c .t0) .nil))) rfl rfl rfl) ?_
     refine rM ?_
     refine x9 (fun g20=>?_) (fun g20=>?_)
     ·
      have g20':=j8 g20
      refine rF 3 ?_
      refine x9 (fun _=>?_) (nc g20)
      refine rL ?_
      refine x9 (fun _=>?_) (nc g20)
      refine rB ?_
      refine d9 (M9 rfl rfl g20 rfl) ?_
      refine rM ?_
      refine x9 (fun g21=>?_) (fun g21=>?_)
      ·
       have g21':=j8 g21
       refine rF 4 ?_
       refine x9 (fun _=>?_) (nc g21)
       refine rL ?_
       refine x9 (fun _=>?_) (nc g21)
       refine rB ?_
       refine d9 (M9 rfl rfl g21 rfl) ?_
       refine rA<|c9 ?_
       refine tk Tryz.func57 (.tmp rfl .nil) ?_ <;>(try clear ih0) <;>(try clear ih1)
       all_goals(refine N7 ?_;(try(have qA:=iA (by omega)));(try(have qK:=kA (by omega)));(try(have qB:=y8 (p:=G7 rs) (l:=a0) (m:=m) (by assumption) (by unfold G7;grind)));(try(have qC:=y8 (p:=G7 rs) (l:=a1) (m:=n) (by assumption) (by unfold G7;grind)));(try(have qS:=B8 (rs:=rs) (r:=(by assumption).1) (ts:=(by assumption).2) (by assumption);have qD:=y8 (p:=I2 rs) (l:=a1) (m:=n) (by assumption) (by grind)));clear hs g0 g1 v0 v1;unfold D6 I7;grind)
      ·
       have g21':=l8 g21
       refine x9 (C9 g21) (fun _=>?_)
       refine x9 (C9 g21) (fun _=>?_)
       refine d9 (H9 rfl rfl g21 rfl) ?_
       refine rA<|c9 ?_
       refine tk Tryz.func57 (.tmp rfl .nil) ?_ <;>(try clear ih0) <;>(try clear ih1)
       all_goals(refine N7 ?_;(try(have qA:=iA (by omega)));(try(have qK:=kA (by omega)));(try(have qB:=y8 (p:=G7 rs) (l:=a0) (m:=m) (by assumption) (by unfold G7;grind)));(try(have qC:=y8 (p:=G7 rs) (l:=a1) (m:=n) (by assumption) (by unfold G7;grind)));(try(have qS:=B8 (rs:=rs) (r:=(by assumption).1) (ts:=(by assumption).2) (by assumption);have qD:=y8 (p:=I2 rs) (l:=a1) (m:=n) (by assumption) (by grind)));clear hs g0 g1 v0 v1;unfold D6 I7;grind)
     ·
      have g20':=l8 g20
      refine x9 (C9 g20) (fun _=>?_)
      refine x9 (C9 g20) (fun _=>?_)
      refine d9 (H9 rfl rfl g20 rfl) ?_
      refine rM ?_
      refine x9 (C9 rfl) (fun _=>?_)
      refine x9 (C9 rfl) (fun _=>?_)
      refine x9 (C9 rfl) (fun _=>?_)
      refine d9 (H9 rfl rfl rfl rfl) ?_
      refine rA<|c9 ?_
      refine tk Tryz.func57 (.tmp rfl .nil) ?_ <;>(try clear ih0) <;>(try clear ih1)
      all_goals(refine N7 ?_;(try(have qA:=iA (by omega)));(try(have qK:=kA (by omega)));(try(have qB:=y8 (p:=G7 rs) (l:=a0) (m:=m) (by assumption) (by unfold G7;grind)));(try(have qC:=y8 (p:=G7 rs) (l:=a1) (m:=n) (by assumption) (by unfold G7;grind)));(try(have qS:=B8 (rs:=rs) (r:=(by assumption).1) (ts:=(by assumption).2) (by assumption);have qD:=y8 (p:=I2 rs) (l:=a1) (m:=n) (by assumption) (by grind)));clear hs g0 g1 v0 v1;unfold D6 I7;grind)
theorem y4 (v:Int)(hv: -9223372036854775808≤v)(hv2:v≤9223372036854775807):Pu Tryz.prog 29 [.c (.t none (.v (.int .i64 v)))] [] 0 (.tup [(false,[.t none (.v (.int .i64 (if -40≤v∧v≤ -1 then -1 - v else 0)))]),(false,[.t none (.v (.bool (decide (-40≤v∧v≤ -1))))])]):=by
 refine u6 Tryz.func29 fun w S=>?_
 refine w9<|rA ?_
 refine rA<|c9<|k9<|w9 ?_
 refine rM ?_
 refine rB ?_
 refine rM ?_
 refine x9 (fun g1=>?_) (fun g1=>?_)
 ·
  have g1':=l8 g1
  refine rM ?_
  refine x9 (fun _=>?_) (C9 g1)
  refine rB ?_
  refine x9 (fun _=>?_) (C9 g1)
  refine d9 (n9 0 0 false (N9 Tryz.func71) (X6 (IntKind.i64.wrap ((-1) - v)) 0 39) rfl (.cons rfl (.c .t0) (.cons rfl (.c .t0) (.cons rfl (.c .t0) .nil))) rfl rfl rfl) ?_
  refine x9 (fun _=>?_) (C9 g1)
  refine d9 (Q8 rfl rfl) ?_
  refine d9 (H9 rfl rfl g1 rfl) ?_
  refine c9 ?_
  refine j9 rfl (fun h2=>?_) (fun h2=>?_)
  ·
   have h2':=l8 (P4 h2)
   refine w9<|rA ?_
   refine rA<|c9 ?_
   refine tk Tryz.func29 (.tmp rfl (.tmp rfl .nil)) ?_
   all_goals(((have hn:¬(-40≤v∧v≤ -1):=by(simp only [IntKind.wrap_i64] at *;omega));(simp [hn];done)))
  ·
   have h2':=j8 (O4 h2)
   refine m9<|w9<|rM ?_
   refine rB ?_
   refine rA ?_
   refine rA<|c9 ?_
   refine tk Tryz.func29 (.tmp rfl (.tmp rfl .nil)) ?_
   all_goals(((have hn:(-40≤v∧v≤ -1):=by(simp only [IntKind.wrap_i64] at *;omega));(have e:IntKind.i64.wrap (-1 - v)= -1 - v:=s8 (by omega) (by omega));(simp [hn,e];done)))
 ·
  have g1':=j8 g1
  refine x9 (nc g1) (fun _=>?_)
  refine x9 (nc g1) (fun _=>?_)
  refine x9 (nc g1) (fun _=>?_)
  refine d9 (M9 rfl rfl g1 rfl) ?_
  refine c9 ?_
  refine j9 rfl (fun _=>?_) (nc rfl)
  refine w9<|rA ?_
  refine rA<|c9 ?_
  refine tk Tryz.func29 (.tmp rfl (.tmp rfl .nil)) ?_
  all_goals(((have hn:¬(-40≤v∧v≤ -1):=by(simp only [IntKind.wrap_i64] at *;omega));(simp [hn];done)))
theorem F6 (v:Int)(hv: -9223372036854775808≤v)(hv2:v≤9223372036854775807):Pu Tryz.prog 78 [.c (.t none (.v (.int .i64 v)))] [] 0 (.c (.t none (.v (.bool (decide (-40≤v∧v≤9)))))):=by
 refine u6 Tryz.func78 fun w S=>?_
 refine w9<|rA<|o7 ?_
 refine rM ?_
 refine d9 (n9 0 0 false (N9 Tryz.func29) (y4 v (by omega) (by omega)) rfl (.cons rfl (.c .t0) .nil) rfl rfl rfl) ?_
 refine rM ?_
 refine d9 (O9 rfl rfl rfl rfl) ?_
 refine d9 (O9 rfl rfl rfl rfl) ?_
 refine rA ?_
 refine rA<|o7 ?_
 refine rM ?_
 refine rM ?_
 refine x9 (fun g1=>?_) (fun g1=>?_)
 ·
  have g1':=l8 g1
  refine rM ?_
  refine x9 (fun _=>?_) (C9 g1)
  refine d9 (n9 0 0 false (N9 Tryz.func71) (X6 v 0 9) rfl (.cons rfl (.c .t0) (.cons rfl (.c .t0) (.cons rfl (.c .t0) .nil))) rfl rfl rfl) ?_
  refine d9 (H9 rfl rfl g1 rfl) ?_
  refine rA<|c9 ?_
  refine tk Tryz.func78 (.tmp rfl .nil) ?_
  all_goals((exact rG (by omega)))
 ·
  have g1':=j8 g1
  refine x9 (nc g1) (fun _=>?_)
  refine d9 (M9 rfl rfl g1 rfl) ?_
  refine rA<|c9 ?_
  refine tk Tryz.func78 (.tmp rfl .nil) ?_
  all_goals((exact YI (by omega)))
theorem SX (rs:List (List UInt8 × Int × Bool))(r:Int)(ts:List Int)(hrs:rs.length≤4611686018427387904)(hts:ts.length≤4611686018427387904)(ho:∀x∈ts,s7 x):Pu Tryz.prog 114 [.c (.t none (.sl 3 (d8 Z9 f9 a8) rs)),.agg [.t none (.v (.int .i64 r)),.t none (.sl 1 f9 ts)]] [] 0 (.c (.t none (.v (.bool (v6 rs r ts))))):=by
 refine u6 Tryz.func114 fun w S=>?_
 refine w9 ?_
 refine d9 (X9 0 rfl rfl rfl rfl) ?_
 refine rA<|c9<|k9<|k9 ?_
 refine tY ?_
 refine dT 0 rfl pM ?_
 refine dO 1 rfl (n9 1 1 false (N9 Tryz.func116) (l5 rs (by omega)) rfl (.cons rfl (.c .t0) .nil) rfl rfl rfl) ?_
 refine dT 2 rfl (T3 rfl) ?_
 refine dT 3 rfl pM ?_
 refine dH 4 rfl (fun _=>pF 0) (fun g1=>?_) (fun g1=>?_)
 ·
  have g1':=(O4 g1)
  refine dH 5 rfl (fun _=>pL) (fun _=>?_) (C9 g1)
  refine dH 6 rfl (fun _=>pM) (fun _=>?_) (C9 g1)
  refine dH 7 rfl (fun _=>BZ rfl rfl) (fun _=>?_) (C9 g1)
  refine dH 8 rfl (fun _=>pB) (fun _=>?_) (C9 g1)
  refine s6 9 rfl rfl (by kernel_rfl) rfl rfl rfl (fun _=>(n9 1 1 false (N9 Tryz.func71) (X6 r 0 (IntKind.i64.wrap ((rs.length:Int) - 1))) rfl (.cons rfl (.c .t0) (.cons rfl (.c .t0) (.cons rfl (.c .t0) .nil))) rfl rfl rfl)) (fun _=>?_) (C9 g1)
  refine dH 10 rfl (fun _=>T3 rfl) (fun _=>?_) (C9 g1)
  refine dT 11 rfl (o8 rfl g1 rfl) ?_
  refine dT 12 rfl pM ?_
  refine dH 13 rfl (fun _=>pF 1) (fun g2=>?_) (fun g2=>?_)
  ·
   have g2':=j8 (O4 g2)
   refine dH 14 rfl (fun _=>pL) (fun _=>?_) (C9 g2)
   refine dH 15 rfl (fun _=>BZ rfl rfl) (fun _=>?_) (C9 g2)
   refine dH 16 rfl (fun _=>pM) (fun _=>?_) (C9 g2)
   refine dH 17 rfl (fun _=>pF 0) (fun _=>?_) (C9 g2)
   refine dH 18 rfl (fun _=>pL) (fun _=>?_) (C9 g2)
   obtain⟨z3,hz4,b5⟩:=t9 (xs:=rs) (n:=r) (by omega) (by(simp only [IntKind.wrap_i64] at *;omega))
   refine dH 19 rfl (fun _=>w8 (by kernel_rfl) rfl rfl b5 hz4) (fun _=>?_) (C9 g2)
   refine dH 20 rfl (fun _=>N2 (off:=1) (by kernel_rfl) rfl) (fun _=>?_) (C9 g2)
   refine dH 21 rfl (fun _=>t7 (by kernel_rfl) rfl rfl) (fun _=>?_) (C9 g2)
   refine dH 22 rfl (fun _=>pB) (fun _=>?_) (C9 g2)
   refine dT 23 rfl (o8 rfl g2 rfl) ?_
   refine dE ?_
   refine j9 rfl (fun h6=>?_) (fun h6=>?_)
   ·
    have h6':=j8 h6
    refine w9<|rA<|c9 ?_
    refine tk Tryz.func114 (.tmp rfl .nil) ?_ <;>(try clear ih0)
    all_goals(refine N7 ?_;(rw [YQ (by assumption) (by assumption)];done))
   ·
    have h6':=l8 h6
    refine m9<|k9<|w9<|rA<|c9<|r9 ?_
    refine L9 (fun m=>⟨[(3,some (.c (.ptr 0 0))),(5,some (.c (.t none (.v (.int .i64 ((m:Int)))))))],[(0,some (.box [.t none (.v (.int .i64 r)),.t none (.sl 1 f9 ts)]))],1⟩:Nat→St) (fun m=>m≤ts.length∧∀j z,j < m→ts[j]? =some z→(fun t=>!ZZ t) z=false) (fun m=>ts.length - m) 0 ⟨⟨rfl,⟨rfl,trivial⟩⟩,⟨rfl,trivial⟩,rfl⟩ (by exact⟨Nat.zero_le _,fun j z h=>by omega⟩) ?_
    rintro m hI ih0
    try dsimp only at hI ih0
    obtain⟨i1,i2⟩:=hI
    refine k9<|w9<|rM ?_
    refine rF 1 ?_
    refine rL ?_
    refine d9 (S9 rfl rfl rfl) ?_
    refine rB<|c9 ?_
    refine j9 rfl (fun h7=>?_) (fun h7=>?_)
    ·
     have h7':=j8 h7
     refine m9<|k9<|r9<|w9<|rF 1 ?_
     refine rL ?_
     refine rM ?_
     obtain⟨z8,hz9,b10⟩:=t9 (xs:=ts) (n:=(m:Int)) (by omega) (by omega)
     refine d9 (P9 rfl (by kernel_rfl) rfl rfl b10 hz9) ?_
     refine d9 (c8 rfl (by kernel_rfl) rfl rfl) ?_
     refine d9 (n9 1 1 false (N9 Tryz.func78) (F6 z8 (by exact(ho _ (J8 (by assumption))).1) (by exact(ho _ (J8 (by assumption))).2)) rfl (.cons rfl (.c .t0) .nil) rfl rfl rfl) ?_
     refine d9 (Q8 rfl rfl) ?_
     refine c9 ?_
     refine j9 rfl (fun h11=>?_) (fun h11=>?_)
     ·
      have h11':=l8 (P4 h11)
      refine w9<|rA<|c9 ?_
      refine tk Tryz.func114 (.tmp rfl .nil) ?_ <;>(try clear ih0)
      all_goals(refine N7 ?_;(rw [fT (by assumption) (by simp only [IntKind.wrap_i64] at *;omega) (by assumption) (by omega),y8 (p:=fun t=>!ZZ t) (by assumption) (by simp only [ZZ,Bool.not_eq_true'];exact decide_eq_false (by assumption))];rfl))
     ·
      have h11':=j8 (O4 h11)
      refine m9<|i9<|l9<|rM ?_
      refine rB ?_
      refine rA<|c9 ?_
      refine n8 ?_ (ih0 (m + 1) (by(try dsimp only);omega) (by(try dsimp only);exact⟨by omega,W4 i2 (by assumption) rfl (by simp only [ZZ,Bool.not_eq_false'];exact decide_eq_true (by assumption))⟩))
      exact⟨⟨rfl,⟨(i6 (s8 (by omega) (by omega))),trivial⟩⟩,⟨rfl,trivial⟩,rfl⟩
    ·
     have h7':=l8 h7
     refine R9 rfl<|w9<|rA<|c9 ?_
     refine tk Tryz.func114 (.tmp rfl .nil) ?_ <;>(try clear ih0)
     all_goals(refine N7 ?_;(rw [fT (by assumption) (by simp only [IntKind.wrap_i64] at *;omega) (by assumption) (by omega),A3 (p:=fun t=>!ZZ t) i2 (by omega)];rfl))
  ·
   have g2':=l8 (P4 g2)
   refine dG 14 (nc g2) (fun _=>?_)
   refine dG 15 (nc g2) (fun _=>?_)
   refine dG 16 (nc g2) (fun _=>?_)
   refine dG 17 (nc g2) (fun _=>?_)
   refine dG 18 (nc g2) (fun _=>?_)
   refine dG 19 (nc g2) (fun _=>?_)
   refine dG 20 (nc g2) (fun _=>?_)
   refine dG 21 (nc g2) (fun _=>?_)
   refine dG 22 (nc g2) (fun _=>?_)
   refine dT 23 rfl (H8 rfl g2 rfl) ?_
   refine dE ?_
   refine j9 rfl (fun _=>?_) (nc rfl)
   refine w9<|rA<|c9 ?_
   refine tk Tryz.func114 (.tmp rfl .nil) ?_ <;>(try clear ih0)
   all_goals(refine N7 ?_;(rw [fP (by simp only [IntKind.wrap_i64] at *;omega)];done))
 ·
  have g1':=(P4 g1)
  refine dG 5 (nc g1) (fun _=>?_)
  refine dG 6 (nc g1) (fun _=>?_)
  refine dG 7 (nc g1) (fun _=>?_)
  refine dG 8 (nc g1) (fun _=>?_)
  refine dG 9 (nc g1) (fun _=>?_)
  refine dG 10 (nc g1) (fun _=>?_)
  refine dT 11 rfl (H8 rfl g1 rfl) ?_
  refine dT 12 rfl pM ?_
  refine dG 13 (nc rfl) (fun _=>?_)
  refine dG 14 (nc rfl) (fun _=>?_)
  refine dG 15 (nc rfl) (fun _=>?_)
  refine dG 16 (nc rfl) (fun _=>?_)
  refine dG 17 (nc rfl) (fun _=>?_)
  refine dG 18 (nc rfl) (fun _=>?_)
  refine dG 19 (nc rfl) (fun _=>?_)
  refine dG 20 (nc rfl) (fun _=>?_)
  refine dG 21 (nc rfl) (fun _=>?_)
  refine dG 22 (nc rfl) (fun _=>?_)
  refine dT 23 rfl (H8 rfl rfl rfl) ?_
  refine dE ?_
  refine j9 rfl (fun _=>?_) (nc rfl)
  refine w9<|rA<|c9 ?_
  refine tk Tryz.func114 (.tmp rfl .nil) ?_ <;>(try clear ih0)
  all_goals(refine N7 ?_;(rw [tP (by assumption)];done))
theorem n3 (r:Int)(l:List Int)(hl:l.length≤1048576)(ho:∀x∈l,s7 x):Pu Tryz.prog 115 [.agg [.t none (.v (.int .i64 r)),.t none (.sl 1 f9 l)]] [(1,some (.row none 3 true 1 f9 (G9 (m8 l))))] 2 (.c (.own 1)):=by
 refine u6 Tryz.func115 fun w S=>?_
 refine w9 ?_
 refine d9 (X9 0 rfl rfl rfl rfl) ?_
 refine rA<|o7 ?_
 refine d9 (C7 1 (e:=3) (sz:=1) (zs:=[.int .i64 0]) f9 rfl rfl (by kernel_rfl) rfl) ?_
 refine rA<|c9<|k9<|w9 ?_
 refine rA<|c9<|r9 ?_
 refine L9 (fun m=>⟨[(1,some (.c (.ptr 0 0))),(2,some (.c (.t none (.v (.slice none 0 0))))),(3,some (.c (.own 1))),(4,some (.c (.t none (.v (.int .i64 ((m:Int)))))))],[(0,some (.box [.t none (.v (.int .i64 r)),.t none (.sl 1 f9 l)])),(1,some (.row none 3 true 1 f9 (G9 (m8 (l.take m)))))],2⟩:Nat→St) (fun m=>m≤l.length) (fun m=>l.length - m) 0 ⟨⟨rfl,⟨rfl,⟨rfl,⟨rfl,trivial⟩⟩⟩⟩,⟨rfl,⟨rfl,trivial⟩⟩,rfl⟩ (by exact Nat.zero_le _) ?_
 rintro m hI ih0
 try dsimp only at hI ih0
 have i1:=hI;have q1:=F7 (m8 (l.take m));have q2:=XT l m
 refine k9<|w9<|rM ?_
 refine rF 1 ?_
 refine rL ?_
 refine d9 (S9 rfl rfl rfl) ?_
 refine rB<|c9 ?_
 refine j9 rfl (fun h1=>?_) (fun h1=>?_)
 ·
  have h1':=j8 h1
  refine m9<|k9<|r9<|w9<|rF 1 ?_
  refine rL ?_
  refine rM ?_
  obtain⟨z2,hz3,b4⟩:=t9 (xs:=l) (n:=(m:Int)) (by omega) (by omega)
  refine d9 (P9 rfl (by kernel_rfl) rfl rfl b4 hz3) ?_
  refine d9 (c8 rfl (by kernel_rfl) rfl rfl) ?_
  refine d9 (n9 2 2 false (N9 Tryz.func29) (y4 z2 (by exact(ho _ (J8 (by assumption))).1) (by exact(ho _ (J8 (by assumption))).2)) rfl (.cons rfl (.c .t0) .nil) rfl rfl rfl) ?_
  refine rM ?_
  refine d9 (O9 rfl rfl rfl rfl) ?_
  refine d9 (O9 rfl rfl rfl rfl) ?_
  refine rA ?_
  refine rA<|o7 ?_
  refine rM<|c9 ?_
  refine j9 rfl (fun h5=>?_) (fun h5=>?_)
  ·
   have h5':=j8 h5
   refine l9<|rM ?_
   refine rM ?_
   refine d9 (kX 1 (l':=U3 (G9 (m8 (l.take m))) (if -40≤z2∧z2≤ -1 then -1 - z2 else 0)) (N9 Tryz.func118) (fun U=>HZ U  (G9 (m8 (l.take m))) (if -40≤z2∧z2≤ -1 then -1 - z2 else 0) (by omega)) rfl rfl (.cons rfl (.own rfl) (.cons rfl .t0 .nil))) ?_
   refine rA<|c9<|i9<|l9 ?_
   refine rM ?_
   refine rB ?_
   refine rA<|c9 ?_
   refine n8 ?_ (ih0 (m + 1) (by(try dsimp only);omega) (by(try dsimp only);omega))
   exact⟨⟨rfl,⟨rfl,⟨rfl,⟨(i6 (s8 (by omega) (by omega))),trivial⟩⟩⟩⟩,⟨rfl,⟨(E7 (by(rw [sS (by assumption) (by assumption),nV];done))),trivial⟩⟩,rfl⟩
  ·
   have h5':=l8 h5
   refine m9<|i9<|l9<|rM ?_
   refine rB ?_
   refine rA<|c9 ?_
   refine n8 ?_ (ih0 (m + 1) (by(try dsimp only);omega) (by(try dsimp only);omega))
   exact⟨⟨rfl,⟨rfl,⟨rfl,⟨(i6 (s8 (by omega) (by omega))),trivial⟩⟩⟩⟩,⟨rfl,⟨(E7 (by(rw [dS (by assumption) (by assumption)];done))),trivial⟩⟩,rfl⟩
 ·
  have h1':=l8 h1
  refine R9 rfl<|w9<|rM ?_
  refine rA<|c9 ?_
  refine tk Tryz.func115 (.tmp rfl .nil) ?_ (hL:=⟨E7 ?_,trivial⟩) <;>(try clear ih0)
  all_goals first | rfl | ((rw [jP (by omega)]))
theorem T5 (rs:V9)(l:p9)(hrs:rs.length≤4611686018427387904)(hl:l7 (fun(x:Int ×(List Int))=>x.2.length) l≤1048576)(ho:∀z∈l,∀x∈z.2,s7 x):Pu Tryz.prog 73 [.agg [.t none (.sl 3 (d8 Z9 f9 a8) rs),.t none (.sl 2 (E9 f9 (B9 1 f9)) l)]] [] 0 (.c (.t none (.v (.bool (M8 rs l))))):=by
 refine u6 Tryz.func73 fun w S=>?_
 have gl:=L8 (f:=(fun(x:Int ×(List Int))=>x.2.length)) (l:=l)
 refine w9 ?_
 refine d9 (X9 0 rfl rfl rfl rfl) ?_
 refine rA<|c9<|k9<|w9 ?_
 refine rA<|c9<|r9 ?_
 refine L9 (fun m=>⟨[(1,some (.c (.ptr 0 0))),(3,some (.c (.t none (.v (.int .i64 ((m:Int)))))))],[(0,some (.box [.t none (.sl 3 (d8 Z9 f9 a8) rs),.t none (.sl 2 (E9 f9 (B9 1 f9)) l)]))],1⟩:Nat→St) (fun m=>m≤l.length∧∀j,j < m→S4 rs l j=true) (fun m=>l.length - m) 0 ⟨⟨rfl,⟨rfl,trivial⟩⟩,⟨rfl,trivial⟩,rfl⟩ (by exact⟨Nat.zero_le _,fun j h=>by omega⟩) ?_
 rintro m hI ih0
 try dsimp only at hI ih0
 obtain⟨i1,i2⟩:=hI
 refine k9<|w9<|rM ?_
 refine rF 1 ?_
 refine rL ?_
 refine d9 (S9 rfl rfl rfl) ?_
 refine rB<|c9 ?_
 refine j9 rfl (fun h1=>?_) (fun h1=>?_)
 ·
  have h1':=j8 h1
  refine m9<|k9<|r9<|w9<|rF 1 ?_
  refine rL ?_
  refine rM ?_
  obtain⟨z2,hz3,b4⟩:=t9 (xs:=l) (n:=(m:Int)) (by omega) (by omega)
  refine d9 (P9 rfl (by kernel_rfl) rfl rfl b4 hz3) ?_
  refine d9 (A6 rfl (n:=2) (by kernel_rfl) (by kernel_rfl) rfl rfl) ?_
  refine d9 (I9 1 (zs:=[.int .i64 0,.slice none 0 0]) rfl rfl (by kernel_rfl) rfl) ?_
  refine rS 2<|c9<|k9 ?_
  refine tY ?_
  refine dT 0 rfl (pF 0) ?_
  refine dT 1 rfl pL ?_
  refine dT 2 rfl (pC 2) ?_
  refine dO 3 rfl (n9 2 2 false (N9 Tryz.func114) (SX rs z2.1 z2.2 (by omega) (by(have e1:=j6 (f:=(fun(x:Int ×(List Int))=>x.2.length)) (l:=l) (m:=m) (by assumption);(try dsimp only at e1);omega)) (by exact ho _ (J8 (by assumption)))) rfl (.cons rfl (.c .t0) (.cons rfl (.agg (.cons .t0 (.cons .t0 .nil))) .nil)) rfl rfl rfl) ?_
  refine dT 4 rfl (T3 rfl) ?_
  refine dT 5 rfl pM ?_
  refine dH 6 rfl (fun _=>pM) (fun g5=>?_) (fun g5=>?_)
  ·
   have g5':=(O4 g5)
   refine dH 7 rfl (fun _=>pB) (fun _=>?_) (C9 g5)
   refine dH 8 rfl (fun _=>pM) (fun _=>?_) (C9 g5)
   refine dH 9 rfl (fun _=>pF 1) (fun g6=>?_) (fun g6=>?_)
   ·
    have g6':=j8 g6
    refine dH 10 rfl (fun _=>pL) (fun _=>?_) (nc g6)
    refine dH 11 rfl (fun _=>pM) (fun _=>?_) (nc g6)
    refine dH 12 rfl (fun _=>pB) (fun _=>?_) (nc g6)
    obtain⟨z7,hz8,b9⟩:=t9 (xs:=l) (n:=IntKind.i64.wrap ((m:Int) - 1)) (by(simp only [IntKind.wrap_i64] at *;omega)) (by(simp only [IntKind.wrap_i64] at *;omega))
    refine dH 13 rfl (fun _=>w8 (by kernel_rfl) rfl rfl b9 hz8) (fun _=>?_) (nc g6)
    refine dH 14 rfl (fun _=>p6 (n:=2) (by kernel_rfl) (by kernel_rfl) rfl rfl) (fun _=>?_) (nc g6)
    refine dH 15 rfl (fun _=>pC 2) (fun _=>?_) (nc g6)
    refine s6 16 rfl rfl (by kernel_rfl) rfl rfl rfl (fun _=>(n9 2 2 false (N9 Tryz.func37) (C5 z7.1 z7.2 z2.1 z2.2 (by(have e1:=j6 (f:=(fun(x:Int ×(List Int))=>x.2.length)) (l:=l) (m:=(IntKind.i64.wrap ((m:Int) - 1)).toNat) (by assumption);(try dsimp only at e1);omega)) (by(have e1:=j6 (f:=(fun(x:Int ×(List Int))=>x.2.length)) (l:=l) (m:=m) (by assumption);(try dsimp only at e1);omega))) rfl (.cons rfl (.agg (.cons .t0 (.cons .t0 .nil))) (.cons rfl (.agg (.cons .t0 (.cons .t0 .nil))) .nil)) rfl rfl rfl)) (fun _=>?_) (nc g6)
    refine dH 17 rfl (fun _=>pB) (fun _=>?_) (nc g6)
    refine dH 18 rfl (fun _=>H8 rfl g6 rfl) (fun _=>?_) (C9 g5)
    refine dT 19 rfl (o8 rfl g5 rfl) ?_
    refine dT 20 rfl pM ?_
    refine dH 21 rfl (fun _=>pF 0) (fun g10=>?_) (fun g10=>?_)
    ·
     have g10':=l8 g10
     refine dH 22 rfl (fun _=>pL) (fun _=>?_) (C9 g10)
     refine dH 23 rfl (fun _=>pF 0) (fun _=>?_) (C9 g10)
     refine dH 24 rfl (fun _=>pL) (fun _=>?_) (C9 g10)
     obtain⟨z11,hz12,b13⟩:=t9 (xs:=rs) (n:=z2.1) (by exact(V2 (by assumption)).1) (by exact(V2 (by assumption)).2)
     refine dH 25 rfl (fun _=>w8 (by kernel_rfl) rfl rfl b13 hz12) (fun _=>?_) (C9 g10)
     refine dH 26 rfl (fun _=>N2 (off:=2) (by kernel_rfl) rfl) (fun _=>?_) (C9 g10)
     refine dH 27 rfl (fun _=>t7 (by kernel_rfl) rfl rfl) (fun _=>?_) (C9 g10)
     refine dH 28 rfl (fun _=>pM) (fun _=>?_) (C9 g10)
     refine dH 29 rfl (fun _=>pC 2) (fun g14=>?_) (fun g14=>?_)
     ·
      have g14':=g14
      refine s6 30 rfl rfl (by kernel_rfl) rfl rfl rfl (fun _=>(n9 2 4 false (N9 Tryz.func115) (n3 z2.1 z2.2 (by(have e1:=j6 (f:=(fun(x:Int ×(List Int))=>x.2.length)) (l:=l) (m:=m) (by assumption);(try dsimp only at e1);omega)) (by exact ho _ (J8 (by assumption)))) rfl (.cons rfl (.agg (.cons .t0 (.cons .t0 .nil))) .nil) rfl rfl rfl)) (fun _=>?_) (nc g14)
      refine dH 31 rfl (fun _=>J2 rfl rfl rfl) (fun _=>?_) (nc g14)
      refine dH 32 rfl (fun _=>pB) (fun _=>?_) (nc g14)
      refine dH 33 rfl (fun _=>H8 rfl g14 rfl) (fun _=>?_) (C9 g10)
      refine dT 34 rfl (o8 rfl g10 rfl) ?_
      refine dE ?_
      refine j9 rfl (fun h15=>?_) (fun h15=>?_)
      ·
       have h15':=j8 h15
       refine w9<|rA<|c9 ?_
       refine tk Tryz.func73 (.tmp rfl .nil) ?_ <;>(try clear ih0)
       all_goals(refine N7 ?_;(rw [B4 (rs:=rs) (l:=l) (m:=m) (by omega) (by(try(have qb:=U8 (rs:=rs) (l:=l) (m:=m) hz3 (by assumption)));(try(have qz:=N8 (rs:=rs) (l:=l) (m:=m) hz3 (by omega)));(try(have qp:=V8 (rs:=rs) (l:=l) (m:=m) hz3 (by omega) hz8 (by simp only [IntKind.wrap_i64];omega)));(try(have qS:=B8 (rs:=rs) (r:=z2.1) (ts:=z2.2) hz8));(try(have qT:=B8 (rs:=rs) (r:=z2.1) (ts:=z2.2) hz12));clear hl gl ho hrs;grind)];done))
      ·
       have h15':=l8 h15
       refine m9<|i9<|l9<|rM ?_
       refine rB ?_
       refine rA<|c9 ?_
       refine n8 ?_ (ih0 (m + 1) (by(try dsimp only);omega) (by(try dsimp only);exact⟨by omega,d6 i2 (by(try(have qb:=U8 (rs:=rs) (l:=l) (m:=m) hz3 (by assumption)));(try(have qz:=N8 (rs:=rs) (l:=l) (m:=m) hz3 (by omega)));(try(have qp:=V8 (rs:=rs) (l:=l) (m:=m) hz3 (by omega) hz8 (by simp only [IntKind.wrap_i64];omega)));(try(have qS:=B8 (rs:=rs) (r:=z2.1) (ts:=z2.2) hz8));(try(have qT:=B8 (rs:=rs) (r:=z2.1) (ts:=z2.2) hz12));clear hl gl ho hrs;grind)⟩))
       exact⟨⟨rfl,⟨(i6 (s8 (by omega) (by omega))),trivial⟩⟩,⟨rfl,trivial⟩,rfl⟩
     ·
      have g14':=g14
      refine dG 30 (C9 g14) (fun _=>?_)
      refine dG 31 (C9 g14) (fun _=>?_)
      refine dG 32 (C9 g14) (fun _=>?_)
      refine dH 33 rfl (fun _=>o8 rfl g14 rfl) (fun _=>?_) (C9 g10)
      refine dT 34 rfl (o8 rfl g10 rfl) ?_
      refine dE ?_
      refine j9 rfl (C9 rfl) (fun _=>?_)
      refine m9<|i9<|l9<|rM ?_
      refine rB ?_
      refine rA<|c9 ?_
      refine n8 ?_ (ih0 (m + 1) (by(try dsimp only);omega) (by(try dsimp only);exact⟨by omega,d6 i2 (by(try(have qb:=U8 (rs:=rs) (l:=l) (m:=m) hz3 (by assumption)));(try(have qz:=N8 (rs:=rs) (l:=l) (m:=m) hz3 (by omega)));(try(have qp:=V8 (rs:=rs) (l:=l) (m:=m) hz3 (by omega) hz8 (by simp only [IntKind.wrap_i64];omega)));(try(have qS:=B8 (rs:=rs) (r:=z2.1) (ts:=z2.2) hz8));(try(have qT:=B8 (rs:=rs) (r:=z2.1) (ts:=z2.2) hz12));clear hl gl ho hrs;grind)⟩))
      exact⟨⟨rfl,⟨(i6 (s8 (by omega) (by omega))),trivial⟩⟩,⟨rfl,trivial⟩,rfl⟩
    ·
     have g10':=j8 g10
     refine dG 22 (nc g10) (fun _=>?_)
     refine dG 23 (nc g10) (fun _=>?_)
     refine dG 24 (nc g10) (fun _=>?_)
     refine dG 25 (nc g10) (fun _=>?_)
     refine dG 26 (nc g10) (fun _=>?_)
     refine dG 27 (nc g10) (fun _=>?_)
     refine dG 28 (nc g10) (fun _=>?_)
     refine dK 29 ?_
     refine dK 30 ?_
     refine dK 31 ?_
     refine dK 32 ?_
     refine dG 33 (nc g10) (fun _=>?_)
     refine dT 34 rfl (H8 rfl g10 rfl) ?_
     refine dE ?_
     refine j9 rfl (fun _=>?_) (nc rfl)
     refine w9<|rA<|c9 ?_
     refine tk Tryz.func73 (.tmp rfl .nil) ?_ <;>(try clear ih0)
     all_goals(refine N7 ?_;(rw [B4 (rs:=rs) (l:=l) (m:=m) (by omega) (by(try(have qb:=U8 (rs:=rs) (l:=l) (m:=m) hz3 (by assumption)));(try(have qz:=N8 (rs:=rs) (l:=l) (m:=m) hz3 (by omega)));(try(have qp:=V8 (rs:=rs) (l:=l) (m:=m) hz3 (by omega) hz8 (by simp only [IntKind.wrap_i64];omega)));(try(have qS:=B8 (rs:=rs) (r:=z2.1) (ts:=z2.2) hz8));(try(have qT:=B8 (rs:=rs) (r:=z2.1) (ts:=z2.2) (by assumption)));clear hl gl ho hrs;grind)];done))
   ·
    have g6':=l8 g6
    refine dG 10 (C9 g6) (fun _=>?_)
    refine dG 11 (C9 g6) (fun _=>?_)
    refine dG 12 (C9 g6) (fun _=>?_)
    refine dG 13 (C9 g6) (fun _=>?_)
    refine dG 14 (C9 g6) (fun _=>?_)
    refine dG 15 (C9 g6) (fun _=>?_)
    refine dG 16 (C9 g6) (fun _=>?_)
    refine dG 17 (C9 g6) (fun _=>?_)
    refine dH 18 rfl (fun _=>o8 rfl g6 rfl) (fun _=>?_) (C9 g5)
    refine dT 19 rfl (o8 rfl g5 rfl) ?_
    refine dT 20 rfl pM ?_
    refine dH 21 rfl (fun _=>pF 0) (fun _=>?_) (C9 rfl)
    refine dH 22 rfl (fun _=>pL) (fun _=>?_) (C9 rfl)
    refine dH 23 rfl (fun _=>pF 0) (fun _=>?_) (C9 rfl)
    refine dH 24 rfl (fun _=>pL) (fun _=>?_) (C9 rfl)
    obtain⟨z16,hz17,b18⟩:=t9 (xs:=rs) (n:=z2.1) (by exact(V2 (by assumption)).1) (by exact(V2 (by assumption)).2)
    refine dH 25 rfl (fun _=>w8 (by kernel_rfl) rfl rfl b18 hz17) (fun _=>?_) (C9 rfl)
    refine dH 26 rfl (fun _=>N2 (off:=2) (by kernel_rfl) rfl) (fun _=>?_) (C9 rfl)
    refine dH 27 rfl (fun _=>t7 (by kernel_rfl) rfl rfl) (fun _=>?_) (C9 rfl)
    refine dH 28 rfl (fun _=>pM) (fun _=>?_) (C9 rfl)
    refine dH 29 rfl (fun _=>pC 2) (fun g19=>?_) (fun g19=>?_)
    ·
     have g19':=g19
     refine s6 30 rfl rfl (by kernel_rfl) rfl rfl rfl (fun _=>(n9 2 4 false (N9 Tryz.func115) (n3 z2.1 z2.2 (by(have e1:=j6 (f:=(fun(x:Int ×(List Int))=>x.2.length)) (l:=l) (m:=m) (by assumption);(try dsimp only at e1);omega)) (by exact ho _ (J8 (by assumption)))) rfl (.cons rfl (.agg (.cons .t0 (.cons .t0 .nil))) .nil) rfl rfl rfl)) (fun _=>?_) (nc g19)
     refine dH 31 rfl (fun _=>J2 rfl rfl rfl) (fun _=>?_) (nc g19)
     refine dH 32 rfl (fun _=>pB) (fun _=>?_) (nc g19)
     refine dH 33 rfl (fun _=>H8 rfl g19 rfl) (fun _=>?_) (C9 rfl)
     refine dT 34 rfl (o8 rfl rfl rfl) ?_
     refine dE ?_
     refine j9 rfl (fun h20=>?_) (fun h20=>?_)
     ·
      have h20':=j8 h20
      refine w9<|rA<|c9 ?_
      refine tk Tryz.func73 (.tmp rfl .nil) ?_ <;>(try clear ih0)
      all_goals(refine N7 ?_;(rw [B4 (rs:=rs) (l:=l) (m:=m) (by omega) (by(try(have qb:=U8 (rs:=rs) (l:=l) (m:=m) hz3 (by assumption)));(try(have qz:=N8 (rs:=rs) (l:=l) (m:=m) hz3 (by omega)));(try(have qp:=V8 (rs:=rs) (l:=l) (m:=m) hz3 (by omega) hz17 (by simp only [IntKind.wrap_i64];omega)));(try(have qS:=B8 (rs:=rs) (r:=z2.1) (ts:=z2.2) hz17));(try(have qT:=B8 (rs:=rs) (r:=z2.1) (ts:=z2.2) (by assumption)));clear hl gl ho hrs;grind)];done))
     ·
      have h20':=l8 h20
      refine m9<|i9<|l9<|rM ?_
      refine rB ?_
      refine rA<|c9 ?_
      refine n8 ?_ (ih0 (m + 1) (by(try dsimp only);omega) (by(try dsimp only);exact⟨by omega,d6 i2 (by(try(have qb:=U8 (rs:=rs) (l:=l) (m:=m) hz3 (by assumption)));(try(have qz:=N8 (rs:=rs) (l:=l) (m:=m) hz3 (by omega)));(try(have qp:=V8 (rs:=rs) (l:=l) (m:=m) hz3 (by omega) hz17 (by simp only [IntKind.wrap_i64];omega)));(try(have qS:=B8 (rs:=rs) (r:=z2.1) (ts:=z2.2) hz17));(try(have qT:=B8 (rs:=rs) (r:=z2.1) (ts:=z2.2) (by assumption)));clear hl gl ho hrs;grind)⟩))
      exact⟨⟨rfl,⟨(i6 (s8 (by omega) (by omega))),trivial⟩⟩,⟨rfl,trivial⟩,rfl⟩
    ·
     have g19':=g19
     refine dG 30 (C9 g19) (fun _=>?_)
     refine dG 31 (C9 g19) (fun _=>?_)
     refine dG 32 (C9 g19) (fun _=>?_)
     refine dH 33 rfl (fun _=>o8 rfl g19 rfl) (fun _=>?_) (C9 rfl)
     refine dT 34 rfl (o8 rfl rfl rfl) ?_
     refine dE ?_
     refine j9 rfl (C9 rfl) (fun _=>?_)
     refine m9<|i9<|l9<|rM ?_
     refine rB ?_
     refine rA<|c9 ?_
     refine n8 ?_ (ih0 (m + 1) (by(try dsimp only);omega) (by(try dsimp only);exact⟨by omega,d6 i2 (by(try(have qb:=U8 (rs:=rs) (l:=l) (m:=m) hz3 (by assumption)));(try(have qz:=N8 (rs:=rs) (l:=l) (m:=m) hz3 (by omega)));(try(have qp:=V8 (rs:=rs) (l:=l) (m:=m) hz3 (by omega) hz17 (by simp only [IntKind.wrap_i64];omega)));(try(have qS:=B8 (rs:=rs) (r:=z2.1) (ts:=z2.2) hz17));(try(have qT:=B8 (rs:=rs) (r:=z2.1) (ts:=z2.2) (by assumption)));clear hl gl ho hrs;grind)⟩))
     exact⟨⟨rfl,⟨(i6 (s8 (by omega) (by omega))),trivial⟩⟩,⟨rfl,trivial⟩,rfl⟩
  ·
   have g5':=(P4 g5)
   refine dG 7 (nc g5) (fun _=>?_)
   refine dG 8 (nc g5) (fun _=>?_)
   refine dK 9 ?_
   refine dK 10 ?_
   refine dK 11 ?_
   refine dK 12 ?_
   refine dK 13 ?_
   refine dK 14 ?_
   refine dK 15 ?_
   refine dK 16 ?_
   refine dK 17 ?_
   refine dG 18 (nc g5) (fun _=>?_)
   refine dT 19 rfl (H8 rfl g5 rfl) ?_
   refine dT 20 rfl pM ?_
   refine dG 21 (nc rfl) (fun _=>?_)
   refine dG 22 (nc rfl) (fun _=>?_)
   refine dG 23 (nc rfl) (fun _=>?_)
   refine dG 24 (nc rfl) (fun _=>?_)
   refine dG 25 (nc rfl) (fun _=>?_)
   refine dG 26 (nc rfl) (fun _=>?_)
   refine dG 27 (nc rfl) (fun _=>?_)
   refine dG 28 (nc rfl) (fun _=>?_)
   refine dK 29 ?_
   refine dK 30 ?_
   refine dK 31 ?_
   refine dK 32 ?_
   refine dG 33 (nc rfl) (fun _=>?_)
   refine dT 34 rfl (H8 rfl rfl rfl) ?_
   refine dE ?_
   refine j9 rfl (fun _=>?_) (nc rfl)
   refine w9<|rA<|c9 ?_
   refine tk Tryz.func73 (.tmp rfl .nil) ?_ <;>(try clear ih0)
   all_goals(refine N7 ?_;(rw [B4 (rs:=rs) (l:=l) (m:=m) (by omega) (by(try(have qb:=U8 (rs:=rs) (l:=l) (m:=m) hz3 (by assumption)));(try(have qz:=N8 (rs:=rs) (l:=l) (m:=m) hz3 (by omega)));(try(have qp:=V8 (rs:=rs) (l:=l) (m:=m) hz3 (by omega) (by assumption) (by simp only [IntKind.wrap_i64];omega)));(try(have qS:=B8 (rs:=rs) (r:=z2.1) (ts:=z2.2) (by assumption)));(try(have qT:=B8 (rs:=rs) (r:=z2.1) (ts:=z2.2) (by assumption)));clear hl gl ho hrs;grind)];done))
 ·
  have h1':=l8 h1
  refine R9 rfl<|w9<|rF 0 ?_
  refine rL ?_
  refine d9 (n9 1 1 false (N9 Tryz.func116) (l5 rs (by omega)) rfl (.cons rfl (.c .t0) .nil) rfl rfl rfl) ?_
  refine rM ?_
  refine x9 (fun g21=>?_) (fun g21=>?_)
  ·
   have g21':=g21
   refine rF 1 ?_
   refine x9 (fun _=>?_) (nc g21)
   refine rL ?_
   refine x9 (fun _=>?_) (nc g21)
   refine d9 (S9 rfl rfl rfl) ?_
   refine x9 (fun _=>?_) (nc g21)
   refine rB ?_
   refine d9 (M9 rfl rfl g21 rfl) ?_
   refine rA<|c9 ?_
   refine tk Tryz.func73 (.tmp rfl .nil) ?_ <;>(try clear ih0)
   all_goals(refine N7 ?_;(rw [RZ (m:=m) i2 (by omega)];clear hl gl ho hrs;grind))
  ·
   have g21':=g21
   refine x9 (C9 g21) (fun _=>?_)
   refine x9 (C9 g21) (fun _=>?_)
   refine x9 (C9 g21) (fun _=>?_)
   refine d9 (H9 rfl rfl g21 rfl) ?_
   refine rA<|c9 ?_
   refine tk Tryz.func73 (.tmp rfl .nil) ?_ <;>(try clear ih0)
   all_goals(refine N7 ?_;(rw [RZ (m:=m) i2 (by omega)];clear hl gl ho hrs;grind))
theorem vW (rs:V9)(fs l:p9)(hrs:rs.length≤4611686018427387904)(hfs:l7 (fun(x:Int ×(List Int))=>x.2.length) fs≤1048576)(hll:l7 (fun(x:Int ×(List Int))=>x.2.length) l≤1048576)(ho:∀z∈fs,∀x∈z.2,s7 x):Pu Tryz.prog 82 [.agg [.t none (.sl 3 (d8 Z9 f9 a8) rs),.t none (.sl 2 (E9 f9 (B9 1 f9)) fs)],.c (.t none (.sl 2 (E9 f9 (B9 1 f9)) l))] [] 0 (.c (.t none (.v (.bool (xX rs fs l))))):=by
 refine u6 Tryz.func82 fun w S=>?_
 have gl:=L8 (f:=(fun(x:Int ×(List Int))=>x.2.length)) (l:=l)
 refine w9 ?_
 refine d9 (X9 0 rfl rfl rfl rfl) ?_
 refine rA<|c9<|k9<|w9 ?_
 refine rA<|c9<|r9 ?_
 refine L9 (fun m=>⟨[(1,some (.c (.t none (.sl 2 (E9 f9 (B9 1 f9)) l)))),(2,some (.c (.ptr 0 0))),(5,some (.c (.t none (.v (.int .i64 ((m:Int)))))))],[(0,some (.box [.t none (.sl 3 (d8 Z9 f9 a8) rs),.t none (.sl 2 (E9 f9 (B9 1 f9)) fs)]))],1⟩:Nat→St) (fun m=>m≤l.length∧∀j z,j < m→l[j]? =some z→G7 rs z=false) (fun m=>l.length - m) 0 ⟨⟨rfl,⟨rfl,⟨rfl,trivial⟩⟩⟩,⟨rfl,trivial⟩,rfl⟩ (by exact⟨Nat.zero_le _,fun j z h=>by omega⟩) ?_
 rintro m hI ih0
 try dsimp only at hI ih0
 obtain⟨i1,i2⟩:=hI;have iA:l.length≤m→l.any (G7 rs)=false:=fun e=>A3 i2 e
 refine k9<|w9<|rM ?_
 refine rM ?_
 refine d9 (S9 rfl rfl rfl) ?_
 refine rB<|c9 ?_
 refine j9 rfl (fun h1=>?_) (fun h1=>?_)
 ·
  have h1':=j8 h1
  refine m9<|k9<|r9<|k9 ?_
  refine tY ?_
  refine dT 0 rfl (pF 0) ?_
  refine dT 1 rfl pL ?_
  refine dT 2 rfl pM ?_
  refine dT 3 rfl pM ?_
  obtain⟨z2,hz3,b4⟩:=t9 (xs:=l) (n:=(m:Int)) (by omega) (by omega)
  refine dT 4 rfl (w8 (by kernel_rfl) rfl rfl b4 hz3) ?_
  refine dT 5 rfl (p6 (n:=2) (by kernel_rfl) (by kernel_rfl) rfl rfl) ?_
  refine dO 6 rfl (n9 1 1 false (N9 Tryz.func107) (Y4 rs z2.1 z2.2 (by omega) (by(have e1:=j6 (f:=(fun(x:Int ×(List Int))=>x.2.length)) (l:=l) (m:=m) (by assumption);(try dsimp only at e1);omega))) rfl (.cons rfl (.c .t0) (.cons rfl (.agg (.cons .t0 (.cons .t0 .nil))) .nil)) rfl rfl rfl) ?_
  refine dT 7 rfl (T3 rfl) ?_
  refine dE ?_
  refine j9 rfl (fun h5=>?_) (fun h5=>?_)
  ·
   have h5':=(P4 h5)
   refine w9<|rA<|c9 ?_
   refine tk Tryz.func82 (.tmp rfl .nil) ?_ <;>(try clear ih0)
   all_goals(refine N7 ?_;(try(have qA:=iA (by omega)));(try(have qB:=y8 (p:=G7 rs) (l:=l) (m:=m) hz3 (by unfold G7;grind)));clear hrs hfs hll ho gl;unfold xX;grind)
  ·
   have h5':=(O4 h5)
   refine m9<|i9<|l9<|rM ?_
   refine rB ?_
   refine rA<|c9 ?_
   refine n8 ?_ (ih0 (m + 1) (by(try dsimp only);omega) (by(try dsimp only);exact⟨by omega,W4 i2 (by assumption) rfl (by unfold G7;grind)⟩))
   exact⟨⟨rfl,⟨rfl,⟨(i6 (s8 (by omega) (by omega))),trivial⟩⟩⟩,⟨rfl,trivial⟩,rfl⟩
 ·
  have h1':=l8 h1
  refine R9 rfl<|w9<|rC 2 ?_
  refine d9 (n9 1 1 false (N9 Tryz.func73) (T5 rs fs (by omega) (by omega) (by omega)) rfl (.cons rfl (.agg (.cons .t0 (.cons .t0 .nil))) .nil) rfl rfl rfl) ?_
  refine rM ?_
  refine x9 (fun g6=>?_) (fun g6=>?_)
  ·
   have g6':=g6
   refine rM ?_
   refine x9 (fun _=>?_) (nc g6)
   refine d9 (S9 rfl rfl rfl) ?_
   refine x9 (fun _=>?_) (nc g6)
   refine rB ?_
   refine d9 (M9 rfl rfl g6 rfl) ?_
   refine rA<|c9 ?_
   refine tk Tryz.func82 (.tmp rfl .nil) ?_ <;>(try clear ih0)
   all_goals(refine N7 ?_;(try(have qA:=iA (by omega)));(try(have qB:=y8 (p:=G7 rs) (l:=l) (m:=m) (by assumption) (by unfold G7;grind)));clear hrs hfs hll ho gl;unfold xX;grind)
  ·
   have g6':=g6
   refine x9 (C9 g6) (fun _=>?_)
   refine x9 (C9 g6) (fun _=>?_)
   refine d9 (H9 rfl rfl g6 rfl) ?_
   refine rA<|c9 ?_
   refine tk Tryz.func82 (.tmp rfl .nil) ?_ <;>(try clear ih0)
   all_goals(refine N7 ?_;(try(have qA:=iA (by omega)));(try(have qB:=y8 (p:=G7 rs) (l:=l) (m:=m) (by assumption) (by unfold G7;grind)));clear hrs hfs hll ho gl;unfold xX;grind)
theorem Q0:Pu Tryz.prog 81 [] [] 0 (.c (.t none (.v (.int .i64 10)))):=by
 refine u6 Tryz.func81 fun w S=>?_
 refine w9<|rA<|o7 ?_
 refine rA<|c9 ?_
 refine tk Tryz.func81 (.tmp rfl .nil) ?_
 all_goals rfl
theorem SV:Pu Tryz.prog 108 [] [(0,some (.row none 3 true 1 f9 l6))] 1 (.c (.own 0)):=by
 refine u6 Tryz.func108 fun w S=>?_
 refine w9<|rA<|o7 ?_
 refine d9 (C7 0 (e:=3) (sz:=1) (zs:=[.int .i64 0]) f9 rfl rfl (by kernel_rfl) rfl) ?_
 refine rA<|c9<|k9<|r9 ?_
 refine L9 (fun m=>⟨[(0,some (.c (.t none (.v (.slice none 0 0))))),(1,some (.c (.own 0)))],[(0,some (.row none 3 true 1 f9 (List.replicate m 10)))],1⟩:Nat→St) (fun m=>m≤5) (fun m=>5 - m) 0 ⟨⟨rfl,⟨rfl,trivial⟩⟩,⟨rfl,trivial⟩,rfl⟩ (by omega) ?_
 rintro m hI ih0
 try dsimp only at hI ih0
 have i1:=hI;have rl:(List.replicate m (10:Int)).length=m:=List.length_replicate
 refine k9<|w9<|rM ?_
 refine d9 (M7 rfl rfl rfl rfl) ?_
 refine rB<|c9 ?_
 refine j9 rfl (fun h1=>?_) (fun h1=>?_)
 ·
  have h1':=j8 h1
  refine m9<|r9<|l9<|rM ?_
  refine d9 (n9 1 1 false (N9 Tryz.func81) (Q0) rfl .nil rfl rfl rfl) ?_
  refine d9 (G8 1 (e:=3) (sz:=1) (zs:=[.int .i64 0]) rfl rfl (by kernel_rfl) rfl rfl rfl rfl rfl) ?_
  refine d9 (i8 0 (e:=3) (sz:=1) (by':=8) 10 rfl (by kernel_rfl) rfl rfl rfl rfl rfl rfl (.cons .sc .nil) rfl (by omega) (by omega)) ?_
  refine rA<|c9<|i9 ?_
  refine n8 ?_ (ih0 (m + 1) (by(try dsimp only);omega) (by(try dsimp only);omega))
  exact⟨⟨rfl,⟨rfl,trivial⟩⟩,⟨(E7 (List.replicate_succ').symm),trivial⟩,rfl⟩
 ·
  have h1':=l8 h1
  refine R9 rfl<|w9<|rM ?_
  refine rA<|c9 ?_
  refine tk Tryz.func108 (.tmp rfl .nil) ?_ (hL:=⟨E7 ?_,trivial⟩) <;>(try clear ih0)
  all_goals first | rfl | ((obtain rfl:m=5:=by omega);rfl)
theorem HT (b:List Int)(r:Int)(ts:List Int)(r2:Int)(vs:List Int)(hb:b.length=5)(ha:ts.length≤4611686018427387904)(ht:∀t∈ts, -10≤t∧t≤4)(hv:r=r2→ts.length=vs.length):Pu Tryz.prog 119 [.agg [.t none (.v (.int .i64 r)),.t none (.sl 1 f9 ts)],.agg [.t none (.v (.int .i64 r2)),.t none (.sl 1 f9 vs)],.c (.t none (.sl 1 f9 b))] [(0,some (.row none 3 true 1 f9 ((w5 (r,ts) (r2,vs) b).1)))] 1 (.tup [(false,[.own 0]),(false,[.t none (.v (.bool ((w5 (r,ts) (r2,vs) b).2)))])]):=by
 refine u6 Tryz.func119 fun w S=>?_
 refine w9 ?_
 refine d9 (X9 0 rfl rfl rfl rfl) ?_
 refine d9 (X9 1 rfl rfl rfl rfl) ?_
 refine rA ?_
 refine rA<|o7 ?_
 refine d9 (C7 2 (e:=3) (sz:=1) (zs:=[.int .i64 0]) f9 rfl rfl (by kernel_rfl) rfl) ?_
 refine rM ?_
 refine d9 (a7 2 (e:=3) (sz:=1) (by':=8) rfl (by kernel_rfl) rfl rfl rfl rfl (fun _ _=>⟨_,rfl⟩) (by(simp;omega)) (by(simp;omega))) ?_
 refine rA<|c9<|k9<|w9 ?_
 refine rF 0 ?_
 refine rL ?_
 refine rF 0 ?_
 refine rL ?_
 refine rB ?_
 refine rM ?_
 refine x9 (fun g1=>?_) (fun g1=>?_)
 ·
  have g1':=l8 g1
  refine rF 1 ?_
  refine x9 (fun _=>?_) (C9 g1)
  refine rL ?_
  refine x9 (fun _=>?_) (C9 g1)
  refine d9 (S9 rfl rfl rfl) ?_
  refine x9 (fun _=>?_) (C9 g1)
  refine rF 1 ?_
  refine x9 (fun _=>?_) (C9 g1)
  refine rL ?_
  refine x9 (fun _=>?_) (C9 g1)
  refine d9 (S9 rfl rfl rfl) ?_
  refine x9 (fun _=>?_) (C9 g1)
  refine rB ?_
  refine d9 (H9 rfl rfl g1 rfl) ?_
  refine c9 ?_
  refine j9 rfl (fun h2=>?_) (fun h2=>?_)
  ·
   have h2':=j8 h2
   refine w9<|rM ?_
   refine rA ?_
   refine rA<|c9 ?_
   refine Q1 6 2 7 rfl rfl rfl rfl ?_
   refine tk Tryz.func119 (.tmp rfl (.tmp rfl .nil)) ?_ (hL:=⟨E7 ?_,trivial⟩) <;>(try clear ih0)
   all_goals((exfalso;have e9:=hv (by omega);omega))
  ·
   have h2':=l8 h2
   refine m9<|k9<|w9<|rA<|c9<|r9 ?_
   refine L9 (fun(m,q)=>⟨[(3,some (.c (.ptr 0 0))),(4,some (.c (.ptr 1 0))),(8,some (.c (.own 2))),(9,some (.c (.t none (.v (.int .i64 ((m:Int)))))))],[(0,some (.box [.t none (.v (.int .i64 r)),.t none (.sl 1 f9 ts)])),(1,some (.box [.t none (.v (.int .i64 r2)),.t none (.sl 1 f9 vs)])),(2,some (.row none 3 true 1 f9 q))],3⟩:Nat × List Int→St) (fun(m,q)=>m≤ts.length∧q.length=5∧B1 b ((ts.zip vs).take m)=(q,true)) (fun(m,q)=>ts.length - m) (0,b) ⟨⟨rfl,⟨rfl,⟨rfl,⟨rfl,trivial⟩⟩⟩⟩,⟨rfl,⟨rfl,⟨(E7 rfl),trivial⟩⟩⟩,rfl⟩ (by exact⟨Nat.zero_le _,hb,rfl⟩) ?_
   rintro⟨m,q⟩ hI ih0
   try dsimp only at hI ih0
   obtain⟨i1,i2,i3⟩:=hI
   refine k9<|w9<|rM ?_
   refine rF 1 ?_
   refine rL ?_
   refine d9 (S9 rfl rfl rfl) ?_
   refine rB<|c9 ?_
   refine j9 rfl (fun h3=>?_) (fun h3=>?_)
   ·
    have h3':=j8 h3
    refine m9<|k9<|r9<|w9<|rF 1 ?_
    refine rL ?_
    refine rM ?_
    obtain⟨z4,hz5,b6⟩:=t9 (xs:=ts) (n:=(m:Int)) (by omega) (by omega)
    refine d9 (P9 rfl (by kernel_rfl) rfl rfl b6 hz5) ?_
    refine d9 (c8 rfl (by kernel_rfl) rfl rfl) ?_
    refine rA<|c9<|k9<|w9 ?_
    refine rM ?_
    refine rB<|c9 ?_
    refine j9 rfl (fun h7=>?_) (fun h7=>?_)
    ·
     have h7':=j8 h7
     refine k9<|w9<|rM ?_
     refine rB ?_
     refine rF 1 ?_
     refine rL ?_
     refine rM ?_
     obtain⟨z8,hz9,b10⟩:=t9 (xs:=vs) (n:=(m:Int)) (by omega) (by omega)
     refine d9 (P9 rfl (by kernel_rfl) rfl rfl b10 hz9) ?_
     refine d9 (c8 rfl (by kernel_rfl) rfl rfl) ?_
     refine rB<|c9 ?_
     refine j9 rfl (fun h11=>?_) (fun h11=>?_)
     ·
      have h11':=j8 h11
      refine w9<|rM ?_
      refine rA ?_
      refine rA<|c9 ?_
      refine Q1 6 2 7 rfl rfl rfl rfl ?_
      refine tk Tryz.func119 (.tmp rfl (.tmp rfl .nil)) ?_ (hL:=⟨E7 ?_,trivial⟩) <;>(try clear ih0)
      all_goals(first | (exfalso;have e9:=hv (by omega);omega) | (have e:w5 (r,ts) (r2,vs) b=_:=(by exact vZ (by omega) (mU i3 (hZ hz5 hz9 rfl rfl) (BU (by omega) (by(have o1:=ht _ (J8 hz5);have o2:IntKind.i64.wrap (-1 - z4)= -1 - z4:=s8 (by omega) (by omega);omega))))));(rw [e];done))
     ·
      have h11':=l8 h11
      refine m9<|R9 rfl<|l9<|rM ?_
      refine rB ?_
      refine rA<|c9 ?_
      refine n8 ?_ (ih0 (m + 1,q) (by(try dsimp only);omega) (by(try dsimp only);exact⟨by omega,(by exact i2),by(exact AZ i3 (hZ hz5 hz9 rfl rfl) (LP (by omega) (by(have o1:=ht _ (J8 hz5);have o2:IntKind.i64.wrap (-1 - z4)= -1 - z4:=s8 (by omega) (by omega);omega))))⟩))
      exact⟨⟨rfl,⟨rfl,⟨rfl,⟨(i6 (s8 (by omega) (by omega))),trivial⟩⟩⟩⟩,⟨rfl,⟨rfl,⟨rfl,trivial⟩⟩⟩,rfl⟩
    ·
     have h7':=l8 h7
     refine m9<|k9<|k9 ?_
     refine tY ?_
     refine dT 0 rfl pM ?_
     refine dT 1 rfl pM ?_
     obtain⟨z12,hz13,b14⟩:=t9 (xs:=q) (n:=z4) (by omega) (by(have o1:=ht _ (J8 (by assumption));omega))
     refine dT 2 rfl (T9 (by kernel_rfl) rfl rfl rfl b14 (f8 b14 hz13)) ?_
     refine dT 3 rfl (E8 (by kernel_rfl) rfl rfl rfl hz13) ?_
     refine dO 4 rfl (n9 3 3 false (N9 Tryz.func81) (Q0) rfl .nil rfl rfl rfl) ?_
     refine dT 5 rfl pB ?_
     refine dT 6 rfl pM ?_
     refine dH 7 rfl (fun _=>pM) (fun g15=>?_) (fun g15=>?_)
     ·
      have g15':=j8 g15
      refine dH 8 rfl (fun _=>pM) (fun _=>?_) (nc g15)
      refine dH 9 rfl (fun _=>T9 (by kernel_rfl) rfl rfl rfl b14 (f8 b14 hz13)) (fun _=>?_) (nc g15)
      refine dH 10 rfl (fun _=>E8 (by kernel_rfl) rfl rfl rfl hz13) (fun _=>?_) (nc g15)
      refine dH 11 rfl (fun _=>pF 1) (fun _=>?_) (nc g15)
      refine dH 12 rfl (fun _=>pL) (fun _=>?_) (nc g15)
      refine dH 13 rfl (fun _=>pM) (fun _=>?_) (nc g15)
      obtain⟨z16,hz17,b18⟩:=t9 (xs:=vs) (n:=(m:Int)) (by omega) (by omega)
      refine dH 14 rfl (fun _=>w8 (by kernel_rfl) rfl rfl b18 hz17) (fun _=>?_) (nc g15)
      refine dH 15 rfl (fun _=>t7 (by kernel_rfl) rfl rfl) (fun _=>?_) (nc g15)
      refine dH 16 rfl (fun _=>pB) (fun _=>?_) (nc g15)
      refine dT 17 rfl (H8 rfl g15 rfl) ?_
      refine dE ?_
      refine j9 rfl (fun h19=>?_) (fun h19=>?_)
      ·
       have h19':=j8 h19
       refine w9<|rM ?_
       refine rA ?_
       refine rA<|c9 ?_
       refine Q1 6 2 7 rfl rfl rfl rfl ?_
       refine tk Tryz.func119 (.tmp rfl (.tmp rfl .nil)) ?_ (hL:=⟨E7 ?_,trivial⟩) <;>(try clear ih0)
       all_goals(first | (exfalso;have e9:=hv (by omega);omega) | (have e:w5 (r,ts) (r2,vs) b=_:=(by exact vZ (by omega) (mU i3 (hZ hz5 hz17 rfl rfl) (xK (by omega) hz13 (by omega) (by omega)))));(rw [e];done))
      ·
       have h19':=l8 h19
       refine m9<|l9<|rM ?_
       refine rM ?_
       refine rF 1 ?_
       refine rL ?_
       refine rM ?_
       refine d9 (P9 rfl (by kernel_rfl) rfl rfl b18 hz17) ?_
       refine d9 (c8 rfl (by kernel_rfl) rfl rfl) ?_
       refine d9 (t8 rfl (by kernel_rfl) rfl rfl rfl b14 (f8 b14 hz13)) ?_
       refine d9 (D8 z16 (n:=1) (by kernel_rfl) rfl rfl hz13 rfl rfl rfl rfl (.cons .sc .nil) rfl (fun j h1 h2=>by(simp at h1 h2;omega))) ?_
       refine c9<|i9<|l9<|rM ?_
       refine rB ?_
       refine rA<|c9 ?_
       refine n8 ?_ (ih0 (m + 1,q.set z4.toNat z16) (by(try dsimp only);omega) (by(try dsimp only);exact⟨by omega,(by(rw [List.length_set];exact i2)),by(exact AZ i3 (hZ hz5 hz17 rfl rfl) (yR (by omega) hz13 (by omega)))⟩))
       exact⟨⟨rfl,⟨rfl,⟨rfl,⟨(i6 (s8 (by omega) (by omega))),trivial⟩⟩⟩⟩,⟨rfl,⟨rfl,⟨rfl,trivial⟩⟩⟩,rfl⟩
     ·
      have g15':=l8 g15
      refine dG 8 (C9 g15) (fun _=>?_)
      refine dG 9 (C9 g15) (fun _=>?_)
      refine dG 10 (C9 g15) (fun _=>?_)
      refine dG 11 (C9 g15) (fun _=>?_)
      refine dG 12 (C9 g15) (fun _=>?_)
      refine dG 13 (C9 g15) (fun _=>?_)
      refine dG 14 (C9 g15) (fun _=>?_)
      refine dG 15 (C9 g15) (fun _=>?_)
      refine dG 16 (C9 g15) (fun _=>?_)
      refine dT 17 rfl (o8 rfl g15 rfl) ?_
      refine dE ?_
      refine j9 rfl (C9 rfl) (fun _=>?_)
      refine m9<|l9<|rM ?_
      refine rM ?_
      refine rF 1 ?_
      refine rL ?_
      refine rM ?_
      obtain⟨z20,hz21,b22⟩:=t9 (xs:=vs) (n:=(m:Int)) (by omega) (by omega)
      refine d9 (P9 rfl (by kernel_rfl) rfl rfl b22 hz21) ?_
      refine d9 (c8 rfl (by kernel_rfl) rfl rfl) ?_
      refine d9 (t8 rfl (by kernel_rfl) rfl rfl rfl b14 (f8 b14 hz13)) ?_
      refine d9 (D8 z20 (n:=1) (by kernel_rfl) rfl rfl hz13 rfl rfl rfl rfl (.cons .sc .nil) rfl (fun j h1 h2=>by(simp at h1 h2;omega))) ?_
      refine c9<|i9<|l9<|rM ?_
      refine rB ?_
      refine rA<|c9 ?_
      refine n8 ?_ (ih0 (m + 1,q.set z4.toNat z20) (by(try dsimp only);omega) (by(try dsimp only);exact⟨by omega,(by(rw [List.length_set];exact i2)),by(exact AZ i3 (hZ hz5 hz21 rfl rfl) (yR (by omega) hz13 (by omega)))⟩))
      exact⟨⟨rfl,⟨rfl,⟨rfl,⟨(i6 (s8 (by omega) (by omega))),trivial⟩⟩⟩⟩,⟨rfl,⟨rfl,⟨rfl,trivial⟩⟩⟩,rfl⟩
   ·
    have h3':=l8 h3
    refine R9 rfl<|w9<|rM ?_
    refine rA ?_
    refine rA<|c9 ?_
    refine Q1 6 2 7 rfl rfl rfl rfl ?_
    refine tk Tryz.func119 (.tmp rfl (.tmp rfl .nil)) ?_ (hL:=⟨E7 ?_,trivial⟩) <;>(try clear ih0)
    all_goals(first | (exfalso;have e9:=hv (by omega);omega) | (have e:w5 (r,ts) (r2,vs) b=_:=(by exact vZ (by omega) (AO i3 (by omega))));(rw [e];done))
 ·
  have g1':=j8 g1
  refine x9 (nc g1) (fun _=>?_)
  refine x9 (nc g1) (fun _=>?_)
  refine x9 (nc g1) (fun _=>?_)
  refine x9 (nc g1) (fun _=>?_)
  refine x9 (nc g1) (fun _=>?_)
  refine x9 (nc g1) (fun _=>?_)
  refine d9 (M9 rfl rfl g1 rfl) ?_
  refine c9 ?_
  refine j9 rfl (fun _=>?_) (nc rfl)
  refine w9<|rM ?_
  refine rA ?_
  refine rA<|c9 ?_
  refine Q1 6 2 7 rfl rfl rfl rfl ?_
  refine tk Tryz.func119 (.tmp rfl (.tmp rfl .nil)) ?_ (hL:=⟨E7 ?_,trivial⟩) <;>(try clear ih0)
  all_goals(first | (exfalso;have e9:=hv (by omega);omega) | (have e:w5 (r,ts) (r2,vs) b=_:=(by exact sO (by omega)));first | (rw [e];done) | (rw [e];rfl))
theorem vV:∀(n:Nat) (rs:V9) (fs l:p9) (k:Int) (b:List Int) (hf:fs.length≤30) (hl:l.length≤3) (hb:b.length=5) (hv:∀a∈l,∀f∈fs,a.1=f.1→a.2.length=f.2.length) (ht:∀a∈l,(∀t∈a.2, -10≤t∧t≤4)∧a.2.length≤4611686018427387904) (hk:0≤k∧k≤l.length) (hn:l.length - k.toNat=n),Pu Tryz.prog 83 [.agg [.t none (.sl 3 (d8 Z9 f9 a8) rs),.t none (.sl 2 (E9 f9 (B9 1 f9)) fs)],.c (.t none (.sl 2 (E9 f9 (B9 1 f9)) l)),.c (.t none (.v (.int .i64 k))),.c (.t none (.sl 1 f9 b))] [(0,some (.row none 31 true 1 (B9 1 f9) (v8 fs (l.drop k.toNat) b)))] 1 (.c (.own 0)):=by
 refine bO fun n ih=>?_
 intro rs fs l k b hf hl hb hv ht hk hn
 have rec_:∀(rs:V9) (fs l:p9) (k:Int) (b:List Int) (hdec:l.length - k.toNat < n) (hf:fs.length≤30) (hl:l.length≤3) (hb:b.length=5) (hv:∀a∈l,∀f∈fs,a.1=f.1→a.2.length=f.2.length) (ht:∀a∈l,(∀t∈a.2, -10≤t∧t≤4)∧a.2.length≤4611686018427387904) (hk:0≤k∧k≤l.length),Pu Tryz.prog 83 [.agg [.t none (.sl 3 (d8 Z9 f9 a8) rs),.t none (.sl 2 (E9 f9 (B9 1 f9)) fs)],.c (.t none (.sl 2 (E9 f9 (B9 1 f9)) l)),.c (.t none (.v (.int .i64 k))),.c (.t none (.sl 1 f9 b))] [(0,some (.row none 31 true 1 (B9 1 f9) (v8 fs (l.drop k.toNat) b)))] 1 (.c (.own 0)):=fun rs fs l k b hdec hf hl hb hv ht hk=>ih _ hdec rs fs l k b hf hl hb hv ht hk rfl
 refine u6 Tryz.func83 fun w S=>?_
 refine w9 ?_
 refine d9 (X9 0 rfl rfl rfl rfl) ?_
 refine rA<|c9<|k9<|w9 ?_
 refine rM ?_
 refine rM ?_
 refine d9 (S9 rfl rfl rfl) ?_
 refine rB<|c9 ?_
 refine j9 rfl (fun h1=>?_) (fun h1=>?_)
 ·
  have h1':=j8 h1
  refine w9 ?_
  refine d9 (C7 1 (e:=3) (sz:=1) (zs:=[.int .i64 0]) f9 rfl rfl (by kernel_rfl) rfl) ?_
  refine rM ?_
  refine d9 (a7 1 (e:=3) (sz:=1) (by':=8) rfl (by kernel_rfl) rfl rfl rfl rfl (fun _ _=>⟨_,rfl⟩) (by(simp;omega)) (by(simp;omega))) ?_
  refine d9 (wK 2 (e:=31) (sz:=1) (zs:=[.slice none 0 0]) (enc:=(B9 1 f9)) (([])++b) rfl rfl (by kernel_rfl) rfl rfl rfl rfl rfl rfl (.take (.own rfl) rfl .nil) rfl) ?_
  refine rA<|c9 ?_
  refine UY 8 2 rfl rfl ?_
  refine tk Tryz.func83 (.tmp rfl .nil) ?_ (hL:=⟨E7 ?_,trivial⟩) <;>(try clear ih0)
  all_goals first | rfl | ((exact(lK (by assumption)).symm))
 ·
  have h1':=l8 h1
  refine m9<|w9 ?_
  refine d9 (C7 1 (e:=31) (sz:=1) (zs:=[.slice none 0 0]) (B9 1 f9) rfl rfl (by kernel_rfl) rfl) ?_
  refine rA<|c9<|k9<|w9 ?_
  refine rA<|c9<|r9 ?_
  refine L9 (fun m=>⟨[(1,some (.c (.t none (.sl 2 (E9 f9 (B9 1 f9)) l)))),(2,some (.c (.t none (.v (.int .i64 k))))),(3,some (.c (.t none (.sl 1 f9 b)))),(4,some (.c (.ptr 0 0))),(8,some (.c (.t none (.v (.slice none 0 0))))),(9,some (.c (.own 1))),(10,some (.c (.t none (.v (.int .i64 ((m:Int)))))))],[(0,some (.box [.t none (.sl 3 (d8 Z9 f9 a8) rs),.t none (.sl 2 (E9 f9 (B9 1 f9)) fs)])),(1,some (.row none 31 true 1 (B9 1 f9) (P6 fs (l.drop k.toNat) b m)))],2⟩:Nat→St) (fun m=>m≤fs.length) (fun m=>fs.length - m) 0 ⟨⟨rfl,⟨rfl,⟨rfl,⟨rfl,⟨rfl,⟨rfl,⟨rfl,trivial⟩⟩⟩⟩⟩⟩⟩,⟨rfl,⟨(E7 (jH (by assumption) hk).symm),trivial⟩⟩,rfl⟩ (by exact Nat.zero_le _) ?_
  rintro m hI ih0
  try dsimp only at hI ih0
  have i1:=hI
  refine k9<|w9<|rM ?_
  refine rF 1 ?_
  refine rL ?_
  refine d9 (S9 rfl rfl rfl) ?_
  refine rB<|c9 ?_
  refine j9 rfl (fun h2=>?_) (fun h2=>?_)
  ·
   have h2':=j8 h2
   refine m9<|k9<|r9<|k9 ?_
   refine tY ?_
   refine dT 0 rfl pM ?_
   refine dT 1 rfl pM ?_
   obtain⟨z3,hz4,b5⟩:=t9 (xs:=l) (n:=k) (by omega) (by omega)
   refine dT 2 rfl (w8 (by kernel_rfl) rfl rfl b5 hz4) ?_
   refine dT 3 rfl (p6 (n:=2) (by kernel_rfl) (by kernel_rfl) rfl rfl) ?_
   refine dT 4 rfl (pF 1) ?_
   refine dT 5 rfl pL ?_
   refine dT 6 rfl pM ?_
   obtain⟨z6,hz7,b8⟩:=t9 (xs:=fs) (n:=(m:Int)) (by omega) (by omega)
   refine dT 7 rfl (w8 (by kernel_rfl) rfl rfl b8 hz7) ?_
   refine dT 8 rfl (p6 (n:=2) (by kernel_rfl) (by kernel_rfl) rfl rfl) ?_
   refine dT 9 rfl pM ?_
   refine dO 10 rfl (n9 2 3 false (N9 Tryz.func119) (HT b z3.1 z3.2 z6.1 z6.2 (by omega) (by exact(ht _ (J8 (by assumption))).2) (by exact(ht _ (J8 (by assumption))).1) (by exact hv _ (J8 (by assumption)) _ (J8 (by assumption)))) rfl (.cons rfl (.agg (.cons .t0 (.cons .t0 .nil))) (.cons rfl (.agg (.cons .t0 (.cons .t0 .nil))) (.cons rfl (.c .t0) .nil))) rfl rfl rfl) ?_
   refine dT 11 rfl pM ?_
   refine dT 12 rfl (G4 rfl rfl rfl) ?_
   refine dT 13 rfl (G4 rfl rfl rfl) ?_
   refine dT 14 rfl pA ?_
   refine dT 15 rfl pA ?_
   refine dE ?_
   refine w9<|rM<|c9 ?_
   refine j9 rfl (fun h9=>?_) (fun h9=>?_)
   ·
    have h9':=h9
    refine l9<|rM ?_
    refine rC 2 ?_
    refine rM ?_
    refine rM ?_
    refine rB ?_
    refine rM ?_
    refine d9 (n9 3 4 false (N9 Tryz.func83) (rec_ rs fs l (IntKind.i64.wrap (k + 1)) ((w5 (z3.1,z3.2) (z6.1,z6.2) b).1) (by(rw [s8 (by omega) (by omega)];omega)) (by omega) (by omega) (by exact(AU _ _ _).trans hb) (by omega) (by omega) (by(rw [s8 (by omega) (by omega)];omega))) rfl (.cons rfl (.agg (.cons .t0 (.cons .t0 .nil))) (.cons rfl (.c .t0) (.cons rfl (.c .t0) (.cons rfl (.c (.own rfl)) .nil)))) rfl rfl rfl) ?_
    refine d9 (HS 1 (e:=31) (sz:=1) (by':=24) rfl (by kernel_rfl) rfl rfl rfl rfl rfl rfl (by(refine Nat.le_trans (Nat.mul_le_mul_right _ (DL hf hl (by assumption) hk (by simp only [List.length_drop];omega))) (by decide))) (by exact Nat.le_trans (DL hf hl (by assumption) hk (by simp only [List.length_drop];omega)) (by decide))) ?_
    refine rA<|c9<|i9<|l9 ?_
    refine rM ?_
    refine rB ?_
    refine rA<|c9 ?_
    refine n8 ?_ (ih0 (m + 1) (by(try dsimp only);omega) (by(try dsimp only);omega))
    exact⟨⟨rfl,⟨rfl,⟨rfl,⟨rfl,⟨rfl,⟨rfl,⟨(i6 (s8 (by omega) (by omega))),trivial⟩⟩⟩⟩⟩⟩⟩,⟨rfl,⟨(E7 (by exact SM hz4 hz7 rfl (by assumption) (by rw [s8 (by omega) (by omega)];omega) rfl)),trivial⟩⟩,rfl⟩
   ·
    have h9':=h9
    refine m9<|i9<|l9<|rM ?_
    refine rB ?_
    refine rA<|c9 ?_
    refine n8 ?_ (ih0 (m + 1) (by(try dsimp only);omega) (by(try dsimp only);omega))
    exact⟨⟨rfl,⟨rfl,⟨rfl,⟨rfl,⟨rfl,⟨rfl,⟨(i6 (s8 (by omega) (by omega))),trivial⟩⟩⟩⟩⟩⟩⟩,⟨rfl,⟨(E7 (by exact kJ hz4 hz7 rfl (by assumption))),trivial⟩⟩,rfl⟩
  ·
   have h2':=l8 h2
   refine R9 rfl<|w9<|rM ?_
   refine rA<|c9 ?_
   refine UY 8 1 rfl rfl ?_
   refine tk Tryz.func83 (.tmp rfl .nil) ?_ (hL:=⟨E7 ?_,trivial⟩) <;>(try clear ih0)
   all_goals first | rfl | ((exact pT (BR (by assumption) hk) (by omega)))
theorem mY (rs:V9)(fs l:p9)(k:Int)(b:List Int)(hf:fs.length≤30)(hl:l.length≤3)(hb:b.length=5)(hv:∀a∈l,∀f∈fs,a.1=f.1→a.2.length=f.2.length)(ht:∀a∈l,(∀t∈a.2, -10≤t∧t≤4)∧a.2.length≤4611686018427387904)(hk:0≤k∧k≤l.length):Pu Tryz.prog 83 [.agg [.t none (.sl 3 (d8 Z9 f9 a8) rs),.t none (.sl 2 (E9 f9 (B9 1 f9)) fs)],.c (.t none (.sl 2 (E9 f9 (B9 1 f9)) l)),.c (.t none (.v (.int .i64 k))),.c (.t none (.sl 1 f9 b))] [(0,some (.row none 31 true 1 (B9 1 f9) (v8 fs (l.drop k.toNat) b)))] 1 (.c (.own 0)):=vV _ rs fs l k b hf hl hb hv ht hk rfl
theorem T0 (rs:V9)(fs l:p9)(hrs:rs.length≤4611686018427387904)(hfs:l7 (fun(x:Int ×(List Int))=>x.2.length) fs≤1048576)(hll:l7 (fun(x:Int ×(List Int))=>x.2.length) l≤1048576)(ho:∀z∈fs,∀x∈z.2,s7 x):Pu Tryz.prog 58 [.agg [.t none (.sl 3 (d8 Z9 f9 a8) rs),.t none (.sl 2 (E9 f9 (B9 1 f9)) fs)],.c (.t none (.sl 2 (E9 f9 (B9 1 f9)) l))] [(1,some (.row none 31 true 1 (B9 1 f9) (V6 rs fs l)))] 2 (.c (.own 1)):=by
 refine u6 Tryz.func58 fun w S=>?_
 refine w9 ?_
 refine d9 (X9 0 rfl rfl rfl rfl) ?_
 refine rA<|o7 ?_
 refine d9 (C7 1 (e:=31) (sz:=1) (zs:=[.slice none 0 0]) (B9 1 f9) rfl rfl (by kernel_rfl) rfl) ?_
 refine rA<|c9<|k9<|w9 ?_
 refine rC 2 ?_
 refine rM ?_
 refine d9 (n9 2 2 false (N9 Tryz.func82) (vW rs fs l (by omega) (by omega) (by omega) (by omega)) rfl (.cons rfl (.agg (.cons .t0 (.cons .t0 .nil))) (.cons rfl (.c .t0) .nil)) rfl rfl rfl) ?_
 refine d9 (Q8 rfl rfl) ?_
 refine c9 ?_
 refine j9 rfl (fun h1=>?_) (fun h1=>?_)
 ·
  have h1':=(P4 h1)
  refine w9<|rM ?_
  refine rA<|c9 ?_
  refine tk Tryz.func58 (.tmp rfl .nil) ?_ (hL:=⟨E7 ?_,trivial⟩) <;>(try clear ih0) <;>(try clear ih1)
  all_goals first | rfl | ((exact UL (by simp_all;done)))
 ·
  have h1':=(O4 h1)
  refine m9<|k9 ?_
  refine tY ?_
  refine dT 0 rfl (pC 2) ?_
  refine dT 1 rfl pM ?_
  refine dO 2 rfl (n9 2 3 false (N9 Tryz.func108) (SV) rfl .nil rfl rfl rfl) ?_
  refine dO 3 rfl (n9 3 4 false (N9 Tryz.func83) (mY rs fs l 0 l6 (by exact(M3 (by assumption)).1) (by exact(M3 (by assumption)).2.1) (by rfl) (by exact(M3 (by assumption)).2.2.1) (by exact(M3 (by assumption)).2.2.2) (by omega)) rfl (.cons rfl (.agg (.cons .t0 (.cons .t0 .nil))) (.cons rfl (.c .t0) (.cons rfl (.c .t0) (.cons rfl (.c (.own rfl)) .nil)))) rfl rfl rfl) ?_
  refine dT 4 rfl pA ?_
  refine dE ?_
  refine k9<|w9<|rA<|c9<|r9 ?_
  refine NL 3 rfl ?_
  refine L9 (fun(vs,m)=>⟨[(4,some (.c (.t none (.v (.slice none 0 0))))),(5,some (.c (.own 1))),(6,some (.c (.own 3))),(7,some (.c (.t none (.v (.int .i64 ((m:Int)))))))],[(0,some (.box [.t none (.sl 3 (d8 Z9 f9 a8) rs),.t none (.sl 2 (E9 f9 (B9 1 f9)) fs)])),(1,some (.row none 31 true 1 (B9 1 f9) (Y3 ((v8 fs l l6).take m)))),(2,some (.row none 3 true 1 f9 l6)),(3,some (.row none 31 true 1 (fQ (B9 1 f9)) (dP vs (v8 fs l l6))))],4⟩:List Value × Nat→St) (fun(vs,m)=>vs.length=m∧m≤(v8 fs l l6).length) (fun(vs,m)=>(v8 fs l l6).length - m) ([],0) ⟨⟨rfl,⟨rfl,⟨rfl,⟨rfl,trivial⟩⟩⟩⟩,⟨rfl,⟨rfl,⟨rfl,⟨rfl,trivial⟩⟩⟩⟩,rfl⟩ (by exact⟨rfl,Nat.zero_le _⟩) ?_
  rintro⟨vs,m⟩ hI ih0
  try dsimp only at hI ih0
  obtain⟨i0,i1⟩:=hI;have mp:=M3 (rs:=rs) (fs:=fs) (l:=l) (by assumption);have dr:=pK (m:=m) mp.1 mp.2.1;have tl:=PS (vs:=vs) (L:=v8 fs l l6) (by omega);have mm:=Y2 mp.1 mp.2.1 l6
  refine k9<|w9<|rM ?_
  refine rM ?_
  refine d9 (M7 rfl rfl rfl rfl) ?_
  refine rB<|c9 ?_
  refine j9 rfl (fun h2=>?_) (fun h2=>?_)
  ·
   have h2':=j8 h2
   refine m9<|k9<|r9<|k9 ?_
   obtain⟨z3,hz4,b5⟩:=t9 (xs:=v8 fs l l6) (n:=(m:Int)) (by omega) (by omega)
   refine UQ 4 3 rfl rfl (WK (by omega) hz4) fun e6 v7=>?_
   refine l9<|rA<|c9<|k9<|w9 ?_
   refine rA<|c9<|r9 ?_
   refine L9 (fun n=>⟨[(4,some (.c (.t none (.v (.slice none 0 0))))),(5,some (.c (.own 1))),(6,some (.c (.own 3))),(7,some (.c (.t none (.v (.int .i64 ((m:Int))))))),(8,some (.c (.t none (.v (.bool (iY ((Y3 ((v8 fs l l6).take m)).take n) z3)))))),(9,some (.c (.t none (.v (.int .i64 ((n:Int)))))))],[(0,some (.box [.t none (.sl 3 (d8 Z9 f9 a8) rs),.t none (.sl 2 (E9 f9 (B9 1 f9)) fs)])),(1,some (.row none 31 true 1 (B9 1 f9) (Y3 ((v8 fs l l6).take m)))),(2,some (.row none 3 true 1 f9 l6)),(3,some (.row none 31 true 1 (fQ (B9 1 f9)) ((dP vs (v8 fs l l6)).set (m:Int).toNat (.inl v7)))),(4,some (.row (some v7) e6 true 1 f9 z3))],5⟩:Nat→St) (fun n=>n≤(Y3 ((v8 fs l l6).take m)).length) (fun n=>(Y3 ((v8 fs l l6).take m)).length - n) 0 ⟨⟨rfl,⟨rfl,⟨rfl,⟨rfl,⟨(iH jM.symm),⟨rfl,trivial⟩⟩⟩⟩⟩⟩,⟨rfl,⟨rfl,⟨rfl,⟨rfl,⟨rfl,trivial⟩⟩⟩⟩⟩,rfl⟩ (by exact Nat.zero_le _) ?_
   rintro n hI ih1
   try dsimp only at hI ih1
   have j1:=hI
   refine k9<|w9<|rM ?_
   refine rM ?_
   refine d9 (M7 rfl rfl rfl rfl) ?_
   refine rB<|c9 ?_
   refine j9 rfl (fun h8=>?_) (fun h8=>?_)
   ·
    have h8':=j8 h8
    refine m9<|k9<|r9 ?_
    refine tY ?_
    refine dT 0 rfl pM ?_
    refine dT 1 rfl pM ?_
    refine dH 2 rfl (fun _=>pM) (fun g9=>?_) (fun g9=>?_)
    ·
     have g9':=g9
     refine dH 3 rfl (fun _=>pM) (fun _=>?_) (C9 g9)
     obtain⟨z10,hz11,b12⟩:=t9 (xs:=Y3 ((v8 fs l l6).take m)) (n:=(n:Int)) (by omega) (by omega)
     refine dH 4 rfl (fun _=>T9 (by kernel_rfl) rfl rfl rfl b12 (f8 b12 hz11)) (fun _=>?_) (C9 g9)
     refine dH 5 rfl (fun _=>E8 (by kernel_rfl) rfl rfl rfl hz11) (fun _=>?_) (C9 g9)
     refine dH 6 rfl (fun _=>pM) (fun _=>?_) (C9 g9)
     refine dH 7 rfl (fun _=>pM) (fun _=>?_) (C9 g9)
     obtain⟨z13,hz14,b15⟩:=t9 (xs:=(dP vs (v8 fs l l6)).set (m:Int).toNat (.inl v7)) (n:=(m:Int)) (by omega) (by(rw [List.length_set];omega))
     refine dH 8 rfl (fun _=>T9 (by kernel_rfl) rfl rfl rfl b15 (f8 b15 hz14)) (fun _=>?_) (C9 g9)
     refine dH 9 rfl (fun _=>qV (k:=4) (o:=0) (by kernel_rfl) rfl rfl (QS (by omega) (by omega)) rfl) (fun _=>?_) (C9 g9)
     refine s6 10 rfl rfl (by kernel_rfl) rfl rfl rfl (fun _=>(n9 5 5 false (N9 Tryz.func80) (DX z10 z3 (by(have e5:=gL (J8 (by assumption));omega)) (by(have e5:=dZ fs l l6 _ (J8 (by assumption));have e6:l6.length=5:=rfl;omega))) rfl (.cons rfl (.c .t1) (.cons rfl (.c (.own rfl)) .nil)) rfl rfl rfl)) (fun _=>?_) (C9 g9)
     refine dH 11 rfl (fun _=>pB) (fun _=>?_) (C9 g9)
     refine dT 12 rfl (o8 rfl g9 rfl) ?_
     refine dT 13 rfl pA ?_
     refine dE ?_
     refine i9<|l9<|rM ?_
     refine rB ?_
     refine rA<|c9 ?_
     refine n8 ?_ (ih1 (n + 1) (by(try dsimp only);omega) (by(try dsimp only);omega))
     exact⟨⟨rfl,⟨rfl,⟨rfl,⟨rfl,⟨(iH (by exact QK (by assumption) hz11 rfl)),⟨(i6 (s8 (by omega) (by omega))),trivial⟩⟩⟩⟩⟩⟩,⟨rfl,⟨rfl,⟨rfl,⟨rfl,⟨rfl,trivial⟩⟩⟩⟩⟩,rfl⟩
    ·
     have g9':=g9
     refine dG 3 (nc g9) (fun _=>?_)
     refine dG 4 (nc g9) (fun _=>?_)
     refine dG 5 (nc g9) (fun _=>?_)
     refine dG 6 (nc g9) (fun _=>?_)
     refine dG 7 (nc g9) (fun _=>?_)
     refine dG 8 (nc g9) (fun _=>?_)
     refine dG 9 (nc g9) (fun _=>?_)
     refine dG 10 (nc g9) (fun _=>?_)
     refine dG 11 (nc g9) (fun _=>?_)
     refine dT 12 rfl (H8 rfl g9 rfl) ?_
     refine dT 13 rfl pA ?_
     refine dE ?_
     refine i9<|l9<|rM ?_
     refine rB ?_
     refine rA<|c9 ?_
     refine n8 ?_ (ih1 (n + 1) (by(try dsimp only);omega) (by(try dsimp only);omega))
     exact⟨⟨rfl,⟨rfl,⟨rfl,⟨rfl,⟨(iH (by exact WN (by assumption))),⟨(i6 (s8 (by omega) (by omega))),trivial⟩⟩⟩⟩⟩⟩,⟨rfl,⟨rfl,⟨rfl,⟨rfl,⟨rfl,trivial⟩⟩⟩⟩⟩,rfl⟩
   ·
    have h8':=l8 h8
    refine R9 rfl<|w9<|rM ?_
    refine d9 (Q8 rfl rfl) ?_
    refine c9 ?_
    refine j9 rfl (fun h16=>?_) (fun h16=>?_)
    ·
     have h16':=(P4 h16)
     refine l9<|rM ?_
     refine rM ?_
     refine rM ?_
     obtain⟨z17,hz18,b19⟩:=t9 (xs:=(dP vs (v8 fs l l6)).set (m:Int).toNat (.inl v7)) (n:=(m:Int)) (by omega) (by(rw [List.length_set];omega))
     refine d9 (t8 rfl (by kernel_rfl) rfl rfl rfl b19 (f8 b19 hz18)) ?_
     refine d9 (ES rfl (k:=4) (o:=0) (by kernel_rfl) rfl rfl (QS (by omega) (by omega)) rfl) ?_
     refine d9 (G8 5 (e:=31) (sz:=1) (zs:=[.slice none 0 0]) rfl rfl (by kernel_rfl) rfl rfl rfl rfl rfl) ?_
     refine d9 (i8 1 (e:=31) (sz:=1) (by':=24) z3 rfl (by kernel_rfl) rfl rfl rfl rfl rfl rfl (.take (.own rfl) rfl .nil) rfl (by omega) (by omega)) ?_
     refine rA<|c9<|i9<|l9 ?_
     refine rM ?_
     refine rB ?_
     refine rA<|c9 ?_
     have he:=PR (q:=Y3 ((v8 fs l l6).take m)) (x:=z3) (k:=n) (by omega)
     refine n8 ?_ (ih0 (vs++[v7],m + 1) (by(try dsimp only);omega) (by(try dsimp only);exact⟨by simp;omega,by omega⟩))
     exact⟨⟨rfl,⟨rfl,⟨rfl,⟨(i6 (s8 (by omega) (by omega))),trivial⟩⟩⟩⟩,⟨rfl,⟨(E7 (by exact(LL hz4 rfl (he.symm.trans (by assumption))).symm)),⟨rfl,⟨(E7 (eU i0 (by omega))),trivial⟩⟩⟩⟩,rfl⟩
    ·
     have h16':=(O4 h16)
     refine m9<|i9<|l9<|rM ?_
     refine rB ?_
     refine rA<|c9 ?_
     have he:=PR (q:=Y3 ((v8 fs l l6).take m)) (x:=z3) (k:=n) (by omega)
     refine n8 ?_ (ih0 (vs++[v7],m + 1) (by(try dsimp only);omega) (by(try dsimp only);exact⟨by simp;omega,by omega⟩))
     exact⟨⟨rfl,⟨rfl,⟨rfl,⟨(i6 (s8 (by omega) (by omega))),trivial⟩⟩⟩⟩,⟨rfl,⟨(E7 (by exact(EK hz4 rfl (he.symm.trans (by assumption))).symm)),⟨rfl,⟨(E7 (eU i0 (by omega))),trivial⟩⟩⟩⟩,rfl⟩
  ·
   have h2':=l8 h2
   refine R9 rfl<|w9<|rM ?_
   refine rA<|c9 ?_
   refine tk Tryz.func58 (.tmp rfl .nil) ?_ (hL:=⟨E7 ?_,trivial⟩) <;>(try clear ih0) <;>(try clear ih1)
   all_goals first | rfl | ((exact BN (by assumption) (by omega)))
def kY:Option (List Int)→List (Nat × Option Ob)
 | none=>[]
 | some q=>[(3,some (.row none 3 true 1 f9 q))]
def WZ (r:Int) (ts:List Int) (b:List Int):Option (List Int)→AV
 | none=> .tup [(true,[.t none (.v (.int .i64 0)),.t none (.v (.slice none 0 0))]),(false,[.t none (.v (.bool false))])]
 | some q=> .tup [(true,[.t none (.v (.int .i64 r)),.own 3]),(false,[.t none (.v (.bool true))])]
theorem U5 (r:Int)(ts:List Int)(b:List Int)(hl:ts.length≤1048576)(ho:∀x∈ts,s7 x)(hob:∀x∈b,s7 x)(mo:Option (List Int))(hm:Y8 b ts=mo):Pu Tryz.prog 34 [.agg [.t none (.v (.int .i64 r)),.t none (.sl 1 f9 ts)],.c (.t none (.sl 1 f9 b))] (kY mo) 4 (WZ r ts b mo):=by
 refine u6 Tryz.func34 fun w S=>?_
 refine w9 ?_
 refine d9 (X9 0 rfl rfl rfl rfl) ?_
 refine d9 (I9 1 (zs:=[.int .i64 0,.slice none 0 0]) rfl rfl (by kernel_rfl) rfl) ?_
 refine rA<|o7 ?_
 refine rF 0 ?_
 refine rL ?_
 refine d9 (oD [(0,1),(1,1)] [.int .i64 0,.slice none 0 0]) ?_
 refine d9 (I9 2 (zs:=[.int .i64 0,.slice none 0 0]) rfl rfl (by kernel_rfl) rfl) ?_
 refine rS 2<|c9<|k9<|w9 ?_
 refine rA<|c9<|r9 ?_
 refine I6 3 (b:=2) (o:=1) (et:=3) (sz:=1) true f9 rfl rfl rfl ?_
 refine L9 (fun(m,acc)=>⟨[(1,some (.c (.t none (.sl 1 f9 b)))),(2,some (.c (.ptr 0 0))),(4,some (.c (.ptr 1 0))),(6,some (.c (.ptr 2 0))),(7,some (.c (.t none (.v (.int .i64 ((m:Int)))))))],[(0,some (.box [.t none (.v (.int .i64 r)),.t none (.sl 1 f9 ts)])),(1,some (.box [.t none (.v (.int .i64 0)),.t none (.v (.slice none 0 0))])),(2,some (.box [.t none (.v (.int .i64 r)),.own 3])),(3,some (.row none 3 true 1 f9 acc))],4⟩:Nat × List Int→St) (fun(m,acc)=>m≤ts.length∧Y8 b (ts.take m)=some acc) (fun(m,acc)=>ts.length - m) (0,[]) ⟨⟨rfl,⟨rfl,⟨rfl,⟨rfl,⟨rfl,trivial⟩⟩⟩⟩⟩,⟨rfl,⟨rfl,⟨rfl,⟨rfl,trivial⟩⟩⟩⟩,rfl⟩ (by exact⟨Nat.zero_le _,rfl⟩) ?_
 rintro⟨m,acc⟩ hI ih0
 try dsimp only at hI ih0
 obtain⟨i1,i2⟩:=hI
 refine k9<|w9<|rM ?_
 refine rF 1 ?_
 refine rL ?_
 refine d9 (S9 rfl rfl rfl) ?_
 refine rB<|c9 ?_
 refine j9 rfl (fun h1=>?_) (fun h1=>?_)
 ·
  have h1':=j8 h1
  refine m9<|k9<|r9<|w9<|rF 1 ?_
  refine rL ?_
  refine rM ?_
  obtain⟨z2,hz3,b4⟩:=t9 (xs:=ts) (n:=(m:Int)) (by omega) (by omega)
  refine d9 (P9 rfl (by kernel_rfl) rfl rfl b4 hz3) ?_
  refine d9 (c8 rfl (by kernel_rfl) rfl rfl) ?_
  refine rB ?_
  refine rA<|c9<|k9<|w9 ?_
  refine rF 1 ?_
  refine rL ?_
  refine rM ?_
  refine d9 (P9 rfl (by kernel_rfl) rfl rfl b4 hz3) ?_
  refine d9 (c8 rfl (by kernel_rfl) rfl rfl) ?_
  refine rB<|c9 ?_
  refine j9 rfl (fun h5=>?_) (fun h5=>?_)
  ·
   have h5':=j8 h5
   refine k9<|w9<|rF 1 ?_
   refine rL ?_
   refine rM ?_
   refine d9 (P9 rfl (by kernel_rfl) rfl rfl b4 hz3) ?_
   refine d9 (c8 rfl (by kernel_rfl) rfl rfl) ?_
   refine rM ?_
   refine d9 (S9 rfl rfl rfl) ?_
   refine rB<|c9 ?_
   refine j9 rfl (fun h6=>?_) (fun h6=>?_)
   ·
    have h6':=j8 h6
    refine w9 ?_
    refine d9 (oD [(0,1),(1,1)] [.int .i64 0,.slice none 0 0]) ?_
    refine rS 2 ?_
    refine rA<|c9 ?_
    refine uZ Tryz.func34 (r8 2 (.tmp rfl .nil)) rfl fun E S w u hI hd=>?_
    obtain rfl:mo=none:=by rw [← hm];exact Z1 i2 (by assumption) rfl (KQ (by assumption) (by assumption))
    refine P3 hI hd ?_ trivial rfl rfl rfl <;> clear hI hd <;>(try clear ih0)
    all_goals rfl
   ·
    have h6':=l8 h6
    refine m9<|l9<|rM ?_
    refine rF 1 ?_
    refine rL ?_
    refine rM ?_
    refine d9 (P9 rfl (by kernel_rfl) rfl rfl b4 hz3) ?_
    refine d9 (c8 rfl (by kernel_rfl) rfl rfl) ?_
    obtain⟨z7,hz8,b9⟩:=t9 (xs:=b) (n:=z2) (by omega) (by omega)
    refine d9 (P9 rfl (by kernel_rfl) rfl rfl b9 hz8) ?_
    refine d9 (c8 rfl (by kernel_rfl) rfl rfl) ?_
    refine rA<|c9<|k9<|w9 ?_
    refine rM ?_
    refine d9 (n9 4 4 false (N9 Tryz.func78) (F6 z7 (by exact(hob _ (J8 (by assumption))).1) (by exact(hob _ (J8 (by assumption))).2)) rfl (.cons rfl (.c .t0) .nil) rfl rfl rfl) ?_
    refine d9 (Q8 rfl rfl) ?_
    refine rM ?_
    refine x9 (fun g10=>?_) (fun g10=>?_)
    ·
     have g10':=j8 (O4 g10)
     refine rF 1 ?_
     refine x9 (fun _=>?_) (C9 g10)
     refine rL ?_
     refine x9 (fun _=>?_) (C9 g10)
     refine rM ?_
     refine x9 (fun _=>?_) (C9 g10)
     refine d9 (P9 rfl (by kernel_rfl) rfl rfl b4 hz3) ?_
     refine x9 (fun _=>?_) (C9 g10)
     refine d9 (c8 rfl (by kernel_rfl) rfl rfl) ?_
     refine x9 (fun _=>?_) (C9 g10)
     refine rB ?_
     refine x9 (fun _=>?_) (C9 g10)
     refine rM ?_
     refine x9 (fun g11=>?_) (fun g11=>?_)
     ·
      have g11':=j8 g11
      refine rM ?_
      refine x9 (fun _=>?_) (nc g11)
      refine rB ?_
      refine x9 (fun _=>?_) (C9 g10)
      refine d9 (M9 rfl rfl g11 rfl) ?_
      refine d9 (H9 rfl rfl g10 rfl) ?_
      refine c9 ?_
      refine j9 rfl (fun h12=>?_) (fun h12=>?_)
      ·
       have h12':=j8 h12
       refine w9 ?_
       refine d9 (oD [(0,1),(1,1)] [.int .i64 0,.slice none 0 0]) ?_
       refine rS 2 ?_
       refine rA<|c9 ?_
       refine uZ Tryz.func34 (r8 2 (.tmp rfl .nil)) rfl fun E S w u hI hd=>?_
       obtain rfl:mo=none:=by exfalso;have e:=ho _ (List.mem_of_getElem? (l:=ts) (by assumption));unfold s7 at e;simp only [IntKind.wrap_i64] at *;omega
       refine P3 hI hd ?_ trivial rfl rfl rfl <;> clear hI hd <;>(try clear ih0)
       all_goals rfl
      ·
       have h12':=l8 h12
       refine m9<|l9<|rF 1 ?_
       refine rL ?_
       refine rM ?_
       refine d9 (G8 4 (e:=3) (sz:=1) (zs:=[.int .i64 0]) rfl rfl (by kernel_rfl) rfl rfl rfl rfl rfl) ?_
       refine d9 (i8 3 (e:=3) (sz:=1) (by':=8) z7 rfl (by kernel_rfl) rfl rfl rfl rfl rfl rfl (.cons .sc .nil) rfl (by omega) (by omega)) ?_
       refine rF 1 ?_
       refine rS 1<|c9<|i9<|l9 ?_
       refine rM ?_
       refine rB ?_
       refine rA<|c9 ?_
       refine n8 ?_ (ih0 (m + 1,acc++[z7]) (by(try dsimp only);omega) (by(try dsimp only);exact⟨by omega,by exfalso;omega⟩))
       exact⟨⟨rfl,⟨rfl,⟨rfl,⟨rfl,⟨(i6 (IH (by omega))),trivial⟩⟩⟩⟩⟩,⟨rfl,⟨rfl,⟨rfl,⟨rfl,trivial⟩⟩⟩⟩,rfl⟩
     ·
      have g11':=l8 g11
      refine x9 (C9 g11) (fun _=>?_)
      refine x9 (fun _=>?_) (C9 g10)
      refine d9 (H9 rfl rfl g11 rfl) ?_
      refine d9 (H9 rfl rfl g10 rfl) ?_
      refine c9 ?_
      refine j9 rfl (C9 rfl) (fun _=>?_)
      refine m9<|l9<|rF 1 ?_
      refine rL ?_
      refine rM ?_
      refine d9 (G8 4 (e:=3) (sz:=1) (zs:=[.int .i64 0]) rfl rfl (by kernel_rfl) rfl rfl rfl rfl rfl) ?_
      refine d9 (i8 3 (e:=3) (sz:=1) (by':=8) z7 rfl (by kernel_rfl) rfl rfl rfl rfl rfl rfl (.cons .sc .nil) rfl (by(have:=N6 i2;simp at this;omega)) (by(have:=N6 i2;simp at this;omega))) ?_
      refine rF 1 ?_
      refine rS 1<|c9<|i9<|l9 ?_
      refine rM ?_
      refine rB ?_
      refine rA<|c9 ?_
      refine n8 ?_ (ih0 (m + 1,acc++[z7]) (by(try dsimp only);omega) (by(try dsimp only);exact⟨by omega,iX i2 (by assumption) rfl (bX (by assumption) (by assumption) (by assumption))⟩))
      exact⟨⟨rfl,⟨rfl,⟨rfl,⟨rfl,⟨(i6 (IH (by omega))),trivial⟩⟩⟩⟩⟩,⟨rfl,⟨rfl,⟨rfl,⟨rfl,trivial⟩⟩⟩⟩,rfl⟩
    ·
     have g10':=l8 (P4 g10)
     refine x9 (nc g10) (fun _=>?_)
     refine x9 (nc g10) (fun _=>?_)
     refine x9 (nc g10) (fun _=>?_)
     refine x9 (nc g10) (fun _=>?_)
     refine x9 (nc g10) (fun _=>?_)
     refine x9 (nc g10) (fun _=>?_)
     refine n4 rfl rfl rfl ?_
     refine n4 rfl rfl rfl ?_
     refine x9 (nc g10) (fun _=>?_)
     refine d9 (M9 rfl rfl g10 rfl) ?_
     refine c9 ?_
     refine j9 rfl (fun _=>?_) (nc rfl)
     refine w9 ?_
     refine d9 (oD [(0,1),(1,1)] [.int .i64 0,.slice none 0 0]) ?_
     refine rS 2 ?_
     refine rA<|c9 ?_
     refine uZ Tryz.func34 (r8 2 (.tmp rfl .nil)) rfl fun E S w u hI hd=>?_
     obtain rfl:mo=none:=by rw [← hm];exact Z1 i2 (by assumption) rfl (vP (by assumption) (by assumption) (by assumption))
     refine P3 hI hd ?_ trivial rfl rfl rfl <;> clear hI hd <;>(try clear ih0)
     all_goals rfl
  ·
   have h5':=l8 h5
   refine m9<|k9<|w9<|rM ?_
   refine d9 (n9 4 4 false (N9 Tryz.func78) (F6 (IntKind.i64.wrap ((-1) - z2)) (by exact VH _) (by exact OH _)) rfl (.cons rfl (.c .t0) .nil) rfl rfl rfl) ?_
   refine d9 (Q8 rfl rfl) ?_
   refine rM ?_
   refine x9 (fun g13=>?_) (fun g13=>?_)
   ·
    have g13':=j8 (O4 g13)
    refine rF 1 ?_
    refine x9 (fun _=>?_) (C9 g13)
    refine rL ?_
    refine x9 (fun _=>?_) (C9 g13)
    refine rM ?_
    refine x9 (fun _=>?_) (C9 g13)
    refine d9 (P9 rfl (by kernel_rfl) rfl rfl b4 hz3) ?_
    refine x9 (fun _=>?_) (C9 g13)
    refine d9 (c8 rfl (by kernel_rfl) rfl rfl) ?_
    refine x9 (fun _=>?_) (C9 g13)
    refine rB ?_
    refine x9 (fun _=>?_) (C9 g13)
    refine rM ?_
    refine x9 (fun g14=>?_) (fun g14=>?_)
    ·
     have g14':=j8 g14
     refine rM ?_
     refine x9 (fun _=>?_) (nc g14)
     refine rB ?_
     refine x9 (fun _=>?_) (C9 g13)
     refine d9 (M9 rfl rfl g14 rfl) ?_
     refine d9 (H9 rfl rfl g13 rfl) ?_
     refine c9 ?_
     refine j9 rfl (fun h15=>?_) (fun h15=>?_)
     ·
      have h15':=j8 h15
      refine w9 ?_
      refine d9 (oD [(0,1),(1,1)] [.int .i64 0,.slice none 0 0]) ?_
      refine rS 2 ?_
      refine rA<|c9 ?_
      refine uZ Tryz.func34 (r8 2 (.tmp rfl .nil)) rfl fun E S w u hI hd=>?_
      obtain rfl:mo=none:=by exfalso;have e:=ho _ (List.mem_of_getElem? (l:=ts) (by assumption));unfold s7 at e;simp only [IntKind.wrap_i64] at *;omega
      refine P3 hI hd ?_ trivial rfl rfl rfl <;> clear hI hd <;>(try clear ih0)
      all_goals rfl
     ·
      have h15':=l8 h15
      refine m9<|l9<|rF 1 ?_
      refine rL ?_
      refine rM ?_
      refine d9 (G8 4 (e:=3) (sz:=1) (zs:=[.int .i64 0]) rfl rfl (by kernel_rfl) rfl rfl rfl rfl rfl) ?_
      refine d9 (i8 3 (e:=3) (sz:=1) (by':=8) (IntKind.i64.wrap ((-1) - z2)) rfl (by kernel_rfl) rfl rfl rfl rfl rfl rfl (.cons .sc .nil) rfl (by(have:=N6 i2;simp at this;omega)) (by(have:=N6 i2;simp at this;omega))) ?_
      refine rF 1 ?_
      refine rS 1<|c9<|i9<|l9 ?_
      refine rM ?_
      refine rB ?_
      refine rA<|c9 ?_
      refine n8 ?_ (ih0 (m + 1,acc++[IntKind.i64.wrap ((-1) - z2)]) (by(try dsimp only);omega) (by(try dsimp only);exact⟨by omega,iX i2 (by assumption) rfl (uT (by omega) (ho _ (J8 (by assumption))).1 (by assumption))⟩))
      exact⟨⟨rfl,⟨rfl,⟨rfl,⟨rfl,⟨(i6 (IH (by omega))),trivial⟩⟩⟩⟩⟩,⟨rfl,⟨rfl,⟨rfl,⟨rfl,trivial⟩⟩⟩⟩,rfl⟩
    ·
     have g14':=l8 g14
     refine x9 (C9 g14) (fun _=>?_)
     refine x9 (fun _=>?_) (C9 g13)
     refine d9 (H9 rfl rfl g14 rfl) ?_
     refine d9 (H9 rfl rfl g13 rfl) ?_
     refine c9 ?_
     refine j9 rfl (C9 rfl) (fun _=>?_)
     refine m9<|l9<|rF 1 ?_
     refine rL ?_
     refine rM ?_
     refine d9 (G8 4 (e:=3) (sz:=1) (zs:=[.int .i64 0]) rfl rfl (by kernel_rfl) rfl rfl rfl rfl rfl) ?_
     refine d9 (i8 3 (e:=3) (sz:=1) (by':=8) (IntKind.i64.wrap ((-1) - z2)) rfl (by kernel_rfl) rfl rfl rfl rfl rfl rfl (.cons .sc .nil) rfl (by omega) (by omega)) ?_
     refine rF 1 ?_
     refine rS 1<|c9<|i9<|l9 ?_
     refine rM ?_
     refine rB ?_
     refine rA<|c9 ?_
     refine n8 ?_ (ih0 (m + 1,acc++[IntKind.i64.wrap ((-1) - z2)]) (by(try dsimp only);omega) (by(try dsimp only);exact⟨by omega,by exfalso;omega⟩))
     exact⟨⟨rfl,⟨rfl,⟨rfl,⟨rfl,⟨(i6 (IH (by omega))),trivial⟩⟩⟩⟩⟩,⟨rfl,⟨rfl,⟨rfl,⟨rfl,trivial⟩⟩⟩⟩,rfl⟩
   ·
    have g13':=l8 (P4 g13)
    refine x9 (nc g13) (fun _=>?_)
    refine x9 (nc g13) (fun _=>?_)
    refine x9 (nc g13) (fun _=>?_)
    refine x9 (nc g13) (fun _=>?_)
    refine x9 (nc g13) (fun _=>?_)
    refine x9 (nc g13) (fun _=>?_)
    refine n4 rfl rfl rfl ?_
    refine n4 rfl rfl rfl ?_
    refine x9 (nc g13) (fun _=>?_)
    refine d9 (M9 rfl rfl g13 rfl) ?_
    refine c9 ?_
    refine j9 rfl (fun _=>?_) (nc rfl)
    refine w9 ?_
    refine d9 (oD [(0,1),(1,1)] [.int .i64 0,.slice none 0 0]) ?_
    refine rS 2 ?_
    refine rA<|c9 ?_
    refine uZ Tryz.func34 (r8 2 (.tmp rfl .nil)) rfl fun E S w u hI hd=>?_
    obtain rfl:mo=none:=by rw [← hm];exact Z1 i2 (by assumption) rfl (ST (by omega) (ho _ (J8 (by assumption))).1 (by assumption))
    refine P3 hI hd ?_ trivial rfl rfl rfl <;> clear hI hd <;>(try clear ih0)
    all_goals rfl
 ·
  have h1':=l8 h1
  refine R9 rfl<|w9<|rC 2 ?_
  refine rS 2 ?_
  refine rA<|c9 ?_
  refine uZ Tryz.func34 (r8 2 (.tmp rfl .nil)) rfl fun E S w u hI hd=>?_
  obtain rfl:mo=some acc:=by rw [← hm];rw [List.take_of_length_le (by omega)] at i2;exact i2
  refine P3 hI hd ?_ ⟨E7 ?_,trivial⟩ rfl rfl rfl <;> clear hI hd <;>(try clear ih0)
  all_goals rfl
theorem WW (rs:V9)(fs:p9)(a0:List (Int ×(List Int)))(a1:List (Int ×(List Int)))(a2:Bool)(a3:Int)(a4:Int)(b:List Int)(hrs:rs.length≤4611686018427387904)(hfs:l7 (fun(x:Int ×(List Int))=>x.2.length) fs≤1048576)(ho:∀z∈fs,∀x∈z.2,s7 x)(hs:l7 (fun(x:Int ×(List Int))=>x.2.length) a0 + l7 (fun(x:Int ×(List Int))=>x.2.length) a1≤1048576)(hoa:∀z∈a0,∀x∈z.2,s7 x)(hob:∀x∈b,s7 x)(hbl:b.length≤1048576):Pu Tryz.prog 38 [.agg [.t none (.sl 3 (d8 Z9 f9 a8) rs),.t none (.sl 2 (E9 f9 (B9 1 f9)) fs)],.agg [.t none (.sl 2 (E9 f9 (B9 1 f9)) a0),.t none (.sl 2 (E9 f9 (B9 1 f9)) a1),.t none (.v (.bool a2)),.t none (.v (.int .i64 a3)),.t none (.v (.int .i64 a4))],.c (.t none (.sl 1 f9 b))] [] 0 (.c (.t none (.v (.bool (J5 rs fs a0 a1 a2 a3 a4 b))))):=by
 refine u6 Tryz.func38 fun w S=>?_
 have g0:=L8 (f:=(fun(x:Int ×(List Int))=>x.2.length)) (l:=a0);have v0:=F7 (F9 a0);have v1:=H7 a0
 refine w9 ?_
 refine d9 (X9 0 rfl rfl rfl rfl) ?_
 refine d9 (X9 1 rfl rfl rfl rfl) ?_
 refine rA<|c9<|k9<|w9 ?_
 refine rC 2 ?_
 refine d9 (n9 2 2 false (N9 Tryz.func73) (T5 rs fs (by omega) (by omega) (by omega)) rfl (.cons rfl (.agg (.cons .t0 (.cons .t0 .nil))) .nil) rfl rfl rfl) ?_
 refine d9 (Q8 rfl rfl) ?_
 refine rM ?_
 refine x9 (fun g1=>?_) (fun g1=>?_)
 ·
  have g1':=(O4 g1)
  refine rF 0 ?_
  refine x9 (fun _=>?_) (C9 g1)
  refine rL ?_
  refine x9 (fun _=>?_) (C9 g1)
  refine rC 5 ?_
  refine x9 (fun _=>?_) (C9 g1)
  refine d9 (n9 2 2 false (N9 Tryz.func57) (R4 rs a0 a1 a2 a3 a4 (by omega) (by omega)) rfl (.cons rfl (.c .t0) (.cons rfl (.agg (.cons .t0 (.cons .t0 (.cons .t0 (.cons .t0 (.cons .t0 .nil)))))) .nil)) rfl rfl rfl) ?_
  refine x9 (fun _=>?_) (C9 g1)
  refine d9 (Q8 rfl rfl) ?_
  refine d9 (H9 rfl rfl g1 rfl) ?_
  refine rM ?_
  refine x9 (fun g2=>?_) (fun g2=>?_)
  ·
   have g2':=(O4 g2)
   refine rM ?_
   refine x9 (fun _=>?_) (C9 g2)
   refine d9 (S9 rfl rfl rfl) ?_
   refine x9 (fun _=>?_) (C9 g2)
   refine rB ?_
   refine d9 (H9 rfl rfl g2 rfl) ?_
   refine c9 ?_
   refine j9 rfl (fun h3=>?_) (fun h3=>?_)
   ·
    have h3':=j8 h3
    refine w9<|rA<|c9 ?_
    refine tk Tryz.func38 (.tmp rfl .nil) ?_ <;>(try clear ih0) <;>(try clear ih1)
    all_goals(refine N7 ?_;(unfold J5;clear hrs hfs ho hs hoa hob g0 v0 v1;grind))
   ·
    have h3':=l8 h3
    refine m9<|w9<|rF 0 ?_
    refine rL ?_
    refine d9 (n9 2 3 false (N9 Tryz.func75) (K5 a0 (by omega)) rfl (.cons rfl (.c .t0) .nil) rfl rfl rfl) ?_
    refine rA<|c9<|k9<|w9 ?_
    refine rA<|c9<|r9 ?_
    refine L9 (fun m=>⟨[(2,some (.c (.t none (.sl 1 f9 b)))),(3,some (.c (.ptr 0 0))),(4,some (.c (.ptr 1 0))),(7,some (.c (.own 2))),(8,some (.c (.t none (.v (.int .i64 ((m:Int)))))))],[(0,some (.box [.t none (.sl 3 (d8 Z9 f9 a8) rs),.t none (.sl 2 (E9 f9 (B9 1 f9)) fs)])),(1,some (.box [.t none (.sl 2 (E9 f9 (B9 1 f9)) a0),.t none (.sl 2 (E9 f9 (B9 1 f9)) a1),.t none (.v (.bool a2)),.t none (.v (.int .i64 a3)),.t none (.v (.int .i64 a4))])),(2,some (.row none 3 true 1 f9 (G9 (F9 a0))))],3⟩:Nat→St) (fun m=>m≤b.length∧∀j,j < m→TZ (G9 (F9 a0)) b j=true) (fun m=>b.length - m) 0 ⟨⟨rfl,⟨rfl,⟨rfl,⟨rfl,⟨rfl,trivial⟩⟩⟩⟩⟩,⟨rfl,⟨rfl,⟨rfl,trivial⟩⟩⟩,rfl⟩ (by exact⟨Nat.zero_le _,fun j h=>by omega⟩) ?_
    rintro m hI ih0
    try dsimp only at hI ih0
    obtain⟨i1,i2⟩:=hI
    refine k9<|w9<|rM ?_
    refine rM ?_
    refine d9 (S9 rfl rfl rfl) ?_
    refine rB<|c9 ?_
    refine j9 rfl (fun h4=>?_) (fun h4=>?_)
    ·
     have h4':=j8 h4
     refine m9<|k9<|r9<|k9 ?_
     refine tY ?_
     refine dT 0 rfl pM ?_
     refine dT 1 rfl pM ?_
     refine dT 3 rfl pM ?_
     refine dT 4 rfl pM ?_
     obtain⟨z5,hz6,b7⟩:=t9 (xs:=b) (n:=(m:Int)) (by omega) (by omega)
     refine dT 5 rfl (w8 (by kernel_rfl) rfl rfl b7 hz6) ?_
     refine dT 6 rfl (t7 (by kernel_rfl) rfl rfl) ?_
     refine dO 2 rfl (n9 3 3 false (N9 Tryz.func76) (N1 (G9 (F9 a0)) ((m:Int)) (by omega)) rfl (.cons rfl (.c (.own rfl)) (.cons rfl (.c .t0) .nil)) rfl rfl rfl) ?_
     refine dO 7 rfl (n9 3 3 false (N9 Tryz.func81) (Q0) rfl .nil rfl rfl rfl) ?_
     refine dT 8 rfl pB ?_
     refine dT 9 rfl (xI Tryz.underlying4 rfl rfl) ?_
     refine dE ?_
     refine j9 rfl (fun h8=>?_) (fun h8=>?_)
     ·
      have h8':=h8
      try simp only [decide_eq_true_eq,decide_eq_false_iff_not,Bool.not_eq_true',Bool.not_eq_false',Bool.not_false,Bool.not_true] at h8'
      refine w9<|rA<|c9 ?_
      refine tk Tryz.func38 (.tmp rfl .nil) ?_ <;>(try clear ih0) <;>(try clear ih1)
      all_goals(refine N7 ?_;((have e:YX (G9 (F9 a0)) b=false:=OU (m:=m) (by omega) (by rw [B0 (V:=G9 (F9 a0)) (m:=m) hz6];(exact UJ (by assumption))));(unfold J5;rw [e];simp;done)))
     ·
      have h8':=h8
      try simp only [decide_eq_true_eq,decide_eq_false_iff_not,Bool.not_eq_true',Bool.not_eq_false',Bool.not_false,Bool.not_true] at h8'
      refine m9<|i9<|l9<|rM ?_
      refine rB ?_
      refine rA<|c9 ?_
      refine n8 ?_ (ih0 (m + 1) (by(try dsimp only);omega) (by(try dsimp only);exact⟨by omega,d6 i2 (by rw [B0 (V:=G9 (F9 a0)) (m:=m) hz6];(exact ZI (by assumption)))⟩))
      exact⟨⟨rfl,⟨rfl,⟨rfl,⟨rfl,⟨(i6 (s8 (by omega) (by omega))),trivial⟩⟩⟩⟩⟩,⟨rfl,⟨rfl,⟨rfl,trivial⟩⟩⟩,rfl⟩
    ·
     have h4':=l8 h4
     refine R9 rfl<|k9<|w9<|rA<|c9<|r9 ?_
     refine L9 (fun n=>⟨[(2,some (.c (.t none (.sl 1 f9 b)))),(3,some (.c (.ptr 0 0))),(4,some (.c (.ptr 1 0))),(9,some (.c (.t none (.v (.int .i64 ((n:Int)))))))],[(0,some (.box [.t none (.sl 3 (d8 Z9 f9 a8) rs),.t none (.sl 2 (E9 f9 (B9 1 f9)) fs)])),(1,some (.box [.t none (.sl 2 (E9 f9 (B9 1 f9)) a0),.t none (.sl 2 (E9 f9 (B9 1 f9)) a1),.t none (.v (.bool a2)),.t none (.v (.int .i64 a3)),.t none (.v (.int .i64 a4))])),(2,some (.row none 3 true 1 f9 (G9 (F9 a0))))],3⟩:Nat→St) (fun n=>n≤a0.length∧∀j z,j < n→a0[j]? =some z→U4 fs b z=true) (fun n=>a0.length - n) 0 ⟨⟨rfl,⟨rfl,⟨rfl,⟨rfl,trivial⟩⟩⟩⟩,⟨rfl,⟨rfl,⟨rfl,trivial⟩⟩⟩,rfl⟩ (by exact⟨Nat.zero_le _,fun j z h=>by omega⟩) ?_
     rintro n hI ih1
     try dsimp only at hI ih1
     obtain⟨k1,k2⟩:=hI
     refine k9<|w9<|rM ?_
     refine rF 0 ?_
     refine rL ?_
     refine d9 (S9 rfl rfl rfl) ?_
     refine rB<|c9 ?_
     refine j9 rfl (fun h9=>?_) (fun h9=>?_)
     ·
      have h9':=j8 h9
      refine m9<|k9<|r9<|w9<|rF 0 ?_
      refine rL ?_
      refine rM ?_
      obtain⟨z10,hz11,b12⟩:=t9 (xs:=a0) (n:=(n:Int)) (by omega) (by omega)
      refine d9 (P9 rfl (by kernel_rfl) rfl rfl b12 hz11) ?_
      refine d9 (A6 rfl (n:=2) (by kernel_rfl) (by kernel_rfl) rfl rfl) ?_
      refine rM ?_
      rcases hm13:Y8 b z10.2 with _ | q15
      ·
       refine d9 (n9 3 7 false (N9 Tryz.func34) (U5 z10.1 z10.2 b (by(have e1:=j6 (f:=(fun(x:Int ×(List Int))=>x.2.length)) (l:=a0) (m:=n) (by assumption);(try dsimp only at e1);omega)) (by exact hoa _ (J8 (by assumption))) (by omega) _ hm13) rfl (.cons rfl (.agg (.cons .t0 (.cons .t0 .nil))) (.cons rfl (.c .t0) .nil)) rfl rfl rfl) ?_
       refine rM ?_
       refine d9 (O9 rfl rfl rfl rfl) ?_
       refine d9 (O9 rfl rfl rfl rfl) ?_
       refine d9 (I9 7 (zs:=[.int .i64 0,.slice none 0 0]) rfl rfl (by kernel_rfl) rfl) ?_
       refine rS 2 ?_
       refine rA<|o7 ?_
       refine rM ?_
       refine d9 (Q8 rfl rfl) ?_
       refine rM ?_
       refine x9 (nc rfl) (fun _=>?_)
       refine x9 (nc rfl) (fun _=>?_)
       refine x9 (nc rfl) (fun _=>?_)
       refine x9 (nc rfl) (fun _=>?_)
       refine d9 (M9 rfl rfl rfl rfl) ?_
       refine c9 ?_
       refine j9 rfl (fun _=>?_) (nc rfl)
       refine w9<|rA<|c9 ?_
       refine tk Tryz.func38 (.tmp rfl .nil) ?_ <;>(try clear ih0) <;>(try clear ih1)
       all_goals(refine N7 ?_;((have e:a0.all (U4 fs b)=false:=WV hz11 (by exact rP (by assumption)));(unfold J5;rw [e];simp;done)))
      ·
       refine d9 (n9 3 7 false (N9 Tryz.func34) (U5 z10.1 z10.2 b (by(have e1:=j6 (f:=(fun(x:Int ×(List Int))=>x.2.length)) (l:=a0) (m:=n) (by assumption);(try dsimp only at e1);omega)) (by exact hoa _ (J8 (by assumption))) (by omega) _ hm13) rfl (.cons rfl (.agg (.cons .t0 (.cons .t0 .nil))) (.cons rfl (.c .t0) .nil)) rfl rfl rfl) ?_
       refine rM ?_
       refine d9 (O9 rfl rfl rfl rfl) ?_
       refine d9 (O9 rfl rfl rfl rfl) ?_
       refine d9 (I9 7 (zs:=[.int .i64 0,.slice none 0 0]) rfl rfl (by kernel_rfl) rfl) ?_
       refine rS 2 ?_
       refine rA<|o7 ?_
       refine rM ?_
       refine d9 (Q8 rfl rfl) ?_
       refine rM ?_
       refine x9 (fun _=>?_) (C9 rfl)
       refine rC 2 ?_
       refine x9 (fun _=>?_) (C9 rfl)
       refine rC 2 ?_
       refine x9 (fun _=>?_) (C9 rfl)
       refine d9 (n9 8 8 false (N9 Tryz.func79) (IY rs fs z10.1 q15 (by omega) (by(have e5:=N6 (by assumption);have e1:=j6 (f:=(fun(x:Int ×(List Int))=>x.2.length)) (l:=a0) (m:=n) (by assumption);(try dsimp only at e1);omega))) rfl (.cons rfl (.agg (.cons .t0 (.cons .t0 .nil))) (.cons rfl (.agg (.cons .t0 (.cons (.own rfl) .nil))) .nil)) rfl rfl rfl) ?_
       refine x9 (fun _=>?_) (C9 rfl)
       refine rB ?_
       refine d9 (H9 rfl rfl rfl rfl) ?_
       refine c9 ?_
       refine j9 rfl (fun h16=>?_) (fun h16=>?_)
       ·
        have h16':=j8 h16
        refine w9<|rA<|c9 ?_
        refine tk Tryz.func38 (.tmp rfl .nil) ?_ <;>(try clear ih0) <;>(try clear ih1)
        all_goals(refine N7 ?_;((have e:a0.all (U4 fs b)=false:=WV hz11 (by(rw [sY (by assumption)];unfold sU;rw [← eZ];exact decide_eq_false (by omega))));(unfold J5;rw [e];simp;done)))
       ·
        have h16':=l8 h16
        refine m9<|i9<|l9<|rM ?_
        refine rB ?_
        refine rA<|c9 ?_
        refine n8 ?_ (ih1 (n + 1) (by(try dsimp only);omega) (by(try dsimp only);exact⟨by omega,LR k2 hz11 rfl (by rw [sY (by assumption)];unfold sU;rw [← eZ];exact decide_eq_true (by omega))⟩))
        exact⟨⟨rfl,⟨rfl,⟨rfl,⟨(i6 (s8 (by omega) (by omega))),trivial⟩⟩⟩⟩,⟨rfl,⟨rfl,⟨rfl,trivial⟩⟩⟩,rfl⟩
     ·
      have h9':=l8 h9
      refine R9 rfl<|w9<|rA<|c9 ?_
      refine tk Tryz.func38 (.tmp rfl .nil) ?_ <;>(try clear ih0) <;>(try clear ih1)
      all_goals(refine N7 ?_;(unfold J5;rw [sT i2 (by omega),WO k2 (by omega)];clear hrs hfs ho hs hoa hob g0 v0 v1;grind))
  ·
   have g2':=(P4 g2)
   refine x9 (nc g2) (fun _=>?_)
   refine x9 (nc g2) (fun _=>?_)
   refine d9 (M9 rfl rfl g2 rfl) ?_
   refine c9 ?_
   refine j9 rfl (fun _=>?_) (nc rfl)
   refine w9<|rA<|c9 ?_
   refine tk Tryz.func38 (.tmp rfl .nil) ?_ <;>(try clear ih0) <;>(try clear ih1)
   all_goals(refine N7 ?_;(unfold J5;clear hrs hfs ho hs hoa hob g0 v0 v1;grind))
 ·
  have g1':=(P4 g1)
  refine x9 (nc g1) (fun _=>?_)
  refine x9 (nc g1) (fun _=>?_)
  refine x9 (nc g1) (fun _=>?_)
  refine x9 (nc g1) (fun _=>?_)
  refine d9 (M9 rfl rfl g1 rfl) ?_
  refine rM ?_
  refine x9 (nc rfl) (fun _=>?_)
  refine x9 (nc rfl) (fun _=>?_)
  refine x9 (nc rfl) (fun _=>?_)
  refine d9 (M9 rfl rfl rfl rfl) ?_
  refine c9 ?_
  refine j9 rfl (fun _=>?_) (nc rfl)
  refine w9<|rA<|c9 ?_
  refine tk Tryz.func38 (.tmp rfl .nil) ?_ <;>(try clear ih0) <;>(try clear ih1)
  all_goals(refine N7 ?_;(unfold J5;clear hrs hfs ho hs hoa hob g0 v0 v1;grind))
theorem tX (rs:V9)(fs l:p9)(b:List Int)(hrs:rs.length≤4611686018427387904)(hfs:l7 (fun(x:Int ×(List Int))=>x.2.length) fs≤1048576)(hll:l7 (fun(x:Int ×(List Int))=>x.2.length) l≤1048576)(ho:∀z∈fs,∀x∈z.2,s7 x)(hbl:b.length≤1048576):Pu Tryz.prog 39 [.agg [.t none (.sl 3 (d8 Z9 f9 a8) rs),.t none (.sl 2 (E9 f9 (B9 1 f9)) fs)],.c (.t none (.sl 2 (E9 f9 (B9 1 f9)) l)),.c (.t none (.sl 1 f9 b))] [] 0 (.c (.t none (.v (.bool (wU rs fs l b))))):=by
 refine u6 Tryz.func39 fun w S=>?_
 have gl:=L8 (f:=(fun(x:Int ×(List Int))=>x.2.length)) (l:=l)
 refine w9 ?_
 refine d9 (X9 0 rfl rfl rfl rfl) ?_
 refine rA<|o7 ?_
 refine rC 2 ?_
 refine rM ?_
 refine d9 (n9 1 1 false (N9 Tryz.func82) (vW rs fs l (by omega) (by omega) (by omega) (by omega)) rfl (.cons rfl (.agg (.cons .t0 (.cons .t0 .nil))) (.cons rfl (.c .t0) .nil)) rfl rfl rfl) ?_
 refine rM ?_
 refine x9 (fun g1=>?_) (fun g1=>?_)
 ·
  have g1':=g1
  refine rM ?_
  refine x9 (fun _=>?_) (nc g1)
  refine d9 (S9 rfl rfl rfl) ?_
  refine x9 (fun _=>?_) (nc g1)
  refine rB ?_
  refine d9 (M9 rfl rfl g1 rfl) ?_
  refine rM ?_
  refine x9 (fun g2=>?_) (fun g2=>?_)
  ·
   have g2':=j8 g2
   refine rC 2 ?_
   refine x9 (fun _=>?_) (nc g2)
   refine rM ?_
   refine x9 (fun _=>?_) (nc g2)
   refine rM ?_
   refine x9 (fun _=>?_) (nc g2)
   refine d9 (n9 1 2 false (N9 Tryz.func83) (mY rs fs l 0 b (by exact(M3 (by assumption)).1) (by exact(M3 (by assumption)).2.1) (by omega) (by exact(M3 (by assumption)).2.2.1) (by exact(M3 (by assumption)).2.2.2) (by omega)) rfl (.cons rfl (.agg (.cons .t0 (.cons .t0 .nil))) (.cons rfl (.c .t0) (.cons rfl (.c .t0) (.cons rfl (.c .t0) .nil)))) rfl rfl rfl) ?_
   refine x9 (fun _=>?_) (nc g2)
   refine d9 (M7 rfl rfl rfl rfl) ?_
   refine x9 (fun _=>?_) (nc g2)
   refine rB ?_
   refine d9 (M9 rfl rfl g2 rfl) ?_
   refine rA<|c9 ?_
   refine tk Tryz.func39 (.tmp rfl .nil) ?_
   all_goals(refine N7 ?_;(try simp only [show(0:Int).toNat=0 from rfl,List.drop_zero] at *);clear hrs hfs hll ho gl;unfold wU;grind)
  ·
   have g2':=l8 g2
   refine x9 (C9 g2) (fun _=>?_)
   refine x9 (C9 g2) (fun _=>?_)
   refine x9 (C9 g2) (fun _=>?_)
   refine x9 (C9 g2) (fun _=>?_)
   refine x9 (C9 g2) (fun _=>?_)
   refine d9 (H9 rfl rfl g2 rfl) ?_
   refine rA<|c9 ?_
   refine tk Tryz.func39 (.tmp rfl .nil) ?_
   all_goals(refine N7 ?_;(try simp only [show(0:Int).toNat=0 from rfl,List.drop_zero] at *);clear hrs hfs hll ho gl;unfold wU;grind)
 ·
  have g1':=g1
  refine x9 (C9 g1) (fun _=>?_)
  refine x9 (C9 g1) (fun _=>?_)
  refine d9 (H9 rfl rfl g1 rfl) ?_
  refine rM ?_
  refine x9 (C9 rfl) (fun _=>?_)
  refine x9 (C9 rfl) (fun _=>?_)
  refine x9 (C9 rfl) (fun _=>?_)
  refine x9 (C9 rfl) (fun _=>?_)
  refine x9 (C9 rfl) (fun _=>?_)
  refine x9 (C9 rfl) (fun _=>?_)
  refine d9 (H9 rfl rfl rfl rfl) ?_
  refine rA<|c9 ?_
  refine tk Tryz.func39 (.tmp rfl .nil) ?_
  all_goals(refine N7 ?_;(try simp only [show(0:Int).toNat=0 from rfl,List.drop_zero] at *);clear hrs hfs hll ho gl;unfold wU;grind)
theorem R5 (rs:V9)(fs:p9)(a0:List (Int ×(List Int)))(a1:List (Int ×(List Int)))(a2:Bool)(a3:Int)(a4:Int)(b:List Int)(hrs:rs.length≤4611686018427387904)(hfs:l7 (fun(x:Int ×(List Int))=>x.2.length) fs≤1048576)(ho:∀z∈fs,∀x∈z.2,s7 x)(hs:l7 (fun(x:Int ×(List Int))=>x.2.length) a0 + l7 (fun(x:Int ×(List Int))=>x.2.length) a1≤1048576)(hoa:∀z∈a0,∀x∈z.2,s7 x)(hob:∀x∈b,s7 x)(hbl:b.length≤1048576):Pu Tryz.prog 9 [.agg [.t none (.sl 3 (d8 Z9 f9 a8) rs),.t none (.sl 2 (E9 f9 (B9 1 f9)) fs)],.agg [.t none (.sl 2 (E9 f9 (B9 1 f9)) a0),.t none (.sl 2 (E9 f9 (B9 1 f9)) a1),.t none (.v (.bool a2)),.t none (.v (.int .i64 a3)),.t none (.v (.int .i64 a4))],.c (.t none (.sl 1 f9 b))] [] 0 (.c (.t none (.v (.bool (R8 rs fs a0 a1 a2 a3 a4 b))))):=by
 refine u6 Tryz.func9 fun w S=>?_
 have g0:=L8 (f:=(fun(x:Int ×(List Int))=>x.2.length)) (l:=a0);have v0:=F7 (F9 a0);have v1:=H7 a0
 refine w9 ?_
 refine d9 (X9 0 rfl rfl rfl rfl) ?_
 refine d9 (X9 1 rfl rfl rfl rfl) ?_
 refine rA<|c9<|k9<|w9 ?_
 refine rC 2 ?_
 refine rC 5 ?_
 refine rM ?_
 refine d9 (n9 2 2 false (N9 Tryz.func38) (WW rs fs a0 a1 a2 a3 a4 b (by omega) (by omega) (by omega) (by omega) (by omega) (by omega) (by omega)) rfl (.cons rfl (.agg (.cons .t0 (.cons .t0 .nil))) (.cons rfl (.agg (.cons .t0 (.cons .t0 (.cons .t0 (.cons .t0 (.cons .t0 .nil)))))) (.cons rfl (.c .t0) .nil))) rfl rfl rfl) ?_
 refine d9 (Q8 rfl rfl) ?_
 refine c9 ?_
 refine j9 rfl (fun h1=>?_) (fun h1=>?_)
 ·
  have h1':=(P4 h1)
  refine w9<|rA<|c9 ?_
  refine tk Tryz.func9 (.tmp rfl .nil) ?_
  all_goals(refine N7 ?_;unfold R8;clear hrs hfs ho hs hoa hob g0 v0 v1;grind)
 ·
  have h1':=(O4 h1)
  refine m9<|k9<|w9<|rF 2 ?_
  refine rL<|c9 ?_
  refine j9 rfl (fun h2=>?_) (fun h2=>?_)
  ·
   have h2':=h2
   refine k9 ?_
   refine tY ?_
   refine dT 0 rfl pM ?_
   refine dT 1 rfl (pF 3) ?_
   refine dT 2 rfl pL ?_
   obtain⟨z3,hz4,b5⟩:=t9 (xs:=b) (n:=a3) (by exact(B5 (by assumption) (by assumption)).1.1) (by exact(B5 (by assumption) (by assumption)).1.2)
   refine dT 3 rfl (w8 (by kernel_rfl) rfl rfl b5 hz4) ?_
   refine dT 4 rfl (t7 (by kernel_rfl) rfl rfl) ?_
   refine dT 5 rfl pM ?_
   refine dT 6 rfl (pF 4) ?_
   refine dT 7 rfl pL ?_
   obtain⟨z6,hz7,b8⟩:=t9 (xs:=b) (n:=a4) (by exact(B5 (by assumption) (by assumption)).2.1) (by exact(B5 (by assumption) (by assumption)).2.2)
   refine dT 8 rfl (w8 (by kernel_rfl) rfl rfl b8 hz7) ?_
   refine dT 9 rfl (t7 (by kernel_rfl) rfl rfl) ?_
   refine dT 10 rfl pB ?_
   refine dT 11 rfl pA ?_
   refine dE ?_
   refine tk Tryz.func9 (.tmp rfl .nil) ?_
   all_goals(refine N7 ?_;unfold R8;clear hrs hfs ho hs hoa hob g0 v0 v1;(have e1:=gX hz4;have e2:=gX hz7;rw [e1,e2];grind))
  ·
   have h2':=h2
   refine m9<|w9<|rC 2 ?_
   refine rF 1 ?_
   refine rL ?_
   refine rM ?_
   refine d9 (n9 2 2 false (N9 Tryz.func39) (tX rs fs a1 b (by omega) (by omega) (by omega) (by omega) (by omega)) rfl (.cons rfl (.agg (.cons .t0 (.cons .t0 .nil))) (.cons rfl (.c .t0) (.cons rfl (.c .t0) .nil))) rfl rfl rfl) ?_
   refine d9 (Q8 rfl rfl) ?_
   refine rA<|c9 ?_
   refine tk Tryz.func9 (.tmp rfl .nil) ?_
   all_goals(refine N7 ?_;unfold R8;clear hrs hfs ho hs hoa hob g0 v0 v1;grind)
theorem lY (rs:V9)(fs:p9)(a0:List (Int ×(List Int)))(a1:List (Int ×(List Int)))(a2:Bool)(a3:Int)(a4:Int)(hrs:rs.length≤4611686018427387904)(hfs:l7 (fun(x:Int ×(List Int))=>x.2.length) fs≤1048576)(ho:∀z∈fs,∀x∈z.2,s7 x)(hs:l7 (fun(x:Int ×(List Int))=>x.2.length) a0 + l7 (fun(x:Int ×(List Int))=>x.2.length) a1≤1048576)(hoa:∀z∈a0,∀x∈z.2,s7 x):Pu Tryz.prog 17 [.agg [.t none (.sl 3 (d8 Z9 f9 a8) rs),.t none (.sl 2 (E9 f9 (B9 1 f9)) fs)],.agg [.t none (.sl 2 (E9 f9 (B9 1 f9)) a0),.t none (.sl 2 (E9 f9 (B9 1 f9)) a1),.t none (.v (.bool a2)),.t none (.v (.int .i64 a3)),.t none (.v (.int .i64 a4))]] [(2,some (.row none 31 true 1 (B9 1 f9) (v4 rs fs a0 a1 a2 a3 a4)))] 3 (.c (.own 2)):=by
 refine u6 Tryz.func17 fun w S=>?_
 have g0:=L8 (f:=(fun(x:Int ×(List Int))=>x.2.length)) (l:=a0);have g1:=CN rs fs a0
 refine w9 ?_
 refine d9 (X9 0 rfl rfl rfl rfl) ?_
 refine d9 (X9 1 rfl rfl rfl rfl) ?_
 refine rA<|o7 ?_
 refine d9 (C7 2 (e:=31) (sz:=1) (zs:=[.slice none 0 0]) (B9 1 f9) rfl rfl (by kernel_rfl) rfl) ?_
 refine rA<|c9<|k9<|w9 ?_
 refine rF 0 ?_
 refine rL ?_
 refine rC 5 ?_
 refine d9 (n9 3 3 false (N9 Tryz.func57) (R4 rs a0 a1 a2 a3 a4 (by omega) (by omega)) rfl (.cons rfl (.c .t0) (.cons rfl (.agg (.cons .t0 (.cons .t0 (.cons .t0 (.cons .t0 (.cons .t0 .nil)))))) .nil)) rfl rfl rfl) ?_
 refine d9 (Q8 rfl rfl) ?_
 refine c9 ?_
 refine j9 rfl (fun h1=>?_) (fun h1=>?_)
 ·
  have h1':=(P4 h1)
  refine w9<|rM ?_
  refine rA<|c9 ?_
  refine tk Tryz.func17 (.tmp rfl .nil) ?_ (hL:=⟨E7 ?_,trivial⟩) <;>(try clear ih0)
  all_goals first | rfl | ((exact bI (by simp_all;done)))
 ·
  have h1':=(O4 h1)
  refine m9<|w9<|rC 2 ?_
  refine rF 0 ?_
  refine rL ?_
  refine d9 (n9 3 5 false (N9 Tryz.func58) (T0 rs fs a0 (by omega) (by omega) (by omega) (by omega)) rfl (.cons rfl (.agg (.cons .t0 (.cons .t0 .nil))) (.cons rfl (.c .t0) .nil)) rfl rfl rfl) ?_
  refine rA<|c9<|k9<|w9 ?_
  refine rA<|c9<|r9 ?_
  refine NL 4 rfl ?_
  refine L9 (fun(vs,m)=>⟨[(2,some (.c (.ptr 0 0))),(3,some (.c (.ptr 1 0))),(4,some (.c (.t none (.v (.slice none 0 0))))),(5,some (.c (.own 2))),(6,some (.c (.own 4))),(7,some (.c (.t none (.v (.int .i64 ((m:Int)))))))],[(0,some (.box [.t none (.sl 3 (d8 Z9 f9 a8) rs),.t none (.sl 2 (E9 f9 (B9 1 f9)) fs)])),(1,some (.box [.t none (.sl 2 (E9 f9 (B9 1 f9)) a0),.t none (.sl 2 (E9 f9 (B9 1 f9)) a1),.t none (.v (.bool a2)),.t none (.v (.int .i64 a3)),.t none (.v (.int .i64 a4))])),(2,some (.row none 31 true 1 (B9 1 f9) (((V6 rs fs a0).take m).filter (R8 rs fs a0 a1 a2 a3 a4)))),(4,some (.row none 31 true 1 (fQ (B9 1 f9)) (dP vs (V6 rs fs a0))))],5⟩:List Value × Nat→St) (fun(vs,m)=>vs.length=m∧m≤(V6 rs fs a0).length) (fun(vs,m)=>(V6 rs fs a0).length - m) ([],0) ⟨⟨rfl,⟨rfl,⟨rfl,⟨rfl,⟨rfl,⟨rfl,trivial⟩⟩⟩⟩⟩⟩,⟨rfl,⟨rfl,⟨rfl,⟨rfl,trivial⟩⟩⟩⟩,rfl⟩ (by exact⟨rfl,Nat.zero_le _⟩) ?_
  rintro⟨vs,m⟩ hI ih0
  try dsimp only at hI ih0
  obtain⟨i0,i1⟩:=hI;have tl:=PS (vs:=vs) (L:=V6 rs fs a0) (by omega);have fr:=QN (p:=R8 rs fs a0 a1 a2 a3 a4) (L:=V6 rs fs a0) (m:=m) g1
  refine k9<|w9<|rM ?_
  refine rM ?_
  refine d9 (M7 rfl rfl rfl rfl) ?_
  refine rB<|c9 ?_
  refine j9 rfl (fun h2=>?_) (fun h2=>?_)
  ·
   have h2':=j8 h2
   refine m9<|k9<|r9<|k9 ?_
   obtain⟨z3,hz4,b5⟩:=t9 (xs:=V6 rs fs a0) (n:=(m:Int)) (by omega) (by omega)
   refine UQ 5 4 rfl rfl (WK (by omega) hz4) fun e6 v7=>?_
   refine tY ?_
   refine dT 0 rfl (pC 2) ?_
   refine dT 1 rfl (pC 5) ?_
   refine dT 2 rfl pM ?_
   refine dT 3 rfl pM ?_
   obtain⟨z8,hz9,b10⟩:=t9 (xs:=(dP vs (V6 rs fs a0)).set (m:Int).toNat (.inl v7)) (n:=(m:Int)) (by omega) (by(rw [List.length_set];omega))
   refine dT 4 rfl (T9 (by kernel_rfl) rfl rfl rfl b10 (f8 b10 hz9)) ?_
   refine dT 5 rfl (qV (k:=5) (o:=0) (by kernel_rfl) rfl rfl (QS (by omega) (by omega)) rfl) ?_
   refine dO 6 rfl (n9 6 6 false (N9 Tryz.func9) (R5 rs fs a0 a1 a2 a3 a4 z3 (by omega) (by omega) (by omega) (by omega) (by omega) (by exact nT (fun f hf=>ho f hf) (J8 (by assumption))) (by(have e5:=NX (J8 (by assumption));omega))) rfl (.cons rfl (.agg (.cons .t0 (.cons .t0 .nil))) (.cons rfl (.agg (.cons .t0 (.cons .t0 (.cons .t0 (.cons .t0 (.cons .t0 .nil)))))) (.cons rfl (.c (.own rfl)) .nil))) rfl rfl rfl) ?_
   refine dE ?_
   refine j9 rfl (fun h11=>?_) (fun h11=>?_)
   ·
    have h11':=h11
    refine l9<|rM ?_
    refine rM ?_
    refine rM ?_
    refine d9 (t8 rfl (by kernel_rfl) rfl rfl rfl b10 (f8 b10 hz9)) ?_
    refine d9 (ES rfl (k:=5) (o:=0) (by kernel_rfl) rfl rfl (QS (by omega) (by omega)) rfl) ?_
    refine d9 (G8 6 (e:=31) (sz:=1) (zs:=[.slice none 0 0]) rfl rfl (by kernel_rfl) rfl rfl rfl rfl rfl) ?_
    refine d9 (i8 2 (e:=31) (sz:=1) (by':=24) z3 rfl (by kernel_rfl) rfl rfl rfl rfl rfl rfl (.take (.own rfl) rfl .nil) rfl (by omega) (by omega)) ?_
    refine rA<|c9<|i9<|l9 ?_
    refine rM ?_
    refine rB ?_
    refine rA<|c9 ?_
    refine n8 ?_ (ih0 (vs++[v7],m + 1) (by(try dsimp only);omega) (by(try dsimp only);exact⟨by simp;omega,by omega⟩))
    exact⟨⟨rfl,⟨rfl,⟨rfl,⟨rfl,⟨rfl,⟨(i6 (s8 (by omega) (by omega))),trivial⟩⟩⟩⟩⟩⟩,⟨rfl,⟨rfl,⟨(E7 (by exact KL hz4 rfl (by assumption))),⟨(E7 (eU i0 (by omega))),trivial⟩⟩⟩⟩,rfl⟩
   ·
    have h11':=h11
    refine m9<|i9<|l9<|rM ?_
    refine rB ?_
    refine rA<|c9 ?_
    refine n8 ?_ (ih0 (vs++[v7],m + 1) (by(try dsimp only);omega) (by(try dsimp only);exact⟨by simp;omega,by omega⟩))
    exact⟨⟨rfl,⟨rfl,⟨rfl,⟨rfl,⟨rfl,⟨(i6 (s8 (by omega) (by omega))),trivial⟩⟩⟩⟩⟩⟩,⟨rfl,⟨rfl,⟨(E7 (by exact LN hz4 rfl (by assumption))),⟨(E7 (eU i0 (by omega))),trivial⟩⟩⟩⟩,rfl⟩
  ·
   have h2':=l8 h2
   refine R9 rfl<|w9<|rM ?_
   refine rA<|c9 ?_
   refine tk Tryz.func17 (.tmp rfl .nil) ?_ (hL:=⟨E7 ?_,trivial⟩) <;>(try clear ih0)
   all_goals first | rfl | ((exact QL (by assumption) (by omega)))
theorem L7 (code:List Int)(i h:Int)(rs:V9)(fs l:p9)(hc:code.length≤1048576)(hi0:0≤i)(hi1:i≤code.length)(hx:oT rs fs)(hL:∀a∈l,B2 a)(hl4:l.length≤2):MS Tryz.prog 20 [.c (.ptr 0 0),.agg [.t none (.sl 3 (d8 Z9 f9 a8) rs),.t none (.sl 2 (E9 f9 (B9 1 f9)) fs)],.c (.t none (.sl 2 (E9 f9 (B9 1 f9)) l))] [.t none (.sl 1 f6 code),.t none (.v (.int .i64 i)),.t none (.v (.int .i64 h))] (fun(⟨b,i2,h2⟩:(List Int) × Int × Int)=>b.length≤5∧(∀x∈b,s7 x)∧0≤i2∧i2≤code.length) (fun(⟨b,i2,h2⟩:(List Int) × Int × Int)=>[.t none (.sl 1 f6 code),.t none (.v (.int .i64 i2)),.t none (.v (.int .i64 h2))]) (fun(⟨b,i2,h2⟩:(List Int) × Int × Int)=>[]) 1 (fun(⟨b,i2,h2⟩:(List Int) × Int × Int)=> .c (.t none (.sl 1 f9 b))):=by
 refine J7 Tryz.func20 rfl (Nat.le_of_ble_eq_true rfl) fun v0 w S M hM=>?_
 obtain⟨hx1,hx2,hx3,hx4⟩:=hx;have s1:=L0 hx4;have s2:=BV hL;have s3:=YU hx4;have s4:=KS (rs:=rs) hx3 hl4;have s5:∀r∈V6 rs fs l,r.length≤5∧∀x∈r,s7 x:=fun r hr=>⟨Nat.le_of_eq (NX hr),nT s3 hr⟩
 refine w9 ?_
 refine d9 (X9 1 rfl rfl rfl rfl) ?_
 refine rA<|o7 ?_
 refine rC 2 ?_
 refine rM ?_
 refine d9 (n9 2 4 false (N9 Tryz.func58) (T0 rs fs l (by omega) (by omega) (by omega) (by omega)) rfl (.cons rfl (.agg (.cons .t0 (.cons .t0 .nil))) (.cons rfl (.c .t0) .nil)) rfl rfl rfl) ?_
 refine rA<|c9<|k9<|w9 ?_
 refine rM ?_
 refine d9 (M7 rfl rfl rfl rfl) ?_
 refine rB ?_
 refine rM ?_
 refine x9 (fun g1=>?_) (fun g1=>?_)
 ·
  have g1':=j8 g1
  refine rM ?_
  refine x9 (fun _=>?_) (nc g1)
  refine p7 (s9 0 4 5 (pv:=some v0) (N9 Tryz.func18) (J6 code i h 4 (by omega) (by omega) (by omega) (by omega) (by omega)) rfl rfl (.cur rfl (.cons rfl .nil)) rfl (fun⟨_,_,_⟩=>rfl) (fun _=>rfl) (fun⟨_,_,_⟩=>rfl) rfl rfl) ?_
  rintro⟨⟨b2,i23,h24⟩,hq5⟩
  try dsimp only at hq5
  try dsimp only
  refine x9 (fun _=>?_) (nc g1)
  refine d9 (Q8 rfl rfl) ?_
  refine d9 (M9 rfl rfl g1 rfl) ?_
  refine c9 ?_
  refine j9 rfl (fun h7=>?_) (fun h7=>?_)
  ·
   have h7':=(P4 h7)
   refine w9<|rM ?_
   refine rM ?_
   refine rM ?_
   refine d9 (M7 rfl rfl rfl rfl) ?_
   refine p7 (s9 0 5 6 (pv:=some v0) (N9 Tryz.func19) (A9 code i23 h24 (((V6 rs fs l).length:Int)) (by omega) (by omega) (by omega) (by omega) (by omega)) rfl rfl (.cur rfl (.cons rfl .nil)) rfl (fun⟨_,_,_⟩=>rfl) (fun _=>rfl) (fun⟨_,_,_⟩=>rfl) rfl rfl) ?_
   rintro⟨⟨x8,i29,h210⟩,hq11⟩
   try dsimp only at hq11
   try dsimp only
   obtain⟨q12,q13⟩:=hq11
   obtain⟨z14,hz15,b16⟩:=t9 (xs:=V6 rs fs l) (n:=x8) (by omega) (by omega)
   refine d9 (t8 rfl (by kernel_rfl) rfl rfl rfl b16 (f8 b16 hz15)) ?_
   refine d9 (p8 rfl (by kernel_rfl) rfl rfl rfl hz15) ?_
   refine rA<|c9 ?_
   refine o9 3 rfl (W9 (i:=3) hM rfl rfl rfl) ?_
   refine w7 Tryz.func20 (.tmp rfl .nil) (⟨z14,i29,h210⟩) ?_ ?_ (hL:=⟨rfl,trivial⟩) <;>(try clear ih0)
   ·(try dsimp only) <;>((exact⟨(s5 _ (J8 (by assumption))).1,(s5 _ (J8 (by assumption))).2,by omega⟩))
   ·rfl
  ·
   have h7':=(O4 h7)
   refine m9<|w9 ?_
   refine d9 (C7 5 (e:=3) (sz:=1) (zs:=[.int .i64 0]) f9 rfl rfl (by kernel_rfl) rfl) ?_
   refine rA<|c9<|k9<|r9 ?_
   refine L9 (fun(b,i3,h3)=>⟨[(0,some (.c (.ptr 0 0))),(6,some (.c (.t none (.v (.slice none 0 0))))),(8,some (.c (.own 5)))],[(0,some (.pbox v0 [.t none (.sl 1 f6 code),.t none (.v (.int .i64 i3)),.t none (.v (.int .i64 h3))])),(1,some (.box [.t none (.sl 3 (d8 Z9 f9 a8) rs),.t none (.sl 2 (E9 f9 (B9 1 f9)) fs)])),(3,some (.row none 31 true 1 (B9 1 f9) (V6 rs fs l))),(5,some (.row none 3 true 1 f9 b))],6⟩:List Int × Int × Int→St) (fun(b,i3,h3)=>b.length≤5∧(∀x∈b,s7 x)∧(0≤i3∧i3≤code.length)) (fun(b,i3,h3)=>5 - b.length) ([],i23,h24) ⟨⟨rfl,⟨rfl,⟨rfl,trivial⟩⟩⟩,⟨rfl,⟨rfl,⟨rfl,⟨rfl,trivial⟩⟩⟩⟩,rfl⟩ (by exact⟨by simp,fun x hx=>by simp at hx,by omega⟩) ?_
   rintro⟨b,i3,h3⟩ hI ih0
   try dsimp only at hI ih0
   obtain⟨j1,j2,j3⟩:=hI
   refine k9<|w9<|rM ?_
   refine d9 (M7 rfl rfl rfl rfl) ?_
   refine rM ?_
   refine p7 (s9 0 6 7 (pv:=some v0) (N9 Tryz.func19) (A9 code i3 h3 12 (by omega) (by omega) (by omega) (by omega) (by omega)) rfl rfl (.cur rfl (.cons rfl .nil)) rfl (fun⟨_,_,_⟩=>rfl) (fun _=>rfl) (fun⟨_,_,_⟩=>rfl) rfl rfl) ?_
   rintro⟨⟨x17,i218,h219⟩,hq20⟩
   try dsimp only at hq20
   try dsimp only
   obtain⟨q21,q22⟩:=hq20
   refine d9 (RS rfl rfl rfl (jK rfl (by omega))) ?_
   refine rB ?_
   refine rB<|c9 ?_
   refine j9 rfl (fun h23=>?_) (fun h23=>?_)
   ·
    have h23':=j8 h23
    refine m9<|r9<|l9<|rM ?_
    refine rM ?_
    refine d9 (G8 7 (e:=3) (sz:=1) (zs:=[.int .i64 0]) rfl rfl (by kernel_rfl) rfl rfl rfl rfl rfl) ?_
    refine sV 7 (enc:=f9) ([10,10,0,1,2, -1, -2]) rfl (.cons (.cons (.cons (.cons (.cons (.cons (.cons .nil))))))) (W9 (i:=7) hM rfl rfl rfl) ?_
    refine p7 (s9 0 8 9 (pv:=some v0) (N9 Tryz.func60) (Y9 code i218 h219 ([10,10,0,1,2, -1, -2]) (by omega) (by omega) (by omega) (by(simp only [List.length_cons,List.length_nil];omega)) (by(simp only [List.length_cons,List.length_nil];omega))) rfl rfl (.cur rfl (.cons rfl .nil)) rfl (fun⟨_,_,_⟩=>rfl) (fun _=>rfl) (fun⟨_,_,_⟩=>rfl) rfl rfl) ?_
    rintro⟨⟨x24,i225,h226⟩,hq27⟩
    try dsimp only at hq27
    try dsimp only
    obtain⟨q28,q29⟩:=hq27
    refine d9 (G8 9 (e:=3) (sz:=1) (zs:=[.int .i64 0]) rfl rfl (by kernel_rfl) rfl rfl rfl rfl rfl) ?_
    refine d9 (i8 5 (e:=3) (sz:=1) (by':=8) x24 rfl (by kernel_rfl) rfl rfl rfl rfl rfl rfl (.cons .sc .nil) rfl (by omega) (by omega)) ?_
    refine rA<|c9<|i9 ?_
    refine n8 ?_ (ih0 (b++[x24],i225,h226) (by(try dsimp only);(simp only [List.length_append,List.length_singleton,IntKind.wrap_i64] at *;omega)) (by(try dsimp only);exact⟨(by simp only [List.length_append,List.length_singleton,IntKind.wrap_i64] at *;omega),m7 j2 (wI (by assumption)),by omega⟩))
    exact⟨⟨rfl,⟨rfl,⟨rfl,trivial⟩⟩⟩,⟨rfl,⟨rfl,⟨rfl,⟨rfl,trivial⟩⟩⟩⟩,rfl⟩
   ·
    have h23':=l8 h23
    refine R9 rfl<|w9<|rM ?_
    refine rA<|c9 ?_
    refine o9 5 rfl (W9 (i:=5) hM rfl rfl rfl) ?_
    refine w7 Tryz.func20 (.tmp rfl .nil) (⟨b,i218,h219⟩) ?_ ?_ (hL:=⟨rfl,trivial⟩) <;>(try clear ih0)
    ·(try dsimp only) <;>((exact⟨j1,j2,by omega⟩))
    ·rfl
 ·
  have g1':=l8 g1
  refine x9 (C9 g1) (fun _=>?_)
  refine x9 (C9 g1) (fun _=>?_)
  refine d9 (H9 rfl rfl g1 rfl) ?_
  refine c9 ?_
  refine j9 rfl (C9 rfl) (fun _=>?_)
  refine m9<|w9 ?_
  refine d9 (C7 4 (e:=3) (sz:=1) (zs:=[.int .i64 0]) f9 rfl rfl (by kernel_rfl) rfl) ?_
  refine rA<|c9<|k9<|r9 ?_
  refine L9 (fun(b,i3,h3)=>⟨[(0,some (.c (.ptr 0 0))),(6,some (.c (.t none (.v (.slice none 0 0))))),(8,some (.c (.own 4)))],[(0,some (.pbox v0 [.t none (.sl 1 f6 code),.t none (.v (.int .i64 i3)),.t none (.v (.int .i64 h3))])),(1,some (.box [.t none (.sl 3 (d8 Z9 f9 a8) rs),.t none (.sl 2 (E9 f9 (B9 1 f9)) fs)])),(3,some (.row none 31 true 1 (B9 1 f9) (V6 rs fs l))),(4,some (.row none 3 true 1 f9 b))],5⟩:List Int × Int × Int→St) (fun(b,i3,h3)=>b.length≤5∧(∀x∈b,s7 x)∧(0≤i3∧i3≤code.length)) (fun(b,i3,h3)=>5 - b.length) ([],i,h) ⟨⟨rfl,⟨rfl,⟨rfl,trivial⟩⟩⟩,⟨rfl,⟨rfl,⟨rfl,⟨rfl,trivial⟩⟩⟩⟩,rfl⟩ (by exact⟨by simp,fun x hx=>by simp at hx,by omega⟩) ?_
  rintro⟨b,i3,h3⟩ hI ih0
  try dsimp only at hI ih0
  obtain⟨j1,j2,j3⟩:=hI
  refine k9<|w9<|rM ?_
  refine d9 (M7 rfl rfl rfl rfl) ?_
  refine rM ?_
  refine p7 (s9 0 5 6 (pv:=some v0) (N9 Tryz.func19) (A9 code i3 h3 12 (by omega) (by omega) (by omega) (by omega) (by omega)) rfl rfl (.cur rfl (.cons rfl .nil)) rfl (fun⟨_,_,_⟩=>rfl) (fun _=>rfl) (fun⟨_,_,_⟩=>rfl) rfl rfl) ?_
  rintro⟨⟨x30,i231,h232⟩,hq33⟩
  try dsimp only at hq33
  try dsimp only
  obtain⟨q34,q35⟩:=hq33
  refine d9 (RS rfl rfl rfl (jK rfl (by omega))) ?_
  refine rB ?_
  refine rB<|c9 ?_
  refine j9 rfl (fun h36=>?_) (fun h36=>?_)
  ·
   have h36':=j8 h36
   refine m9<|r9<|l9<|rM ?_
   refine rM ?_
   refine d9 (G8 6 (e:=3) (sz:=1) (zs:=[.int .i64 0]) rfl rfl (by kernel_rfl) rfl rfl rfl rfl rfl) ?_
   refine sV 6 (enc:=f9) ([10,10,0,1,2, -1, -2]) rfl (.cons (.cons (.cons (.cons (.cons (.cons (.cons .nil))))))) (W9 (i:=6) hM rfl rfl rfl) ?_
   refine p7 (s9 0 7 8 (pv:=some v0) (N9 Tryz.func60) (Y9 code i231 h232 ([10,10,0,1,2, -1, -2]) (by omega) (by omega) (by omega) (by(simp only [List.length_cons,List.length_nil];omega)) (by(simp only [List.length_cons,List.length_nil];omega))) rfl rfl (.cur rfl (.cons rfl .nil)) rfl (fun⟨_,_,_⟩=>rfl) (fun _=>rfl) (fun⟨_,_,_⟩=>rfl) rfl rfl) ?_
   rintro⟨⟨x37,i238,h239⟩,hq40⟩
   try dsimp only at hq40
   try dsimp only
   obtain⟨q41,q42⟩:=hq40
   refine d9 (G8 8 (e:=3) (sz:=1) (zs:=[.int .i64 0]) rfl rfl (by kernel_rfl) rfl rfl rfl rfl rfl) ?_
   refine d9 (i8 4 (e:=3) (sz:=1) (by':=8) x37 rfl (by kernel_rfl) rfl rfl rfl rfl rfl rfl (.cons .sc .nil) rfl (by omega) (by omega)) ?_
   refine rA<|c9<|i9 ?_
   refine n8 ?_ (ih0 (b++[x37],i238,h239) (by(try dsimp only);(simp only [List.length_append,List.length_singleton,IntKind.wrap_i64] at *;omega)) (by(try dsimp only);exact⟨(by simp only [List.length_append,List.length_singleton,IntKind.wrap_i64] at *;omega),m7 j2 (wI (by assumption)),by omega⟩))
   exact⟨⟨rfl,⟨rfl,⟨rfl,trivial⟩⟩⟩,⟨rfl,⟨rfl,⟨rfl,⟨rfl,trivial⟩⟩⟩⟩,rfl⟩
  ·
   have h36':=l8 h36
   refine R9 rfl<|w9<|rM ?_
   refine rA<|c9 ?_
   refine o9 4 rfl (W9 (i:=4) hM rfl rfl rfl) ?_
   refine w7 Tryz.func20 (.tmp rfl .nil) (⟨b,i231,h232⟩) ?_ ?_ (hL:=⟨rfl,trivial⟩) <;>(try clear ih0)
   ·(try dsimp only) <;>((exact⟨j1,j2,by omega⟩))
   ·rfl
end Go.Eng
